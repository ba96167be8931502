/- The rules of 7 functions: from what is owed at each place of a function the function goes on as it is told there. Printed by a program of this seat; Lean checks each. -/
import Derived.Test.YtpmgbnlenpgdoaaAmLawIndentParts2
import Derived.Test.YtpmgbnlenpgdoaaTab
open Go Go.Am Go.Am.Seat
namespace Go.Am.Seat
set_option linter.unusedVariables false
set_option maxRecDepth 100000
theorem hf13 : Go.Proofs.Try.prog.funcs[13]? = some Go.Proofs.Try.f13 := by kernel_rfl
abbrev s13_e (t : ByteArray) (on : Nat) (ofa : Nat → Int) (ofba : Nat → Int) (ofbba : Nat → Int) : List (Nat × AV) := [(0, (.sc (.string t))), (1, (.vec true 3 on on (fun i0 => (.cons 1 (.sc (.int .i64 (ofa i0))) (.cons 1 (.sc (.int .i64 (ofba i0))) (.cons 1 (.sc (.int .i64 (ofbba i0))) .nil))))))]
abbrev m13_e (t : ByteArray) (on : Nat) (ofa : Nat → Int) (ofba : Nat → Int) (ofbba : Nat → Int) : List (Nat × Nat × AV) := []
def L13_e (t : ByteArray) (on : Nat) (ofa : Nat → Int) (ofba : Nat → Int) (ofbba : Nat → Int) (res : AV) : Prop := Goes ⟨Go.Proofs.Try.prog, 13, [], res, []⟩ (place Go.Proofs.Try.f13 []) (s13_e t on ofa ofba ofbba) (m13_e t on ofa ofba ofbba)
abbrev s13_0 (t : ByteArray) (on : Nat) (ofa : Nat → Int) (ofba : Nat → Int) (ofbba : Nat → Int) (t7n : Nat) (t8 : Int) (t9 : Int) (b0an : Nat) (b0afa : Nat → Int) (b0afba : Nat → Int) (b0afbba : Nat → Int) (b0ban : Nat) (b0bafan : Nat → Nat) (b0bafaf : Nat → Nat → Int) (b0bafba : Nat → Int) (b0bafbba : Nat → Int) (b0bafbbba : Nat → Bool) (b0bafbbbba : Nat → Int) (b0bban : Nat) (b0bbaf : Nat → Int) (b0bbban : Nat) (b0bbbafa : Nat → Int) (b0bbbafba : Nat → Int) (b0bbbafbba : Nat → Int) (b1n : Nat) (b1fa : Nat → Int) (b1fba : Nat → Int) (b1fbba : Nat → Int) : List (Nat × AV) := [(0, (.sc (.string t))), (1, (.vec true 3 on on (fun i0 => (.cons 1 (.sc (.int .i64 (ofa i0))) (.cons 1 (.sc (.int .i64 (ofba i0))) (.cons 1 (.sc (.int .i64 (ofbba i0))) .nil)))))), (5, (.pt 1000 [] 0)), (7, (.rf 1001 3 0 t7n)), (8, (.sc (.int .i64 t8))), (9, (.sc (.int .i64 t9)))]
abbrev m13_0 (t : ByteArray) (on : Nat) (ofa : Nat → Int) (ofba : Nat → Int) (ofbba : Nat → Int) (t7n : Nat) (t8 : Int) (t9 : Int) (b0an : Nat) (b0afa : Nat → Int) (b0afba : Nat → Int) (b0afbba : Nat → Int) (b0ban : Nat) (b0bafan : Nat → Nat) (b0bafaf : Nat → Nat → Int) (b0bafba : Nat → Int) (b0bafbba : Nat → Int) (b0bafbbba : Nat → Bool) (b0bafbbbba : Nat → Int) (b0bban : Nat) (b0bbaf : Nat → Int) (b0bbban : Nat) (b0bbbafa : Nat → Int) (b0bbbafba : Nat → Int) (b0bbbafbba : Nat → Int) (b1n : Nat) (b1fa : Nat → Int) (b1fba : Nat → Int) (b1fbba : Nat → Int) : List (Nat × Nat × AV) := [(1000, 76, (.cons 1 (.vec false 3 b0an b0an (fun i0 => (.cons 1 (.sc (.int .i64 (b0afa i0))) (.cons 1 (.sc (.int .i64 (b0afba i0))) (.cons 1 (.sc (.int .i64 (b0afbba i0))) .nil))))) (.cons 1 (.vec false 5 b0ban b0ban (fun i0 => (.cons 1 (.vec false 1 (b0bafan i0) (b0bafan i0) (fun i1 => (.sc (.int .i64 (b0bafaf i0 i1))))) (.cons 1 (.sc (.int .i64 (b0bafba i0))) (.cons 1 (.sc (.int .i64 (b0bafbba i0))) (.cons 1 (.sc (.bool (b0bafbbba i0))) (.cons 1 (.sc (.int .i64 (b0bafbbbba i0))) .nil))))))) (.cons 1 (.vec false 1 b0bban b0bban (fun i0 => (.sc (.int .i64 (b0bbaf i0))))) (.cons 1 (.vec false 3 b0bbban b0bbban (fun i0 => (.cons 1 (.sc (.int .i64 (b0bbbafa i0))) (.cons 1 (.sc (.int .i64 (b0bbbafba i0))) (.cons 1 (.sc (.int .i64 (b0bbbafbba i0))) .nil))))) .nil))))), (1001, 81, (.ar b1n 3 (fun i0 => (.cons 1 (.sc (.int .i64 (b1fa i0))) (.cons 1 (.sc (.int .i64 (b1fba i0))) (.cons 1 (.sc (.int .i64 (b1fbba i0))) .nil))))))]
def L13_0 (t : ByteArray) (on : Nat) (ofa : Nat → Int) (ofba : Nat → Int) (ofbba : Nat → Int) (t7n : Nat) (t8 : Int) (t9 : Int) (b0an : Nat) (b0afa : Nat → Int) (b0afba : Nat → Int) (b0afbba : Nat → Int) (b0ban : Nat) (b0bafan : Nat → Nat) (b0bafaf : Nat → Nat → Int) (b0bafba : Nat → Int) (b0bafbba : Nat → Int) (b0bafbbba : Nat → Bool) (b0bafbbbba : Nat → Int) (b0bban : Nat) (b0bbaf : Nat → Int) (b0bbban : Nat) (b0bbbafa : Nat → Int) (b0bbbafba : Nat → Int) (b0bbbafbba : Nat → Int) (b1n : Nat) (b1fa : Nat → Int) (b1fba : Nat → Int) (b1fbba : Nat → Int) (res : AV) : Prop := Goes ⟨Go.Proofs.Try.prog, 13, [], res, []⟩ (place Go.Proofs.Try.f13 [1, 1, 1, 1, 1, 1, 1, 0, 1, 0, 0]) (s13_0 t on ofa ofba ofbba t7n t8 t9 b0an b0afa b0afba b0afbba b0ban b0bafan b0bafaf b0bafba b0bafbba b0bafbbba b0bafbbbba b0bban b0bbaf b0bbban b0bbbafa b0bbbafba b0bbbafbba b1n b1fa b1fba b1fbba) (m13_0 t on ofa ofba ofbba t7n t8 t9 b0an b0afa b0afba b0afbba b0ban b0bafan b0bafaf b0bafba b0bafbba b0bafbbba b0bafbbbba b0bban b0bbaf b0bbban b0bbbafa b0bbbafba b0bbbafbba b1n b1fa b1fba b1fbba)
theorem o13 (t : ByteArray) (on : Nat) (ofa : Nat → Int) (ofba : Nat → Int) (ofbba : Nat → Int) (res : AV) (hnew : newOnly res) (h : L13_e t on ofa ofba ofbba res) : Ok Go.Proofs.Try.prog 13 [(.sc (.string t)), (.vec true 3 on on (fun i0 => (.cons 1 (.sc (.int .i64 (ofa i0))) (.cons 1 (.sc (.int .i64 (ofba i0))) (.cons 1 (.sc (.int .i64 (ofbba i0))) .nil)))))] [] res [] :=
  okRule2 13 Go.Proofs.Try.f13 hf13 [(.sc (.string t)), (.vec true 3 on on (fun i0 => (.cons 1 (.sc (.int .i64 (ofa i0))) (.cons 1 (.sc (.int .i64 (ofba i0))) (.cons 1 (.sc (.int .i64 (ofbba i0))) .nil)))))] [] res [] [] rfl (by kernel_rfl) (by kernel_rfl) (by kernel_rfl) ⟨hnew, by simp⟩ (L13_e t on ofa ofba ofbba res) (by kernel_rfl) h
theorem r13_e (t : ByteArray) (on : Nat) (ofa : Nat → Int) (ofba : Nat → Int) (ofbba : Nat → Int) (res : AV)
    (h : (decide ((↑on : Int) > (300 : Int)) = true → Sub (AV.sc (Value.bool true)) res) ∧
  (decide ((↑on : Int) > (300 : Int)) = false →
    ∃ (r :
    Nat ×
    (Nat → Int) ×
    (Nat → Int) ×
    (Nat → Int) ×
    Nat ×
    (Nat → Nat) ×
    (Nat → Nat → Int) ×
    (Nat → Int) × (Nat → Int) × (Nat → Bool) × (Nat → Int) × Nat × (Nat → Int) × Nat × (Nat → Int) × (Nat → Int) × (Nat → Int) × Int),
    Ok Proofs.Try.prog (41 : Nat)
    [AV.sc (Value.string t),
    AV.vec true (3 : Nat) on on fun (i : Nat) =>
    AV.cons (1 : Nat) (AV.sc (Value.int IntKind.i64 (ofa i)))
    (AV.cons (1 : Nat) (AV.sc (Value.int IntKind.i64 (ofba i))) (AV.cons (1 : Nat) (AV.sc (Value.int IntKind.i64 (ofbba i))) AV.nil))]
    []
    (AV.cons (1 : Nat)
    (AV.cons (1 : Nat)
    (AV.vec false (3 : Nat) r.fst r.fst fun (i0 : Nat) =>
    AV.cons (1 : Nat) (AV.sc (Value.int IntKind.i64 (r.snd.fst i0)))
    (AV.cons (1 : Nat) (AV.sc (Value.int IntKind.i64 (r.snd.snd.fst i0)))
    (AV.cons (1 : Nat) (AV.sc (Value.int IntKind.i64 (r.snd.snd.snd.fst i0))) AV.nil)))
    (AV.cons (1 : Nat)
    (AV.vec false (5 : Nat) r.snd.snd.snd.snd.fst r.snd.snd.snd.snd.fst fun (i0 : Nat) =>
    AV.cons (1 : Nat)
    (AV.vec false (1 : Nat) (r.snd.snd.snd.snd.snd.fst i0) (r.snd.snd.snd.snd.snd.fst i0) fun (i1 : Nat) =>
    AV.sc (Value.int IntKind.i64 (r.snd.snd.snd.snd.snd.snd.fst i0 i1)))
    (AV.cons (1 : Nat) (AV.sc (Value.int IntKind.i64 (r.snd.snd.snd.snd.snd.snd.snd.fst i0)))
    (AV.cons (1 : Nat) (AV.sc (Value.int IntKind.i64 (r.snd.snd.snd.snd.snd.snd.snd.snd.fst i0)))
    (AV.cons (1 : Nat) (AV.sc (Value.bool (r.snd.snd.snd.snd.snd.snd.snd.snd.snd.fst i0)))
    (AV.cons (1 : Nat) (AV.sc (Value.int IntKind.i64 (r.snd.snd.snd.snd.snd.snd.snd.snd.snd.snd.fst i0))) AV.nil)))))
    (AV.cons (1 : Nat)
    (AV.vec false (1 : Nat) r.snd.snd.snd.snd.snd.snd.snd.snd.snd.snd.snd.fst r.snd.snd.snd.snd.snd.snd.snd.snd.snd.snd.snd.fst
    fun (i0 : Nat) => AV.sc (Value.int IntKind.i64 (r.snd.snd.snd.snd.snd.snd.snd.snd.snd.snd.snd.snd.fst i0)))
    (AV.cons (1 : Nat)
    (AV.vec false (3 : Nat) r.snd.snd.snd.snd.snd.snd.snd.snd.snd.snd.snd.snd.snd.fst
    r.snd.snd.snd.snd.snd.snd.snd.snd.snd.snd.snd.snd.snd.fst fun (i0 : Nat) =>
    AV.cons (1 : Nat) (AV.sc (Value.int IntKind.i64 (r.snd.snd.snd.snd.snd.snd.snd.snd.snd.snd.snd.snd.snd.snd.fst i0)))
    (AV.cons (1 : Nat) (AV.sc (Value.int IntKind.i64 (r.snd.snd.snd.snd.snd.snd.snd.snd.snd.snd.snd.snd.snd.snd.snd.fst i0)))
    (AV.cons (1 : Nat) (AV.sc (Value.int IntKind.i64 (r.snd.snd.snd.snd.snd.snd.snd.snd.snd.snd.snd.snd.snd.snd.snd.snd.fst i0)))
    AV.nil)))
    AV.nil))))
    (AV.cons (1 : Nat) (AV.sc (Value.int IntKind.i64 r.snd.snd.snd.snd.snd.snd.snd.snd.snd.snd.snd.snd.snd.snd.snd.snd.snd)) AV.nil)).tup
    [] ∧
    ((r.snd.snd.snd.snd.snd.snd.snd.snd.snd.snd.snd.snd.snd.snd.snd.snd.snd != (0 : Int)) = true →
    ∃ (r : Bool), Ok Proofs.Try.prog (39 : Nat) [] [] (AV.sc (Value.bool r)) [] ∧ Sub (AV.sc (Value.bool r)) res) ∧
    ((r.snd.snd.snd.snd.snd.snd.snd.snd.snd.snd.snd.snd.snd.snd.snd.snd.snd != (0 : Int)) = false →
    (((↑r.snd.snd.snd.snd.fst : Int) != IntKind.i64.wrap ((↑on : Int) + (1 : Int))) = false →
    (((↑r.snd.snd.snd.snd.snd.snd.snd.snd.snd.snd.snd.fst : Int) != IntKind.i64.wrap ((↑on : Int) + (1 : Int))) = false →
    ((0 : Int) ≤ (0 : Int) ∧ (0 : Int) < (↑r.snd.snd.snd.snd.fst : Int)) ∧
    ∃ (r_1 : Nat × Int × Int × Bool × Int × Nat × (Nat → Int)),
    Ok Proofs.Try.prog (31 : Nat) [] []
    (AV.cons (1 : Nat) (AV.rf (1000 : Nat) (1 : Nat) (0 : Nat) r_1.fst)
    (AV.cons (1 : Nat) (AV.sc (Value.int IntKind.i64 r_1.snd.fst))
    (AV.cons (1 : Nat) (AV.sc (Value.int IntKind.i64 r_1.snd.snd.fst))
    (AV.cons (1 : Nat) (AV.sc (Value.bool r_1.snd.snd.snd.fst))
    (AV.cons (1 : Nat) (AV.sc (Value.int IntKind.i64 r_1.snd.snd.snd.snd.fst)) AV.nil)))))
    [((1000 : Nat), (3 : Nat),
    AV.ar r_1.snd.snd.snd.snd.snd.fst (1 : Nat) fun (i0 : Nat) => AV.sc (Value.int IntKind.i64 (r_1.snd.snd.snd.snd.snd.snd i0)))] ∧
    ∃ (r_2 : Bool),
    ((0 : Nat) + r_1.fst ≤ r_1.snd.snd.snd.snd.snd.fst ∧
    Ok Proofs.Try.prog (32 : Nat)
    [AV.cons (1 : Nat)
    (AV.vec true (1 : Nat) (r.snd.snd.snd.snd.snd.fst (Int.toNat (0 : Int))) (r.snd.snd.snd.snd.snd.fst (Int.toNat (0 : Int)))
    fun (i : Nat) => AV.sc (Value.int IntKind.i64 (r.snd.snd.snd.snd.snd.snd.fst (Int.toNat (0 : Int)) i)))
    (AV.cons (1 : Nat) (AV.sc (Value.int IntKind.i64 (r.snd.snd.snd.snd.snd.snd.snd.fst (Int.toNat (0 : Int)))))
    (AV.cons (1 : Nat) (AV.sc (Value.int IntKind.i64 (r.snd.snd.snd.snd.snd.snd.snd.snd.fst (Int.toNat (0 : Int)))))
    (AV.cons (1 : Nat) (AV.sc (Value.bool (r.snd.snd.snd.snd.snd.snd.snd.snd.snd.fst (Int.toNat (0 : Int)))))
    (AV.cons (1 : Nat)
    (AV.sc (Value.int IntKind.i64 (r.snd.snd.snd.snd.snd.snd.snd.snd.snd.snd.fst (Int.toNat (0 : Int))))) AV.nil)))),
    AV.cons (1 : Nat)
    (AV.vec true (1 : Nat) r_1.fst (r_1.snd.snd.snd.snd.snd.fst - (0 : Nat)) fun (i : Nat) =>
    AV.sc (Value.int IntKind.i64 (r_1.snd.snd.snd.snd.snd.snd (plus (0 : Nat) i))))
    (AV.cons (1 : Nat) (AV.sc (Value.int IntKind.i64 r_1.snd.fst))
    (AV.cons (1 : Nat) (AV.sc (Value.int IntKind.i64 r_1.snd.snd.fst))
    (AV.cons (1 : Nat) (AV.sc (Value.bool r_1.snd.snd.snd.fst))
    (AV.cons (1 : Nat) (AV.sc (Value.int IntKind.i64 r_1.snd.snd.snd.snd.fst)) AV.nil))))]
    [] (AV.sc (Value.bool r_2)) []) ∧
    ((!r_2) = true → Sub (AV.sc (Value.bool false)) res) ∧
    ((!r_2) = false →
    L13_0 t on ofa ofba ofbba (0 : Nat) (0 : Int) (0 : Int) r.fst r.snd.fst r.snd.snd.fst r.snd.snd.snd.fst r.snd.snd.snd.snd.fst
    r.snd.snd.snd.snd.snd.fst r.snd.snd.snd.snd.snd.snd.fst r.snd.snd.snd.snd.snd.snd.snd.fst
    r.snd.snd.snd.snd.snd.snd.snd.snd.fst r.snd.snd.snd.snd.snd.snd.snd.snd.snd.fst
    r.snd.snd.snd.snd.snd.snd.snd.snd.snd.snd.fst r.snd.snd.snd.snd.snd.snd.snd.snd.snd.snd.snd.fst
    r.snd.snd.snd.snd.snd.snd.snd.snd.snd.snd.snd.snd.fst r.snd.snd.snd.snd.snd.snd.snd.snd.snd.snd.snd.snd.snd.fst
    r.snd.snd.snd.snd.snd.snd.snd.snd.snd.snd.snd.snd.snd.snd.fst
    r.snd.snd.snd.snd.snd.snd.snd.snd.snd.snd.snd.snd.snd.snd.snd.fst
    r.snd.snd.snd.snd.snd.snd.snd.snd.snd.snd.snd.snd.snd.snd.snd.snd.fst (0 : Nat) (fun (i : Nat) => Int.ofNat (0 : Nat))
    (fun (i : Nat) => Int.ofNat (0 : Nat)) (fun (i : Nat) => Int.ofNat (0 : Nat)) res)) ∧
    (((↑r.snd.snd.snd.snd.snd.snd.snd.snd.snd.snd.snd.fst : Int) != IntKind.i64.wrap ((↑on : Int) + (1 : Int))) = !false →
    Sub (AV.sc (Value.bool false)) res)) ∧
    (((↑r.snd.snd.snd.snd.fst : Int) != IntKind.i64.wrap ((↑on : Int) + (1 : Int))) = !false → Sub (AV.sc (Value.bool false)) res)))) :
    L13_e t on ofa ofba ofbba res :=
  rule Go.Am.Seat.tabOk 13 [] Go.Proofs.Try.f13 hf13 [] (s13_e t on ofa ofba ofbba) (m13_e t on ofa ofba ofbba) res [] 400
    ((Orc.fin (AV.sc (Value.bool true)) [] []).br
  (Orc.call [] []
    (fun
    (r41 :
    Nat ×
    (Nat → Int) ×
    (Nat → Int) ×
    (Nat → Int) ×
    Nat ×
    (Nat → Nat) ×
    (Nat → Nat → Int) ×
    (Nat → Int) × (Nat → Int) × (Nat → Bool) × (Nat → Int) × Nat × (Nat → Int) × Nat × (Nat → Int) × (Nat → Int) × (Nat → Int) × Int) =>
    (AV.cons (1 : Nat)
    (AV.cons (1 : Nat)
    (AV.vec false (3 : Nat) r41.fst r41.fst fun (i0 : Nat) =>
    AV.cons (1 : Nat) (AV.sc (Value.int IntKind.i64 (r41.snd.fst i0)))
    (AV.cons (1 : Nat) (AV.sc (Value.int IntKind.i64 (r41.snd.snd.fst i0)))
    (AV.cons (1 : Nat) (AV.sc (Value.int IntKind.i64 (r41.snd.snd.snd.fst i0))) AV.nil)))
    (AV.cons (1 : Nat)
    (AV.vec false (5 : Nat) r41.snd.snd.snd.snd.fst r41.snd.snd.snd.snd.fst fun (i0 : Nat) =>
    AV.cons (1 : Nat)
    (AV.vec false (1 : Nat) (r41.snd.snd.snd.snd.snd.fst i0) (r41.snd.snd.snd.snd.snd.fst i0) fun (i1 : Nat) =>
    AV.sc (Value.int IntKind.i64 (r41.snd.snd.snd.snd.snd.snd.fst i0 i1)))
    (AV.cons (1 : Nat) (AV.sc (Value.int IntKind.i64 (r41.snd.snd.snd.snd.snd.snd.snd.fst i0)))
    (AV.cons (1 : Nat) (AV.sc (Value.int IntKind.i64 (r41.snd.snd.snd.snd.snd.snd.snd.snd.fst i0)))
    (AV.cons (1 : Nat) (AV.sc (Value.bool (r41.snd.snd.snd.snd.snd.snd.snd.snd.snd.fst i0)))
    (AV.cons (1 : Nat) (AV.sc (Value.int IntKind.i64 (r41.snd.snd.snd.snd.snd.snd.snd.snd.snd.snd.fst i0))) AV.nil)))))
    (AV.cons (1 : Nat)
    (AV.vec false (1 : Nat) r41.snd.snd.snd.snd.snd.snd.snd.snd.snd.snd.snd.fst r41.snd.snd.snd.snd.snd.snd.snd.snd.snd.snd.snd.fst
    fun (i0 : Nat) => AV.sc (Value.int IntKind.i64 (r41.snd.snd.snd.snd.snd.snd.snd.snd.snd.snd.snd.snd.fst i0)))
    (AV.cons (1 : Nat)
    (AV.vec false (3 : Nat) r41.snd.snd.snd.snd.snd.snd.snd.snd.snd.snd.snd.snd.snd.fst
    r41.snd.snd.snd.snd.snd.snd.snd.snd.snd.snd.snd.snd.snd.fst fun (i0 : Nat) =>
    AV.cons (1 : Nat) (AV.sc (Value.int IntKind.i64 (r41.snd.snd.snd.snd.snd.snd.snd.snd.snd.snd.snd.snd.snd.snd.fst i0)))
    (AV.cons (1 : Nat) (AV.sc (Value.int IntKind.i64 (r41.snd.snd.snd.snd.snd.snd.snd.snd.snd.snd.snd.snd.snd.snd.snd.fst i0)))
    (AV.cons (1 : Nat) (AV.sc (Value.int IntKind.i64 (r41.snd.snd.snd.snd.snd.snd.snd.snd.snd.snd.snd.snd.snd.snd.snd.snd.fst i0)))
    AV.nil)))
    AV.nil))))
    (AV.cons (1 : Nat) (AV.sc (Value.int IntKind.i64 r41.snd.snd.snd.snd.snd.snd.snd.snd.snd.snd.snd.snd.snd.snd.snd.snd.snd)) AV.nil)).tup)
    (fun
    (r41 :
    Nat ×
    (Nat → Int) ×
    (Nat → Int) ×
    (Nat → Int) ×
    Nat ×
    (Nat → Nat) ×
    (Nat → Nat → Int) ×
    (Nat → Int) × (Nat → Int) × (Nat → Bool) × (Nat → Int) × Nat × (Nat → Int) × Nat × (Nat → Int) × (Nat → Int) × (Nat → Int) × Int) =>
    [])
    fun
    (r41 :
    Nat ×
    (Nat → Int) ×
    (Nat → Int) ×
    (Nat → Int) ×
    Nat ×
    (Nat → Nat) ×
    (Nat → Nat → Int) ×
    (Nat → Int) × (Nat → Int) × (Nat → Bool) × (Nat → Int) × Nat × (Nat → Int) × Nat × (Nat → Int) × (Nat → Int) × (Nat → Int) × Int) =>
    (Orc.call [] [] (fun (r39 : Bool) => AV.sc (Value.bool r39)) (fun (r39 : Bool) => []) fun (r39 : Bool) => Orc.fin (AV.sc (Value.bool r39)) [] []).br
    ((Orc.ch Ch.none
    (Orc.ch (Ch.p false)
    ((Orc.call [] [((100450 : Nat), (1000 : Nat))]
    (fun (r31 : Nat × Int × Int × Bool × Int × Nat × (Nat → Int)) =>
    AV.cons (1 : Nat) (AV.rf (1000 : Nat) (1 : Nat) (0 : Nat) r31.fst)
    (AV.cons (1 : Nat) (AV.sc (Value.int IntKind.i64 r31.snd.fst))
    (AV.cons (1 : Nat) (AV.sc (Value.int IntKind.i64 r31.snd.snd.fst))
    (AV.cons (1 : Nat) (AV.sc (Value.bool r31.snd.snd.snd.fst))
    (AV.cons (1 : Nat) (AV.sc (Value.int IntKind.i64 r31.snd.snd.snd.snd.fst)) AV.nil)))))
    (fun (r31 : Nat × Int × Int × Bool × Int × Nat × (Nat → Int)) =>
    [((1000 : Nat), (3 : Nat),
    AV.ar r31.snd.snd.snd.snd.snd.fst (1 : Nat) fun (i0 : Nat) =>
    AV.sc (Value.int IntKind.i64 (r31.snd.snd.snd.snd.snd.snd i0)))])
    fun (r31 : Nat × Int × Int × Bool × Int × Nat × (Nat → Int)) =>
    (Orc.call [] [] (fun (r32 : Bool) => AV.sc (Value.bool r32)) (fun (r32 : Bool) => []) fun (r32 : Bool) =>
    (Orc.ch Ch.none
    (Orc.ch (Ch.p false)
    ((Orc.fin (AV.sc (Value.bool false)) [] []).br
    (Orc.cut (nat_lit 10)
    (s13_0 t on ofa ofba ofbba (0 : Nat) (0 : Int) (0 : Int) r41.fst r41.snd.fst r41.snd.snd.fst
    r41.snd.snd.snd.fst r41.snd.snd.snd.snd.fst r41.snd.snd.snd.snd.snd.fst r41.snd.snd.snd.snd.snd.snd.fst
    r41.snd.snd.snd.snd.snd.snd.snd.fst r41.snd.snd.snd.snd.snd.snd.snd.snd.fst
    r41.snd.snd.snd.snd.snd.snd.snd.snd.snd.fst r41.snd.snd.snd.snd.snd.snd.snd.snd.snd.snd.fst
    r41.snd.snd.snd.snd.snd.snd.snd.snd.snd.snd.snd.fst
    r41.snd.snd.snd.snd.snd.snd.snd.snd.snd.snd.snd.snd.fst
    r41.snd.snd.snd.snd.snd.snd.snd.snd.snd.snd.snd.snd.snd.fst
    r41.snd.snd.snd.snd.snd.snd.snd.snd.snd.snd.snd.snd.snd.snd.fst
    r41.snd.snd.snd.snd.snd.snd.snd.snd.snd.snd.snd.snd.snd.snd.snd.fst
    r41.snd.snd.snd.snd.snd.snd.snd.snd.snd.snd.snd.snd.snd.snd.snd.snd.fst (0 : Nat)
    (fun (i : Nat) => Int.ofNat (0 : Nat)) (fun (i : Nat) => Int.ofNat (0 : Nat)) fun (i : Nat) =>
    Int.ofNat (0 : Nat))
    (m13_0 t on ofa ofba ofbba (0 : Nat) (0 : Int) (0 : Int) r41.fst r41.snd.fst r41.snd.snd.fst
    r41.snd.snd.snd.fst r41.snd.snd.snd.snd.fst r41.snd.snd.snd.snd.snd.fst r41.snd.snd.snd.snd.snd.snd.fst
    r41.snd.snd.snd.snd.snd.snd.snd.fst r41.snd.snd.snd.snd.snd.snd.snd.snd.fst
    r41.snd.snd.snd.snd.snd.snd.snd.snd.snd.fst r41.snd.snd.snd.snd.snd.snd.snd.snd.snd.snd.fst
    r41.snd.snd.snd.snd.snd.snd.snd.snd.snd.snd.snd.fst
    r41.snd.snd.snd.snd.snd.snd.snd.snd.snd.snd.snd.snd.fst
    r41.snd.snd.snd.snd.snd.snd.snd.snd.snd.snd.snd.snd.snd.fst
    r41.snd.snd.snd.snd.snd.snd.snd.snd.snd.snd.snd.snd.snd.snd.fst
    r41.snd.snd.snd.snd.snd.snd.snd.snd.snd.snd.snd.snd.snd.snd.snd.fst
    r41.snd.snd.snd.snd.snd.snd.snd.snd.snd.snd.snd.snd.snd.snd.snd.snd.fst (0 : Nat)
    (fun (i : Nat) => Int.ofNat (0 : Nat)) (fun (i : Nat) => Int.ofNat (0 : Nat)) fun (i : Nat) =>
    Int.ofNat (0 : Nat))
    [((1000 : Nat), some (5 : Nat)), ((1001 : Nat), none)])))).yes).yes).yes.yes.yes.yes.br
    (Orc.ch (Ch.p true) (Orc.fin (AV.sc (Value.bool false)) [] []).yes).no.no.no.no.no.no))).yes.yes.yes.yes.yes.yes.br
    (Orc.ch (Ch.p true) (Orc.ch (Ch.p true) (Orc.fin (AV.sc (Value.bool false)) [] []).yes).no.no.no.no.no.no.no).no.no.no.no.no.no))) _ _ (by kernel_rfl) (by kernel_rfl) (show True ∧
  True ∧
    True ∧
    True ∧
    (decide ((↑on : Int) > (300 : Int)) = true →
    True ∧ True ∧ ((True ∧ Sub (AV.sc (Value.bool true)) (AV.sc (Value.bool true)) ∧ True) ∧ True) ∧ Sub (AV.sc (Value.bool true)) res ∧ SubOut [] []) ∧
    (decide ((↑on : Int) > (300 : Int)) = false →
    True ∧
    True ∧
    ∃ (r :
    Nat ×
    (Nat → Int) ×
    (Nat → Int) ×
    (Nat → Int) ×
    Nat ×
    (Nat → Nat) ×
    (Nat → Nat → Int) ×
    (Nat → Int) ×
    (Nat → Int) × (Nat → Bool) × (Nat → Int) × Nat × (Nat → Int) × Nat × (Nat → Int) × (Nat → Int) × (Nat → Int) × Int),
    ((True ∧ True ∧ True) ∧
    True ∧
    Ok Proofs.Try.prog (41 : Nat)
    [AV.sc (Value.string t),
    AV.vec true (3 : Nat) on on fun (i : Nat) =>
    AV.cons (1 : Nat) (AV.sc (Value.int IntKind.i64 (ofa i)))
    (AV.cons (1 : Nat) (AV.sc (Value.int IntKind.i64 (ofba i)))
    (AV.cons (1 : Nat) (AV.sc (Value.int IntKind.i64 (ofbba i))) AV.nil))]
    []
    (AV.cons (1 : Nat)
    (AV.cons (1 : Nat)
    (AV.vec false (3 : Nat) r.fst r.fst fun (i0 : Nat) =>
    AV.cons (1 : Nat) (AV.sc (Value.int IntKind.i64 (r.snd.fst i0)))
    (AV.cons (1 : Nat) (AV.sc (Value.int IntKind.i64 (r.snd.snd.fst i0)))
    (AV.cons (1 : Nat) (AV.sc (Value.int IntKind.i64 (r.snd.snd.snd.fst i0))) AV.nil)))
    (AV.cons (1 : Nat)
    (AV.vec false (5 : Nat) r.snd.snd.snd.snd.fst r.snd.snd.snd.snd.fst fun (i0 : Nat) =>
    AV.cons (1 : Nat)
    (AV.vec false (1 : Nat) (r.snd.snd.snd.snd.snd.fst i0) (r.snd.snd.snd.snd.snd.fst i0) fun (i1 : Nat) =>
    AV.sc (Value.int IntKind.i64 (r.snd.snd.snd.snd.snd.snd.fst i0 i1)))
    (AV.cons (1 : Nat) (AV.sc (Value.int IntKind.i64 (r.snd.snd.snd.snd.snd.snd.snd.fst i0)))
    (AV.cons (1 : Nat) (AV.sc (Value.int IntKind.i64 (r.snd.snd.snd.snd.snd.snd.snd.snd.fst i0)))
    (AV.cons (1 : Nat) (AV.sc (Value.bool (r.snd.snd.snd.snd.snd.snd.snd.snd.snd.fst i0)))
    (AV.cons (1 : Nat) (AV.sc (Value.int IntKind.i64 (r.snd.snd.snd.snd.snd.snd.snd.snd.snd.snd.fst i0))) AV.nil)))))
    (AV.cons (1 : Nat)
    (AV.vec false (1 : Nat) r.snd.snd.snd.snd.snd.snd.snd.snd.snd.snd.snd.fst r.snd.snd.snd.snd.snd.snd.snd.snd.snd.snd.snd.fst
    fun (i0 : Nat) => AV.sc (Value.int IntKind.i64 (r.snd.snd.snd.snd.snd.snd.snd.snd.snd.snd.snd.snd.fst i0)))
    (AV.cons (1 : Nat)
    (AV.vec false (3 : Nat) r.snd.snd.snd.snd.snd.snd.snd.snd.snd.snd.snd.snd.snd.fst
    r.snd.snd.snd.snd.snd.snd.snd.snd.snd.snd.snd.snd.snd.fst fun (i0 : Nat) =>
    AV.cons (1 : Nat) (AV.sc (Value.int IntKind.i64 (r.snd.snd.snd.snd.snd.snd.snd.snd.snd.snd.snd.snd.snd.snd.fst i0)))
    (AV.cons (1 : Nat)
    (AV.sc (Value.int IntKind.i64 (r.snd.snd.snd.snd.snd.snd.snd.snd.snd.snd.snd.snd.snd.snd.snd.fst i0)))
    (AV.cons (1 : Nat)
    (AV.sc (Value.int IntKind.i64 (r.snd.snd.snd.snd.snd.snd.snd.snd.snd.snd.snd.snd.snd.snd.snd.snd.fst i0)))
    AV.nil)))
    AV.nil))))
    (AV.cons (1 : Nat) (AV.sc (Value.int IntKind.i64 r.snd.snd.snd.snd.snd.snd.snd.snd.snd.snd.snd.snd.snd.snd.snd.snd.snd))
    AV.nil)).tup
    []) ∧
    True ∧
    True ∧
    True ∧
    True ∧
    ((0 : Nat) = (0 : Nat) ∧ True) ∧
    True ∧
    True ∧
    True ∧
    ((r.snd.snd.snd.snd.snd.snd.snd.snd.snd.snd.snd.snd.snd.snd.snd.snd.snd != (0 : Int)) = true →
    ∃ (r : Bool),
    (True ∧ True ∧ Ok Proofs.Try.prog (39 : Nat) [] [] (AV.sc (Value.bool r)) []) ∧
    True ∧
    True ∧
    ((True ∧ Sub (AV.sc (Value.bool r)) (AV.sc (Value.bool r)) ∧ True) ∧ True) ∧
    Sub (AV.sc (Value.bool r)) res ∧ SubOut [] []) ∧
    ((r.snd.snd.snd.snd.snd.snd.snd.snd.snd.snd.snd.snd.snd.snd.snd.snd.snd != (0 : Int)) = false →
    True ∧
    ((1 : Nat) + (0 : Nat) = plus (0 : Nat) (1 : Nat) ∧ True) ∧
    True ∧
    True ∧
    True ∧
    True ∧
    True ∧
    True ∧
    (((↑r.snd.snd.snd.snd.fst : Int) != IntKind.i64.wrap ((↑on : Int) + (1 : Int))) = false →
    True ∧
    ((↑r.snd.snd.snd.snd.fst : Int) != IntKind.i64.wrap ((↑on : Int) + (1 : Int))) = false ∧
    ((1 : Nat) + ((1 : Nat) + (0 : Nat)) = plus (0 : Nat) (2 : Nat) ∧ True) ∧
    ((↑r.snd.snd.snd.snd.fst : Int) != IntKind.i64.wrap ((↑on : Int) + (1 : Int))) = false ∧
    True ∧
    ((↑r.snd.snd.snd.snd.fst : Int) != IntKind.i64.wrap ((↑on : Int) + (1 : Int))) = false ∧
    True ∧
    ((↑r.snd.snd.snd.snd.fst : Int) != IntKind.i64.wrap ((↑on : Int) + (1 : Int))) =
    false ∧
    True ∧
    ((↑r.snd.snd.snd.snd.fst : Int) != IntKind.i64.wrap ((↑on : Int) + (1 : Int))) =
    false ∧
    True ∧
    ((↑r.snd.snd.snd.snd.fst : Int) !=
    IntKind.i64.wrap ((↑on : Int) + (1 : Int))) =
    false ∧
    True ∧
    ((↑r.snd.snd.snd.snd.fst : Int) !=
    IntKind.i64.wrap ((↑on : Int) + (1 : Int))) =
    false ∧
    True ∧
    (((↑r.snd.snd.snd.snd.snd.snd.snd.snd.snd.snd.snd.fst : Int) !=
    IntKind.i64.wrap ((↑on : Int) + (1 : Int))) =
    false →
    True ∧
    ((↑r.snd.snd.snd.snd.snd.snd.snd.snd.snd.snd.snd.fst : Int) !=
    IntKind.i64.wrap ((↑on : Int) + (1 : Int))) =
    false ∧
    ((1 : Nat) + (0 : Nat) = plus (0 : Nat) (1 : Nat) ∧ True) ∧
    ((↑r.snd.snd.snd.snd.snd.snd.snd.snd.snd.snd.snd.fst :
    Int) !=
    IntKind.i64.wrap ((↑on : Int) + (1 : Int))) =
    false ∧
    ((0 : Int) ≤ (0 : Int) ∧
    (0 : Int) < (↑r.snd.snd.snd.snd.fst : Int)) ∧
    ((↑r.snd.snd.snd.snd.snd.snd.snd.snd.snd.snd.snd.fst :
    Int) !=
    IntKind.i64.wrap ((↑on : Int) + (1 : Int))) =
    false ∧
    True ∧
    ((↑r.snd.snd.snd.snd.snd.snd.snd.snd.snd.snd.snd.fst :
    Int) !=
    IntKind.i64.wrap ((↑on : Int) + (1 : Int))) =
    false ∧
    ∃ (r_1 :
    Nat ×
    Int × Int × Bool × Int × Nat × (Nat → Int)),
    (True ∧
    True ∧
    Ok Proofs.Try.prog (31 : Nat) [] []
    (AV.cons (1 : Nat)
    (AV.rf (1000 : Nat) (1 : Nat)
    (0 : Nat) r_1.fst)
    (AV.cons (1 : Nat)
    (AV.sc
    (Value.int IntKind.i64
    r_1.snd.fst))
    (AV.cons (1 : Nat)
    (AV.sc
    (Value.int IntKind.i64
    r_1.snd.snd.fst))
    (AV.cons (1 : Nat)
    (AV.sc
    (Value.bool
    r_1.snd.snd.snd.fst))
    (AV.cons (1 : Nat)
    (AV.sc
    (Value.int IntKind.i64
    r_1.snd.snd.snd.snd.fst))
    AV.nil)))))
    [((1000 : Nat), (3 : Nat),
    AV.ar r_1.snd.snd.snd.snd.snd.fst
    (1 : Nat) fun (i0 : Nat) =>
    AV.sc
    (Value.int IntKind.i64
    (r_1.snd.snd.snd.snd.snd.snd
    i0)))]) ∧
    ((↑r.snd.snd.snd.snd.snd.snd.snd.snd.snd.snd.snd.fst :
    Int) !=
    IntKind.i64.wrap
    ((↑on : Int) + (1 : Int))) =
    false ∧
    ∃ (r_2 : Bool),
    (((True ∧
    True ∧
    True ∧ True ∧ True ∧ True) ∧
    ((0 : Nat) + r_1.fst ≤
    r_1.snd.snd.snd.snd.snd.fst ∧
    True ∧
    True ∧ True ∧ True ∧ True) ∧
    True) ∧
    True ∧
    Ok Proofs.Try.prog (32 : Nat)
    [AV.cons (1 : Nat)
    (AV.vec true (1 : Nat)
    (r.snd.snd.snd.snd.snd.fst
    (Int.toNat (0 : Int)))
    (r.snd.snd.snd.snd.snd.fst
    (Int.toNat (0 : Int)))
    fun (i : Nat) =>
    AV.sc
    (Value.int IntKind.i64
    (r.snd.snd.snd.snd.snd.snd.fst
    (Int.toNat (0 : Int))
    i)))
    (AV.cons (1 : Nat)
    (AV.sc
    (Value.int IntKind.i64
    (r.snd.snd.snd.snd.snd.snd.snd.fst
    (Int.toNat
    (0 : Int)))))
    (AV.cons (1 : Nat)
    (AV.sc
    (Value.int IntKind.i64
    (r.snd.snd.snd.snd.snd.snd.snd.snd.fst
    (Int.toNat
    (0 : Int)))))
    (AV.cons (1 : Nat)
    (AV.sc
    (Value.bool
    (r.snd.snd.snd.snd.snd.snd.snd.snd.snd.fst
    (Int.toNat
    (0 : Int)))))
    (AV.cons (1 : Nat)
    (AV.sc
    (Value.int
    IntKind.i64
    (r.snd.snd.snd.snd.snd.snd.snd.snd.snd.snd.fst
    (Int.toNat
    (0 : Int)))))
    AV.nil)))),
    AV.cons (1 : Nat)
    (AV.vec true (1 : Nat) r_1.fst
    (r_1.snd.snd.snd.snd.snd.fst -
    (0 : Nat))
    fun (i : Nat) =>
    AV.sc
    (Value.int IntKind.i64
    (r_1.snd.snd.snd.snd.snd.snd
    (plus (0 : Nat) i))))
    (AV.cons (1 : Nat)
    (AV.sc
    (Value.int IntKind.i64
    r_1.snd.fst))
    (AV.cons (1 : Nat)
    (AV.sc
    (Value.int IntKind.i64
    r_1.snd.snd.fst))
    (AV.cons (1 : Nat)
    (AV.sc
    (Value.bool
    r_1.snd.snd.snd.fst))
    (AV.cons (1 : Nat)
    (AV.sc
    (Value.int
    IntKind.i64
    r_1.snd.snd.snd.snd.fst))
    AV.nil))))]
    [] (AV.sc (Value.bool r_2)) []) ∧
    ((↑r.snd.snd.snd.snd.snd.snd.snd.snd.snd.snd.snd.fst :
    Int) !=
    IntKind.i64.wrap
    ((↑on : Int) + (1 : Int))) =
    false ∧
    True ∧
    ((↑r.snd.snd.snd.snd.snd.snd.snd.snd.snd.snd.snd.fst :
    Int) !=
    IntKind.i64.wrap
    ((↑on : Int) + (1 : Int))) =
    false ∧
    ((!r_2) = true →
    True ∧
    True ∧
    ((True ∧
    Sub
    (AV.sc
    (Value.bool
    false))
    (AV.sc
    (Value.bool
    false)) ∧
    True) ∧
    True) ∧
    Sub
    (AV.sc
    (Value.bool
    false))
    res ∧
    SubOut [] []) ∧
    ((!r_2) = false →
    True ∧
    True ∧
    True ∧
    ((True ∧
    Sub
    (AV.sc
    (Value.string
    t))
    (AV.sc
    (Value.string
    t)) ∧
    True ∧
    Sub
    (AV.vec
    true
    (3 :
    Nat)
    on on
    fun
    (i0 :
    Nat) =>
    AV.cons
    (1 :
    Nat)
    (AV.sc
    (Value.int
    IntKind.i64
    (ofa
    i0)))
    (AV.cons
    (1 :
    Nat)
    (AV.sc
    (Value.int
    IntKind.i64
    (ofba
    i0)))
    (AV.cons
    (1 :
    Nat)
    (AV.sc
    (Value.int
    IntKind.i64
    (ofbba
    i0)))
    AV.nil)))
    (AV.vec
    true
    (3 :
    Nat)
    on on
    fun
    (i0 :
    Nat) =>
    AV.cons
    (1 :
    Nat)
    (AV.sc
    (Value.int
    IntKind.i64
    (ofa
    i0)))
    (AV.cons
    (1 :
    Nat)
    (AV.sc
    (Value.int
    IntKind.i64
    (ofba
    i0)))
    (AV.cons
    (1 :
    Nat)
    (AV.sc
    (Value.int
    IntKind.i64
    (ofbba
    i0)))
    AV.nil))) ∧
    True ∧
    Sub
    (AV.pt
    (1000 :
    Nat)
    []
    (0 :
    Nat))
    (AV.pt
    (1000 :
    Nat)
    []
    (0 :
    Nat)) ∧
    True ∧
    Sub
    (AV.sc
    (Value.int
    IntKind.i64
    (0 :
    Int)))
    (AV.sc
    (Value.int
    IntKind.i64
    (0 :
    Int))) ∧
    True ∧
    Sub
    (AV.sc
    (Value.int
    IntKind.i64
    (0 :
    Int)))
    (AV.sc
    (Value.int
    IntKind.i64
    (0 :
    Int))) ∧
    True) ∧
    (True ∧
    True ∧
    True ∧
    True ∧
    True) ∧
    SubB
    (AV.cons
    (1 : Nat)
    (AV.vec
    false
    (3 : Nat)
    r.fst
    r.fst
    fun
    (i0 :
    Nat) =>
    AV.cons
    (1 :
    Nat)
    (AV.sc
    (Value.int
    IntKind.i64
    (r.snd.fst
    i0)))
    (AV.cons
    (1 :
    Nat)
    (AV.sc
    (Value.int
    IntKind.i64
    (r.snd.snd.fst
    i0)))
    (AV.cons
    (1 :
    Nat)
    (AV.sc
    (Value.int
    IntKind.i64
    (r.snd.snd.snd.fst
    i0)))
    AV.nil)))
    (AV.cons
    (1 : Nat)
    (AV.vec
    false
    (5 :
    Nat)
    r.snd.snd.snd.snd.fst
    r.snd.snd.snd.snd.fst
    fun
    (i0 :
    Nat) =>
    AV.cons
    (1 :
    Nat)
    (AV.vec
    false
    (1 :
    Nat)
    (r.snd.snd.snd.snd.snd.fst
    i0)
    (r.snd.snd.snd.snd.snd.fst
    i0)
    fun
    (i1 :
    Nat) =>
    AV.sc
    (Value.int
    IntKind.i64
    (r.snd.snd.snd.snd.snd.snd.fst
    i0
    i1)))
    (AV.cons
    (1 :
    Nat)
    (AV.sc
    (Value.int
    IntKind.i64
    (r.snd.snd.snd.snd.snd.snd.snd.fst
    i0)))
    (AV.cons
    (1 :
    Nat)
    (AV.sc
    (Value.int
    IntKind.i64
    (r.snd.snd.snd.snd.snd.snd.snd.snd.fst
    i0)))
    (AV.cons
    (1 :
    Nat)
    (AV.sc
    (Value.bool
    (r.snd.snd.snd.snd.snd.snd.snd.snd.snd.fst
    i0)))
    (AV.cons
    (1 :
    Nat)
    (AV.sc
    (Value.int
    IntKind.i64
    (r.snd.snd.snd.snd.snd.snd.snd.snd.snd.snd.fst
    i0)))
    AV.nil)))))
    (AV.cons
    (1 :
    Nat)
    (AV.vec
    false
    (1 :
    Nat)
    r.snd.snd.snd.snd.snd.snd.snd.snd.snd.snd.snd.fst
    r.snd.snd.snd.snd.snd.snd.snd.snd.snd.snd.snd.fst
    fun
    (i0 :
    Nat) =>
    AV.sc
    (Value.int
    IntKind.i64
    (r.snd.snd.snd.snd.snd.snd.snd.snd.snd.snd.snd.snd.fst
    i0)))
    (AV.cons
    (1 :
    Nat)
    (AV.vec
    false
    (3 :
    Nat)
    r.snd.snd.snd.snd.snd.snd.snd.snd.snd.snd.snd.snd.snd.fst
    r.snd.snd.snd.snd.snd.snd.snd.snd.snd.snd.snd.snd.snd.fst
    fun
    (i0 :
    Nat) =>
    AV.cons
    (1 :
    Nat)
    (AV.sc
    (Value.int
    IntKind.i64
    (r.snd.snd.snd.snd.snd.snd.snd.snd.snd.snd.snd.snd.snd.snd.fst
    i0)))
    (AV.cons
    (1 :
    Nat)
    (AV.sc
    (Value.int
    IntKind.i64
    (r.snd.snd.snd.snd.snd.snd.snd.snd.snd.snd.snd.snd.snd.snd.snd.fst
    i0)))
    (AV.cons
    (1 :
    Nat)
    (AV.sc
    (Value.int
    IntKind.i64
    (r.snd.snd.snd.snd.snd.snd.snd.snd.snd.snd.snd.snd.snd.snd.snd.snd.fst
    i0)))
    AV.nil)))
    AV.nil))))
    (AV.cons
    (1 : Nat)
    (AV.vec
    false
    (3 : Nat)
    r.fst
    r.fst
    fun
    (i0 :
    Nat) =>
    AV.cons
    (1 :
    Nat)
    (AV.sc
    (Value.int
    IntKind.i64
    (r.snd.fst
    i0)))
    (AV.cons
    (1 :
    Nat)
    (AV.sc
    (Value.int
    IntKind.i64
    (r.snd.snd.fst
    i0)))
    (AV.cons
    (1 :
    Nat)
    (AV.sc
    (Value.int
    IntKind.i64
    (r.snd.snd.snd.fst
    i0)))
    AV.nil)))
    (AV.cons
    (1 : Nat)
    (AV.vec
    false
    (5 :
    Nat)
    r.snd.snd.snd.snd.fst
    r.snd.snd.snd.snd.fst
    fun
    (i0 :
    Nat) =>
    AV.cons
    (1 :
    Nat)
    (AV.vec
    false
    (1 :
    Nat)
    (r.snd.snd.snd.snd.snd.fst
    i0)
    (r.snd.snd.snd.snd.snd.fst
    i0)
    fun
    (i1 :
    Nat) =>
    AV.sc
    (Value.int
    IntKind.i64
    (r.snd.snd.snd.snd.snd.snd.fst
    i0
    i1)))
    (AV.cons
    (1 :
    Nat)
    (AV.sc
    (Value.int
    IntKind.i64
    (r.snd.snd.snd.snd.snd.snd.snd.fst
    i0)))
    (AV.cons
    (1 :
    Nat)
    (AV.sc
    (Value.int
    IntKind.i64
    (r.snd.snd.snd.snd.snd.snd.snd.snd.fst
    i0)))
    (AV.cons
    (1 :
    Nat)
    (AV.sc
    (Value.bool
    (r.snd.snd.snd.snd.snd.snd.snd.snd.snd.fst
    i0)))
    (AV.cons
    (1 :
    Nat)
    (AV.sc
    (Value.int
    IntKind.i64
    (r.snd.snd.snd.snd.snd.snd.snd.snd.snd.snd.fst
    i0)))
    AV.nil)))))
    (AV.cons
    (1 :
    Nat)
    (AV.vec
    false
    (1 :
    Nat)
    r.snd.snd.snd.snd.snd.snd.snd.snd.snd.snd.snd.fst
    r.snd.snd.snd.snd.snd.snd.snd.snd.snd.snd.snd.fst
    fun
    (i0 :
    Nat) =>
    AV.sc
    (Value.int
    IntKind.i64
    (r.snd.snd.snd.snd.snd.snd.snd.snd.snd.snd.snd.snd.fst
    i0)))
    (AV.cons
    (1 :
    Nat)
    (AV.vec
    false
    (3 :
    Nat)
    r.snd.snd.snd.snd.snd.snd.snd.snd.snd.snd.snd.snd.snd.fst
    r.snd.snd.snd.snd.snd.snd.snd.snd.snd.snd.snd.snd.snd.fst
    fun
    (i0 :
    Nat) =>
    AV.cons
    (1 :
    Nat)
    (AV.sc
    (Value.int
    IntKind.i64
    (r.snd.snd.snd.snd.snd.snd.snd.snd.snd.snd.snd.snd.snd.snd.fst
    i0)))
    (AV.cons
    (1 :
    Nat)
    (AV.sc
    (Value.int
    IntKind.i64
    (r.snd.snd.snd.snd.snd.snd.snd.snd.snd.snd.snd.snd.snd.snd.snd.fst
    i0)))
    (AV.cons
    (1 :
    Nat)
    (AV.sc
    (Value.int
    IntKind.i64
    (r.snd.snd.snd.snd.snd.snd.snd.snd.snd.snd.snd.snd.snd.snd.snd.snd.fst
    i0)))
    AV.nil)))
    AV.nil)))) ∧
    True) ∧
    L13_0 t on ofa ofba
    ofbba (0 : Nat)
    (0 : Int) (0 : Int)
    r.fst r.snd.fst
    r.snd.snd.fst
    r.snd.snd.snd.fst
    r.snd.snd.snd.snd.fst
    r.snd.snd.snd.snd.snd.fst
    r.snd.snd.snd.snd.snd.snd.fst
    r.snd.snd.snd.snd.snd.snd.snd.fst
    r.snd.snd.snd.snd.snd.snd.snd.snd.fst
    r.snd.snd.snd.snd.snd.snd.snd.snd.snd.fst
    r.snd.snd.snd.snd.snd.snd.snd.snd.snd.snd.fst
    r.snd.snd.snd.snd.snd.snd.snd.snd.snd.snd.snd.fst
    r.snd.snd.snd.snd.snd.snd.snd.snd.snd.snd.snd.snd.fst
    r.snd.snd.snd.snd.snd.snd.snd.snd.snd.snd.snd.snd.snd.fst
    r.snd.snd.snd.snd.snd.snd.snd.snd.snd.snd.snd.snd.snd.snd.fst
    r.snd.snd.snd.snd.snd.snd.snd.snd.snd.snd.snd.snd.snd.snd.snd.fst
    r.snd.snd.snd.snd.snd.snd.snd.snd.snd.snd.snd.snd.snd.snd.snd.snd.fst
    (0 : Nat)
    (fun (i : Nat) =>
    Int.ofNat
    (0 : Nat))
    (fun (i : Nat) =>
    Int.ofNat
    (0 : Nat))
    (fun (i : Nat) =>
    Int.ofNat
    (0 : Nat))
    res)) ∧
    (((↑r.snd.snd.snd.snd.snd.snd.snd.snd.snd.snd.snd.fst : Int) !=
    IntKind.i64.wrap ((↑on : Int) + (1 : Int))) =
    !false →
    true = true ∧
    ((↑r.snd.snd.snd.snd.snd.snd.snd.snd.snd.snd.snd.fst : Int) !=
    IntKind.i64.wrap ((↑on : Int) + (1 : Int))) =
    !false ∧
    true = true ∧
    ((↑r.snd.snd.snd.snd.snd.snd.snd.snd.snd.snd.snd.fst :
    Int) !=
    IntKind.i64.wrap ((↑on : Int) + (1 : Int))) =
    !false ∧
    true = true ∧
    ((↑r.snd.snd.snd.snd.snd.snd.snd.snd.snd.snd.snd.fst :
    Int) !=
    IntKind.i64.wrap ((↑on : Int) + (1 : Int))) =
    !false ∧
    true = true ∧
    ((↑r.snd.snd.snd.snd.snd.snd.snd.snd.snd.snd.snd.fst :
    Int) !=
    IntKind.i64.wrap ((↑on : Int) + (1 : Int))) =
    !false ∧
    true = true ∧
    ((↑r.snd.snd.snd.snd.snd.snd.snd.snd.snd.snd.snd.fst :
    Int) !=
    IntKind.i64.wrap
    ((↑on : Int) + (1 : Int))) =
    !false ∧
    true = true ∧
    ((↑r.snd.snd.snd.snd.snd.snd.snd.snd.snd.snd.snd.fst :
    Int) !=
    IntKind.i64.wrap
    ((↑on : Int) + (1 : Int))) =
    !false ∧
    true = true ∧
    ((↑r.snd.snd.snd.snd.snd.snd.snd.snd.snd.snd.snd.fst :
    Int) !=
    IntKind.i64.wrap
    ((↑on : Int) + (1 : Int))) =
    true ∧
    true = true ∧
    True ∧
    True ∧
    ((True ∧
    Sub
    (AV.sc
    (Value.bool false))
    (AV.sc
    (Value.bool
    false)) ∧
    True) ∧
    True) ∧
    Sub (AV.sc (Value.bool false))
    res ∧
    SubOut [] [])) ∧
    (((↑r.snd.snd.snd.snd.fst : Int) != IntKind.i64.wrap ((↑on : Int) + (1 : Int))) = !false →
    true = true ∧
    ((↑r.snd.snd.snd.snd.fst : Int) != IntKind.i64.wrap ((↑on : Int) + (1 : Int))) = !false ∧
    true = true ∧
    ((↑r.snd.snd.snd.snd.fst : Int) != IntKind.i64.wrap ((↑on : Int) + (1 : Int))) = !false ∧
    true = true ∧
    ((↑r.snd.snd.snd.snd.fst : Int) != IntKind.i64.wrap ((↑on : Int) + (1 : Int))) = !false ∧
    true = true ∧
    ((↑r.snd.snd.snd.snd.fst : Int) != IntKind.i64.wrap ((↑on : Int) + (1 : Int))) =
    !false ∧
    true = true ∧
    ((↑r.snd.snd.snd.snd.fst : Int) != IntKind.i64.wrap ((↑on : Int) + (1 : Int))) =
    !false ∧
    true = true ∧
    ((↑r.snd.snd.snd.snd.fst : Int) !=
    IntKind.i64.wrap ((↑on : Int) + (1 : Int))) =
    !false ∧
    true = true ∧
    ((↑r.snd.snd.snd.snd.fst : Int) !=
    IntKind.i64.wrap ((↑on : Int) + (1 : Int))) =
    true ∧
    True ∧
    true = !false ∧
    true = true ∧
    true = !false ∧
    true = true ∧
    true = !false ∧
    true = true ∧
    true = !false ∧
    true = true ∧
    true = !false ∧
    true = true ∧
    true = !false ∧
    true = true ∧
    true = !false ∧
    true = true ∧
    true = true ∧
    true = true ∧
    True ∧
    True ∧
    ((True ∧
    Sub
    (AV.sc
    (Value.bool false))
    (AV.sc
    (Value.bool false)) ∧
    True) ∧
    True) ∧
    Sub (AV.sc (Value.bool false))
    res ∧
    SubOut [] []))) from
    ⟨trivial, ⟨trivial, ⟨trivial, ⟨trivial, (And.elim (fun h4 k4 => ⟨(fun x5 => (fun h5 => ⟨trivial, ⟨trivial, ⟨⟨⟨trivial, ⟨Sub.refl _, trivial⟩⟩, trivial⟩, ((fun h9 => ⟨h9, trivial⟩) h5)⟩⟩⟩) (h4 x5)), (fun x5 => (fun h5 => ⟨trivial, ⟨trivial, (Exists.elim h5 fun x8 h8 => ⟨x8, (And.elim (fun h9 k9 => ⟨⟨⟨trivial, ⟨trivial, trivial⟩⟩, ⟨trivial, h9⟩⟩, ⟨trivial, ⟨trivial, ⟨trivial, ⟨trivial, ⟨⟨rfl, trivial⟩, ⟨trivial, ⟨trivial, ⟨trivial, (And.elim (fun h18 k18 => ⟨(fun x19 => (fun h19 => (Exists.elim h19 fun x20 h20 => ⟨x20, (And.elim (fun h21 k21 => ⟨⟨trivial, ⟨trivial, h21⟩⟩, ⟨trivial, ⟨trivial, ⟨⟨⟨trivial, ⟨Sub.refl _, trivial⟩⟩, trivial⟩, ((fun h25 => ⟨h25, trivial⟩) k21)⟩⟩⟩⟩) h20)⟩)) (h18 x19)), (fun x19 => (fun h19 => ⟨trivial, ⟨⟨rfl, trivial⟩, ⟨trivial, ⟨trivial, ⟨trivial, ⟨trivial, ⟨trivial, ⟨trivial, (And.elim (fun h28 k28 => ⟨(fun x29 => (fun h29 => ⟨trivial, ⟨x29, ⟨⟨rfl, trivial⟩, ⟨x29, ⟨trivial, ⟨x29, ⟨trivial, ⟨x29, ⟨trivial, ⟨x29, ⟨trivial, ⟨x29, ⟨trivial, ⟨x29, ⟨trivial, (And.elim (fun h45 k45 => ⟨(fun x46 => (fun h46 => ⟨trivial, ⟨x46, ⟨⟨rfl, trivial⟩, ⟨x46, (And.elim (fun h51 k51 => ⟨(And.elim (fun h52 k52 => ⟨h52, k52⟩) h51), ⟨x46, ⟨trivial, ⟨x46, (Exists.elim k51 fun x55 h55 => ⟨x55, (And.elim (fun h56 k56 => ⟨⟨trivial, ⟨trivial, h56⟩⟩, ⟨x46, (Exists.elim k56 fun x58 h58 => ⟨x58, (And.elim (fun h59 k59 => ⟨(And.elim (fun h60 k60 => ⟨⟨⟨trivial, ⟨trivial, ⟨trivial, ⟨trivial, ⟨trivial, trivial⟩⟩⟩⟩⟩, ((fun h62 => ⟨((fun h63 => ⟨h63, ⟨trivial, ⟨trivial, ⟨trivial, ⟨trivial, trivial⟩⟩⟩⟩⟩) h62), trivial⟩) h60)⟩, ⟨trivial, k60⟩⟩) h59), ⟨x46, ⟨trivial, ⟨x46, (And.elim (fun h63 k63 => ⟨(fun x64 => (fun h64 => ⟨trivial, ⟨trivial, ⟨⟨⟨trivial, ⟨Sub.refl _, trivial⟩⟩, trivial⟩, ((fun h68 => ⟨h68, trivial⟩) h64)⟩⟩⟩) (h63 x64)), (fun x64 => (fun h64 => ⟨trivial, ⟨trivial, ⟨trivial, ⟨⟨⟨trivial, ⟨Sub.refl _, ⟨trivial, ⟨Sub.refl _, ⟨trivial, ⟨Sub.refl _, ⟨trivial, ⟨Sub.refl _, ⟨trivial, ⟨Sub.refl _, trivial⟩⟩⟩⟩⟩⟩⟩⟩⟩⟩, ⟨⟨trivial, ⟨trivial, ⟨trivial, ⟨trivial, trivial⟩⟩⟩⟩, ⟨SubB.refl _, trivial⟩⟩⟩, h64⟩⟩⟩⟩) (k63 x64))⟩) k59)⟩⟩⟩⟩) h58)⟩)⟩⟩) h55)⟩)⟩⟩⟩⟩) h46)⟩⟩⟩⟩) (h45 x46)), (fun x46 => (fun h46 => ⟨rfl, ⟨x46, ⟨rfl, ⟨x46, ⟨rfl, ⟨x46, ⟨rfl, ⟨x46, ⟨rfl, ⟨x46, ⟨rfl, ⟨x46, ⟨rfl, ⟨x46, ⟨rfl, ⟨trivial, ⟨trivial, ⟨⟨⟨trivial, ⟨Sub.refl _, trivial⟩⟩, trivial⟩, ((fun h65 => ⟨h65, trivial⟩) h46)⟩⟩⟩⟩⟩⟩⟩⟩⟩⟩⟩⟩⟩⟩⟩⟩⟩⟩) (k45 x46))⟩) h29)⟩⟩⟩⟩⟩⟩⟩⟩⟩⟩⟩⟩⟩⟩⟩) (h28 x29)), (fun x29 => (fun h29 => ⟨rfl, ⟨x29, ⟨rfl, ⟨x29, ⟨rfl, ⟨x29, ⟨rfl, ⟨x29, ⟨rfl, ⟨x29, ⟨rfl, ⟨x29, ⟨rfl, ⟨x29, ⟨trivial, ⟨rfl, ⟨rfl, ⟨rfl, ⟨rfl, ⟨rfl, ⟨rfl, ⟨rfl, ⟨rfl, ⟨rfl, ⟨rfl, ⟨rfl, ⟨rfl, ⟨rfl, ⟨rfl, ⟨rfl, ⟨rfl, ⟨trivial, ⟨trivial, ⟨⟨⟨trivial, ⟨Sub.refl _, trivial⟩⟩, trivial⟩, ((fun h64 => ⟨h64, trivial⟩) h29)⟩⟩⟩⟩⟩⟩⟩⟩⟩⟩⟩⟩⟩⟩⟩⟩⟩⟩⟩⟩⟩⟩⟩⟩⟩⟩⟩⟩⟩⟩⟩⟩⟩⟩) (k28 x29))⟩) h19)⟩⟩⟩⟩⟩⟩⟩⟩) (k18 x19))⟩) k9)⟩⟩⟩⟩⟩⟩⟩⟩⟩) h8)⟩)⟩⟩) (k4 x5))⟩) h)⟩⟩⟩⟩)
theorem r13_0 (t : ByteArray) (on : Nat) (ofa : Nat → Int) (ofba : Nat → Int) (ofbba : Nat → Int) (t7n : Nat) (t8 : Int) (t9 : Int) (b0an : Nat) (b0afa : Nat → Int) (b0afba : Nat → Int) (b0afbba : Nat → Int) (b0ban : Nat) (b0bafan : Nat → Nat) (b0bafaf : Nat → Nat → Int) (b0bafba : Nat → Int) (b0bafbba : Nat → Int) (b0bafbbba : Nat → Bool) (b0bafbbbba : Nat → Int) (b0bban : Nat) (b0bbaf : Nat → Int) (b0bbban : Nat) (b0bbbafa : Nat → Int) (b0bbbafba : Nat → Int) (b0bbbafbba : Nat → Int) (b1n : Nat) (b1fa : Nat → Int) (b1fba : Nat → Int) (b1fbba : Nat → Int) (res : AV)
    (h : (decide (t9 < (↑on : Int)) = true →
    ((0 : Int) ≤ t9 ∧ t9 < (↑on : Int)) ∧
    (decide (ofba t9.toNat < (1 : Int)) = false →
    (decide (ofba t9.toNat > IntKind.i64.wrap ((↑t.size : Int) - t8)) = true → Sub (AV.sc (Value.bool false)) res) ∧
    (decide (ofba t9.toNat > IntKind.i64.wrap ((↑t.size : Int) - t8)) = false →
    ((0 : Int) ≤ t9 ∧ t9 < (↑b0ban : Int)) ∧
    ((0 : Int) ≤ t8 ∧ t8 ≤ IntKind.i64.wrap (t8 + ofba t9.toNat) ∧ IntKind.i64.wrap (t8 + ofba t9.toNat) ≤ (↑t.size : Int)) ∧
    ∃ (r : Nat × Int × Int × Bool × Int × Nat × Nat × (Nat → Int) × Nat × (Nat → Int) × (Nat → Int) × (Nat → Int)),
    Ok Proofs.Try.prog (47 : Nat)
    [AV.cons (1 : Nat)
    (AV.vec true (1 : Nat) (b0bafan t9.toNat) (b0bafan t9.toNat) fun (i : Nat) => AV.sc (Value.int IntKind.i64 (b0bafaf t9.toNat i)))
    (AV.cons (1 : Nat) (AV.sc (Value.int IntKind.i64 (b0bafba t9.toNat)))
    (AV.cons (1 : Nat) (AV.sc (Value.int IntKind.i64 (b0bafbba t9.toNat)))
    (AV.cons (1 : Nat) (AV.sc (Value.bool (b0bafbbba t9.toNat)))
    (AV.cons (1 : Nat) (AV.sc (Value.int IntKind.i64 (b0bafbbbba t9.toNat))) AV.nil)))),
    AV.sc (Value.string (t.extract t8.toNat (IntKind.i64.wrap (t8 + ofba t9.toNat)).toNat)),
    AV.cons (1 : Nat) (AV.sc (Value.int IntKind.i64 (ofa t9.toNat)))
    (AV.cons (1 : Nat) (AV.sc (Value.int IntKind.i64 (ofba t9.toNat)))
    (AV.cons (1 : Nat) (AV.sc (Value.int IntKind.i64 (ofbba t9.toNat))) AV.nil))]
    []
    (AV.cons (5 : Nat)
    (AV.cons (1 : Nat) (AV.rf (1000 : Nat) (1 : Nat) (0 : Nat) r.fst)
    (AV.cons (1 : Nat) (AV.sc (Value.int IntKind.i64 r.snd.fst))
    (AV.cons (1 : Nat) (AV.sc (Value.int IntKind.i64 r.snd.snd.fst))
    (AV.cons (1 : Nat) (AV.sc (Value.bool r.snd.snd.snd.fst))
    (AV.cons (1 : Nat) (AV.sc (Value.int IntKind.i64 r.snd.snd.snd.snd.fst)) AV.nil)))))
    (AV.cons (1 : Nat) (AV.rf (1001 : Nat) (3 : Nat) (0 : Nat) r.snd.snd.snd.snd.snd.fst) AV.nil)).tup
    [((1000 : Nat), (3 : Nat),
    AV.ar r.snd.snd.snd.snd.snd.snd.fst (1 : Nat) fun (i0 : Nat) =>
    AV.sc (Value.int IntKind.i64 (r.snd.snd.snd.snd.snd.snd.snd.fst i0))),
    ((1001 : Nat), (81 : Nat),
    AV.ar r.snd.snd.snd.snd.snd.snd.snd.snd.fst (3 : Nat) fun (i0 : Nat) =>
    AV.cons (1 : Nat) (AV.sc (Value.int IntKind.i64 (r.snd.snd.snd.snd.snd.snd.snd.snd.snd.fst i0)))
    (AV.cons (1 : Nat) (AV.sc (Value.int IntKind.i64 (r.snd.snd.snd.snd.snd.snd.snd.snd.snd.snd.fst i0)))
    (AV.cons (1 : Nat) (AV.sc (Value.int IntKind.i64 (r.snd.snd.snd.snd.snd.snd.snd.snd.snd.snd.snd i0))) AV.nil)))] ∧
    (t7n ≤ b1n ∧
    (0 : Nat) + r.snd.snd.snd.snd.snd.fst ≤ r.snd.snd.snd.snd.snd.snd.snd.snd.fst ∧
    (t7n + r.snd.snd.snd.snd.snd.fst) * (24 : Nat) ≤ (140737488355328 : Nat) ∧ t7n + r.snd.snd.snd.snd.snd.fst ≤ maxLen) ∧
    ((0 : Int) ≤ IntKind.i64.wrap (t9 + (1 : Int)) ∧ IntKind.i64.wrap (t9 + (1 : Int)) < (↑b0ban : Int)) ∧
    ∃ (r_1 : Bool),
    ((0 : Nat) + r.fst ≤ r.snd.snd.snd.snd.snd.snd.fst ∧
    Ok Proofs.Try.prog (32 : Nat)
    [AV.cons (1 : Nat)
    (AV.vec true (1 : Nat) r.fst (r.snd.snd.snd.snd.snd.snd.fst - (0 : Nat)) fun (i : Nat) =>
    AV.sc (Value.int IntKind.i64 (r.snd.snd.snd.snd.snd.snd.snd.fst (plus (0 : Nat) i))))
    (AV.cons (1 : Nat) (AV.sc (Value.int IntKind.i64 r.snd.fst))
    (AV.cons (1 : Nat) (AV.sc (Value.int IntKind.i64 r.snd.snd.fst))
    (AV.cons (1 : Nat) (AV.sc (Value.bool r.snd.snd.snd.fst))
    (AV.cons (1 : Nat) (AV.sc (Value.int IntKind.i64 r.snd.snd.snd.snd.fst)) AV.nil)))),
    AV.cons (1 : Nat)
    (AV.vec true (1 : Nat) (b0bafan (IntKind.i64.wrap (t9 + (1 : Int))).toNat)
    (b0bafan (IntKind.i64.wrap (t9 + (1 : Int))).toNat) fun (i : Nat) =>
    AV.sc (Value.int IntKind.i64 (b0bafaf (IntKind.i64.wrap (t9 + (1 : Int))).toNat i)))
    (AV.cons (1 : Nat) (AV.sc (Value.int IntKind.i64 (b0bafba (IntKind.i64.wrap (t9 + (1 : Int))).toNat)))
    (AV.cons (1 : Nat) (AV.sc (Value.int IntKind.i64 (b0bafbba (IntKind.i64.wrap (t9 + (1 : Int))).toNat)))
    (AV.cons (1 : Nat) (AV.sc (Value.bool (b0bafbbba (IntKind.i64.wrap (t9 + (1 : Int))).toNat)))
    (AV.cons (1 : Nat) (AV.sc (Value.int IntKind.i64 (b0bafbbbba (IntKind.i64.wrap (t9 + (1 : Int))).toNat)))
    AV.nil))))]
    [] (AV.sc (Value.bool r_1)) []) ∧
    ((!r_1) = false →
    ((0 : Int) ≤ IntKind.i64.wrap (t9 + (1 : Int)) ∧ IntKind.i64.wrap (t9 + (1 : Int)) < (↑b0bban : Int)) ∧
    ((b0bbaf (IntKind.i64.wrap (t9 + (1 : Int))).toNat != (↑(t7n + r.snd.snd.snd.snd.snd.fst) : Int)) = true →
    Sub (AV.sc (Value.bool false)) res) ∧
    ((b0bbaf (IntKind.i64.wrap (t9 + (1 : Int))).toNat != (↑(t7n + r.snd.snd.snd.snd.snd.fst) : Int)) = false →
    L13_0 t on ofa ofba ofbba (t7n + r.snd.snd.snd.snd.snd.fst) (IntKind.i64.wrap (t8 + ofba t9.toNat))
    (IntKind.i64.wrap (t9 + (1 : Int))) b0an b0afa b0afba b0afbba b0ban b0bafan b0bafaf b0bafba b0bafbba b0bafbbba
    b0bafbbbba b0bban b0bbaf b0bbban b0bbbafa b0bbbafba b0bbbafbba (t7n + r.snd.snd.snd.snd.snd.fst)
    (fun (i : Nat) => bif i.blt t7n then b1fa i else r.snd.snd.snd.snd.snd.snd.snd.snd.snd.fst ((0 : Nat) + (i - t7n)))
    (fun (i : Nat) =>
    bif i.blt t7n then b1fba i else r.snd.snd.snd.snd.snd.snd.snd.snd.snd.snd.fst ((0 : Nat) + (i - t7n)))
    (fun (i : Nat) =>
    bif i.blt t7n then b1fbba i else r.snd.snd.snd.snd.snd.snd.snd.snd.snd.snd.snd ((0 : Nat) + (i - t7n)))
    res)) ∧
    ((!r_1) = !false → Sub (AV.sc (Value.bool false)) res))) ∧
    (decide (ofba t9.toNat < (1 : Int)) = !false → Sub (AV.sc (Value.bool false)) res)) ∧
  (decide (t9 < (↑on : Int)) = false →
    ((0 : Int) ≤ (↑on : Int) ∧ (↑on : Int) < (↑b0ban : Int)) ∧
    ∃ (r : Nat × (Nat → Int) × (Nat → Int) × (Nat → Int)),
    Ok Proofs.Try.prog (36 : Nat)
    [AV.cons (1 : Nat)
    (AV.vec true (1 : Nat) (b0bafan (↑on : Int).toNat) (b0bafan (↑on : Int).toNat) fun (i : Nat) =>
    AV.sc (Value.int IntKind.i64 (b0bafaf (↑on : Int).toNat i)))
    (AV.cons (1 : Nat) (AV.sc (Value.int IntKind.i64 (b0bafba (↑on : Int).toNat)))
    (AV.cons (1 : Nat) (AV.sc (Value.int IntKind.i64 (b0bafbba (↑on : Int).toNat)))
    (AV.cons (1 : Nat) (AV.sc (Value.bool (b0bafbbba (↑on : Int).toNat)))
    (AV.cons (1 : Nat) (AV.sc (Value.int IntKind.i64 (b0bafbbbba (↑on : Int).toNat))) AV.nil))))]
    []
    (AV.vec false (3 : Nat) r.fst r.fst fun (i0 : Nat) =>
    AV.cons (1 : Nat) (AV.sc (Value.int IntKind.i64 (r.snd.fst i0)))
    (AV.cons (1 : Nat) (AV.sc (Value.int IntKind.i64 (r.snd.snd.fst i0)))
    (AV.cons (1 : Nat) (AV.sc (Value.int IntKind.i64 (r.snd.snd.snd i0))) AV.nil)))
    [] ∧
    (t7n ≤ b1n ∧ (t7n + r.fst) * (24 : Nat) ≤ (140737488355328 : Nat) ∧ t7n + r.fst ≤ maxLen) ∧
    ∃ (r_1 : Bool),
    ((0 : Nat) + (t7n + r.fst) ≤ t7n + r.fst ∧
    Ok Proofs.Try.prog (35 : Nat)
    [AV.vec true (3 : Nat) (t7n + r.fst) (t7n + r.fst - (0 : Nat)) fun (i : Nat) =>
    AV.cons (1 : Nat)
    (AV.sc (Value.int IntKind.i64 (bif (plus (0 : Nat) i).blt t7n then b1fa (plus (0 : Nat) i) else r.snd.fst (plus (0 : Nat) i - t7n))))
    (AV.cons (1 : Nat)
    (AV.sc
    (Value.int IntKind.i64
    (bif (plus (0 : Nat) i).blt t7n then b1fba (plus (0 : Nat) i) else r.snd.snd.fst (plus (0 : Nat) i - t7n))))
    (AV.cons (1 : Nat)
    (AV.sc
    (Value.int IntKind.i64
    (bif (plus (0 : Nat) i).blt t7n then b1fbba (plus (0 : Nat) i) else r.snd.snd.snd (plus (0 : Nat) i - t7n))))
    AV.nil)),
    AV.vec true (3 : Nat) b0bbban b0bbban fun (i : Nat) =>
    AV.cons (1 : Nat) (AV.sc (Value.int IntKind.i64 (b0bbbafa i)))
    (AV.cons (1 : Nat) (AV.sc (Value.int IntKind.i64 (b0bbbafba i)))
    (AV.cons (1 : Nat) (AV.sc (Value.int IntKind.i64 (b0bbbafbba i))) AV.nil))]
    [] (AV.sc (Value.bool r_1)) []) ∧
    (r_1 = true → ∃ (r : Bool), Ok Proofs.Try.prog (39 : Nat) [] [] (AV.sc (Value.bool r)) [] ∧ Sub (AV.sc (Value.bool r)) res) ∧
    (r_1 = !true → Sub (AV.sc (Value.bool false)) res))) :
    L13_0 t on ofa ofba ofbba t7n t8 t9 b0an b0afa b0afba b0afbba b0ban b0bafan b0bafaf b0bafba b0bafbba b0bafbbba b0bafbbbba b0bban b0bbaf b0bbban b0bbbafa b0bbbafba b0bbbafbba b1n b1fa b1fba b1fbba res :=
  rule Go.Am.Seat.tabOk 13 [] Go.Proofs.Try.f13 hf13 [1, 1, 1, 1, 1, 1, 1, 0, 1, 0, 0] (s13_0 t on ofa ofba ofbba t7n t8 t9 b0an b0afa b0afba b0afbba b0ban b0bafan b0bafaf b0bafba b0bafbba b0bafbbba b0bafbbbba b0bban b0bbaf b0bbban b0bbbafa b0bbbafba b0bbbafbba b1n b1fa b1fba b1fbba) (m13_0 t on ofa ofba ofbba t7n t8 t9 b0an b0afa b0afba b0afbba b0ban b0bafan b0bafaf b0bafba b0bafbba b0bafbbba b0bafbbbba b0bban b0bbaf b0bbban b0bbbafa b0bbbafba b0bbbafbba b1n b1fa b1fba b1fbba) res [] 400
    ((((Orc.fin (AV.sc (Value.bool false)) [] []).br
    (Orc.call [] [((100930 : Nat), (1000 : Nat)), ((100931 : Nat), (1001 : Nat))]
    (fun (r47 : Nat × Int × Int × Bool × Int × Nat × Nat × (Nat → Int) × Nat × (Nat → Int) × (Nat → Int) × (Nat → Int)) =>
    (AV.cons (5 : Nat)
    (AV.cons (1 : Nat) (AV.rf (1000 : Nat) (1 : Nat) (0 : Nat) r47.fst)
    (AV.cons (1 : Nat) (AV.sc (Value.int IntKind.i64 r47.snd.fst))
    (AV.cons (1 : Nat) (AV.sc (Value.int IntKind.i64 r47.snd.snd.fst))
    (AV.cons (1 : Nat) (AV.sc (Value.bool r47.snd.snd.snd.fst))
    (AV.cons (1 : Nat) (AV.sc (Value.int IntKind.i64 r47.snd.snd.snd.snd.fst)) AV.nil)))))
    (AV.cons (1 : Nat) (AV.rf (1001 : Nat) (3 : Nat) (0 : Nat) r47.snd.snd.snd.snd.snd.fst) AV.nil)).tup)
    (fun (r47 : Nat × Int × Int × Bool × Int × Nat × Nat × (Nat → Int) × Nat × (Nat → Int) × (Nat → Int) × (Nat → Int)) =>
    [((1000 : Nat), (3 : Nat),
    AV.ar r47.snd.snd.snd.snd.snd.snd.fst (1 : Nat) fun (i0 : Nat) =>
    AV.sc (Value.int IntKind.i64 (r47.snd.snd.snd.snd.snd.snd.snd.fst i0))),
    ((1001 : Nat), (81 : Nat),
    AV.ar r47.snd.snd.snd.snd.snd.snd.snd.snd.fst (3 : Nat) fun (i0 : Nat) =>
    AV.cons (1 : Nat) (AV.sc (Value.int IntKind.i64 (r47.snd.snd.snd.snd.snd.snd.snd.snd.snd.fst i0)))
    (AV.cons (1 : Nat) (AV.sc (Value.int IntKind.i64 (r47.snd.snd.snd.snd.snd.snd.snd.snd.snd.snd.fst i0)))
    (AV.cons (1 : Nat) (AV.sc (Value.int IntKind.i64 (r47.snd.snd.snd.snd.snd.snd.snd.snd.snd.snd.snd i0))) AV.nil)))])
    fun (r47 : Nat × Int × Int × Bool × Int × Nat × Nat × (Nat → Int) × Nat × (Nat → Int) × (Nat → Int) × (Nat → Int)) =>
    Orc.call [] [] (fun (r32 : Bool) => AV.sc (Value.bool r32)) (fun (r32 : Bool) => []) fun (r32 : Bool) =>
    (Orc.ch Ch.none
    (Orc.ch (Ch.p false)
    ((Orc.fin (AV.sc (Value.bool false)) [] []).br
    (Orc.cut (nat_lit 5)
    (s13_0 t on ofa ofba ofbba (t7n + r47.snd.snd.snd.snd.snd.fst)
    (IntKind.i64.wrap (t8 + ofba t9.toNat)) (IntKind.i64.wrap (t9 + (1 : Int))) b0an b0afa b0afba
    b0afbba b0ban b0bafan b0bafaf b0bafba b0bafbba b0bafbbba b0bafbbbba b0bban b0bbaf b0bbban b0bbbafa
    b0bbbafba b0bbbafbba (t7n + r47.snd.snd.snd.snd.snd.fst)
    (fun (i : Nat) =>
    bif i.blt t7n then b1fa i
    else r47.snd.snd.snd.snd.snd.snd.snd.snd.snd.fst ((0 : Nat) + (i - t7n)))
    (fun (i : Nat) =>
    bif i.blt t7n then b1fba i
    else r47.snd.snd.snd.snd.snd.snd.snd.snd.snd.snd.fst ((0 : Nat) + (i - t7n)))
    fun (i : Nat) =>
    bif i.blt t7n then b1fbba i
    else r47.snd.snd.snd.snd.snd.snd.snd.snd.snd.snd.snd ((0 : Nat) + (i - t7n)))
    (m13_0 t on ofa ofba ofbba (t7n + r47.snd.snd.snd.snd.snd.fst)
    (IntKind.i64.wrap (t8 + ofba t9.toNat)) (IntKind.i64.wrap (t9 + (1 : Int))) b0an b0afa b0afba
    b0afbba b0ban b0bafan b0bafaf b0bafba b0bafbba b0bafbbba b0bafbbbba b0bban b0bbaf b0bbban b0bbbafa
    b0bbbafba b0bbbafbba (t7n + r47.snd.snd.snd.snd.snd.fst)
    (fun (i : Nat) =>
    bif i.blt t7n then b1fa i
    else r47.snd.snd.snd.snd.snd.snd.snd.snd.snd.fst ((0 : Nat) + (i - t7n)))
    (fun (i : Nat) =>
    bif i.blt t7n then b1fba i
    else r47.snd.snd.snd.snd.snd.snd.snd.snd.snd.snd.fst ((0 : Nat) + (i - t7n)))
    fun (i : Nat) =>
    bif i.blt t7n then b1fbba i
    else r47.snd.snd.snd.snd.snd.snd.snd.snd.snd.snd.snd ((0 : Nat) + (i - t7n)))
    [((1000 : Nat), some (1000 : Nat)),
    ((1001 : Nat), some (98 : Nat))])))).yes.yes.yes.yes.yes.yes.yes.yes.br
    (Orc.ch (Ch.p true)
    (Orc.fin (AV.sc (Value.bool false)) []
    []).yes).no.no.no.no.no.no.no.no)).yes.yes.yes.yes.yes.yes.yes.yes.yes.br
    (Orc.fin (AV.sc (Value.bool false)) [] []).yes.no.no.no.no.no.no.no.no.no).br
  (Orc.call [] []
    (fun (r36 : Nat × (Nat → Int) × (Nat → Int) × (Nat → Int)) =>
    AV.vec false (3 : Nat) r36.fst r36.fst fun (i0 : Nat) =>
    AV.cons (1 : Nat) (AV.sc (Value.int IntKind.i64 (r36.snd.fst i0)))
    (AV.cons (1 : Nat) (AV.sc (Value.int IntKind.i64 (r36.snd.snd.fst i0)))
    (AV.cons (1 : Nat) (AV.sc (Value.int IntKind.i64 (r36.snd.snd.snd i0))) AV.nil)))
    (fun (r36 : Nat × (Nat → Int) × (Nat → Int) × (Nat → Int)) => []) fun (r36 : Nat × (Nat → Int) × (Nat → Int) × (Nat → Int)) =>
    Orc.call [] [] (fun (r35 : Bool) => AV.sc (Value.bool r35)) (fun (r35 : Bool) => []) fun (r35 : Bool) =>
    (Orc.call [] [] (fun (r39 : Bool) => AV.sc (Value.bool r39)) (fun (r39 : Bool) => []) fun (r39 : Bool) =>
    Orc.fin (AV.sc (Value.bool (bif true then r39 else false))) [] []).br
    (Orc.fin (AV.sc (Value.bool false)) [] []))) _ _ (by kernel_rfl) (by kernel_rfl) (show True ∧
  True ∧
    True ∧
    True ∧
    (decide (t9 < (↑on : Int)) = true →
    True ∧
    True ∧
    ((0 : Int) ≤ t9 ∧ t9 < (↑on : Int)) ∧
    True ∧
    True ∧
    True ∧
    True ∧
    (decide (ofba t9.toNat < (1 : Int)) = false →
    True ∧
    false = false ∧
    True ∧
    false = false ∧
    ((0 : Int) ≤ t9 ∧ t9 < (↑on : Int)) ∧
    false = false ∧
    True ∧
    false = false ∧
    True ∧
    false = false ∧
    True ∧
    false = false ∧
    True ∧
    false = false ∧
    True ∧
    false = false ∧
    True ∧
    false = false ∧
    True ∧
    True ∧
    (decide (ofba t9.toNat > IntKind.i64.wrap ((↑t.size : Int) - t8)) = true →
    True ∧
    True ∧
    ((True ∧ Sub (AV.sc (Value.bool false)) (AV.sc (Value.bool false)) ∧ True) ∧
    True) ∧
    Sub (AV.sc (Value.bool false)) res ∧ SubOut [] []) ∧
    (decide (ofba t9.toNat > IntKind.i64.wrap ((↑t.size : Int) - t8)) = false →
    True ∧
    ((1 : Nat) + (0 : Nat) = plus (0 : Nat) (1 : Nat) ∧ True) ∧
    True ∧
    ((0 : Int) ≤ t9 ∧ t9 < (↑b0ban : Int)) ∧
    True ∧
    True ∧
    True ∧
    True ∧
    True ∧
    True ∧
    ((0 : Int) ≤ t9 ∧ t9 < (↑on : Int)) ∧
    True ∧
    True ∧
    True ∧
    ((0 : Int) ≤ t8 ∧
    t8 ≤ IntKind.i64.wrap (t8 + ofba t9.toNat) ∧
    IntKind.i64.wrap (t8 + ofba t9.toNat) ≤
    (↑t.size : Int)) ∧
    True ∧
    True ∧
    ((0 : Int) ≤ t9 ∧ t9 < (↑on : Int)) ∧
    True ∧
    ∃ (r :
    Nat ×
    Int ×
    Int ×
    Bool ×
    Int ×
    Nat ×
    Nat ×
    (Nat → Int) ×
    Nat ×
    (Nat → Int) ×
    (Nat → Int) ×
    (Nat → Int)),
    (((True ∧ True ∧ True ∧ True ∧ True ∧ True) ∧
    True ∧
    (True ∧ True ∧ True ∧ True) ∧ True) ∧
    True ∧
    Ok Proofs.Try.prog (47 : Nat)
    [AV.cons (1 : Nat)
    (AV.vec true (1 : Nat)
    (b0bafan t9.toNat)
    (b0bafan t9.toNat)
    fun (i : Nat) =>
    AV.sc
    (Value.int IntKind.i64
    (b0bafaf t9.toNat i)))
    (AV.cons (1 : Nat)
    (AV.sc
    (Value.int IntKind.i64
    (b0bafba t9.toNat)))
    (AV.cons (1 : Nat)
    (AV.sc
    (Value.int IntKind.i64
    (b0bafbba t9.toNat)))
    (AV.cons (1 : Nat)
    (AV.sc
    (Value.bool
    (b0bafbbba t9.toNat)))
    (AV.cons (1 : Nat)
    (AV.sc
    (Value.int IntKind.i64
    (b0bafbbbba
    t9.toNat)))
    AV.nil)))),
    AV.sc
    (Value.string
    (t.extract t8.toNat
    (IntKind.i64.wrap
    (t8 +
    ofba t9.toNat)).toNat)),
    AV.cons (1 : Nat)
    (AV.sc
    (Value.int IntKind.i64
    (ofa t9.toNat)))
    (AV.cons (1 : Nat)
    (AV.sc
    (Value.int IntKind.i64
    (ofba t9.toNat)))
    (AV.cons (1 : Nat)
    (AV.sc
    (Value.int IntKind.i64
    (ofbba t9.toNat)))
    AV.nil))]
    []
    (AV.cons (5 : Nat)
    (AV.cons (1 : Nat)
    (AV.rf (1000 : Nat) (1 : Nat)
    (0 : Nat) r.fst)
    (AV.cons (1 : Nat)
    (AV.sc
    (Value.int IntKind.i64
    r.snd.fst))
    (AV.cons (1 : Nat)
    (AV.sc
    (Value.int IntKind.i64
    r.snd.snd.fst))
    (AV.cons (1 : Nat)
    (AV.sc
    (Value.bool
    r.snd.snd.snd.fst))
    (AV.cons (1 : Nat)
    (AV.sc
    (Value.int IntKind.i64
    r.snd.snd.snd.snd.fst))
    AV.nil)))))
    (AV.cons (1 : Nat)
    (AV.rf (1001 : Nat) (3 : Nat)
    (0 : Nat)
    r.snd.snd.snd.snd.snd.fst)
    AV.nil)).tup
    [((1000 : Nat), (3 : Nat),
    AV.ar
    r.snd.snd.snd.snd.snd.snd.fst
    (1 : Nat) fun (i0 : Nat) =>
    AV.sc
    (Value.int IntKind.i64
    (r.snd.snd.snd.snd.snd.snd.snd.fst
    i0))),
    ((1001 : Nat), (81 : Nat),
    AV.ar
    r.snd.snd.snd.snd.snd.snd.snd.snd.fst
    (3 : Nat) fun (i0 : Nat) =>
    AV.cons (1 : Nat)
    (AV.sc
    (Value.int IntKind.i64
    (r.snd.snd.snd.snd.snd.snd.snd.snd.snd.fst
    i0)))
    (AV.cons (1 : Nat)
    (AV.sc
    (Value.int IntKind.i64
    (r.snd.snd.snd.snd.snd.snd.snd.snd.snd.snd.fst
    i0)))
    (AV.cons (1 : Nat)
    (AV.sc
    (Value.int IntKind.i64
    (r.snd.snd.snd.snd.snd.snd.snd.snd.snd.snd.snd
    i0)))
    AV.nil)))]) ∧
    True ∧
    True ∧
    True ∧
    True ∧
    ((0 : Nat) = (0 : Nat) ∧ True) ∧
    True ∧
    True ∧
    True ∧
    (t7n ≤ b1n ∧
    ((0 : Nat) +
    r.snd.snd.snd.snd.snd.fst ≤
    r.snd.snd.snd.snd.snd.snd.snd.snd.fst ∧
    (3 : Nat) =
    (3 : Nat)) ∧
    (t7n +
    r.snd.snd.snd.snd.snd.fst) *
    (24 : Nat) ≤
    (140737488355328 :
    Nat) ∧
    t7n +
    r.snd.snd.snd.snd.snd.fst ≤
    maxLen) ∧
    True ∧
    ((0 : Nat) = (0 : Nat) ∧
    True) ∧
    True ∧
    ((1 : Nat) +
    (0 : Nat) =
    plus (0 : Nat)
    (1 : Nat) ∧
    True) ∧
    True ∧
    True ∧
    ((0 : Int) ≤
    IntKind.i64.wrap
    (t9 +
    (1 :
    Int)) ∧
    IntKind.i64.wrap
    (t9 +
    (1 :
    Int)) <
    (↑b0ban :
    Int)) ∧
    True ∧
    ∃ (r_1 :
    Bool),
    ((((0 :
    Nat) +
    r.fst ≤
    r.snd.snd.snd.snd.snd.snd.fst ∧
    True ∧
    True ∧
    True ∧
    True ∧
    True) ∧
    (True ∧
    True ∧
    True ∧
    True ∧
    True ∧
    True) ∧
    True) ∧
    True ∧
    Ok
    Proofs.Try.prog
    (32 :
    Nat)
    [AV.cons
    (1 :
    Nat)
    (AV.vec
    true
    (1 :
    Nat)
    r.fst
    (r.snd.snd.snd.snd.snd.snd.fst -
    (0 :
    Nat))
    fun
    (i :
    Nat) =>
    AV.sc
    (Value.int
    IntKind.i64
    (r.snd.snd.snd.snd.snd.snd.snd.fst
    (plus
    (0 :
    Nat)
    i))))
    (AV.cons
    (1 :
    Nat)
    (AV.sc
    (Value.int
    IntKind.i64
    r.snd.fst))
    (AV.cons
    (1 :
    Nat)
    (AV.sc
    (Value.int
    IntKind.i64
    r.snd.snd.fst))
    (AV.cons
    (1 :
    Nat)
    (AV.sc
    (Value.bool
    r.snd.snd.snd.fst))
    (AV.cons
    (1 :
    Nat)
    (AV.sc
    (Value.int
    IntKind.i64
    r.snd.snd.snd.snd.fst))
    AV.nil)))),
    AV.cons
    (1 :
    Nat)
    (AV.vec
    true
    (1 :
    Nat)
    (b0bafan
    (IntKind.i64.wrap
    (t9 +
    (1 :
    Int))).toNat)
    (b0bafan
    (IntKind.i64.wrap
    (t9 +
    (1 :
    Int))).toNat)
    fun
    (i :
    Nat) =>
    AV.sc
    (Value.int
    IntKind.i64
    (b0bafaf
    (IntKind.i64.wrap
    (t9 +
    (1 :
    Int))).toNat
    i)))
    (AV.cons
    (1 :
    Nat)
    (AV.sc
    (Value.int
    IntKind.i64
    (b0bafba
    (IntKind.i64.wrap
    (t9 +
    (1 :
    Int))).toNat)))
    (AV.cons
    (1 :
    Nat)
    (AV.sc
    (Value.int
    IntKind.i64
    (b0bafbba
    (IntKind.i64.wrap
    (t9 +
    (1 :
    Int))).toNat)))
    (AV.cons
    (1 :
    Nat)
    (AV.sc
    (Value.bool
    (b0bafbbba
    (IntKind.i64.wrap
    (t9 +
    (1 :
    Int))).toNat)))
    (AV.cons
    (1 :
    Nat)
    (AV.sc
    (Value.int
    IntKind.i64
    (b0bafbbbba
    (IntKind.i64.wrap
    (t9 +
    (1 :
    Int))).toNat)))
    AV.nil))))]
    []
    (AV.sc
    (Value.bool
    r_1))
    []) ∧
    True ∧
    True ∧
    ((!r_1) =
    false →
    True ∧
    (!r_1) =
    false ∧
    ((1 :
    Nat) +
    ((1 :
    Nat) +
    (0 :
    Nat)) =
    plus
    (0 :
    Nat)
    (2 :
    Nat) ∧
    True) ∧
    (!r_1) =
    false ∧
    True ∧
    (!r_1) =
    false ∧
    True ∧
    (!r_1) =
    false ∧
    ((0 :
    Int) ≤
    IntKind.i64.wrap
    (t9 +
    (1 :
    Int)) ∧
    IntKind.i64.wrap
    (t9 +
    (1 :
    Int)) <
    (↑b0bban :
    Int)) ∧
    (!r_1) =
    false ∧
    True ∧
    (!r_1) =
    false ∧
    True ∧
    (!r_1) =
    false ∧
    True ∧
    (!r_1) =
    false ∧
    True ∧
    (!r_1) =
    false ∧
    ((b0bbaf
    (IntKind.i64.wrap
    (t9 +
    (1 :
    Int))).toNat !=
    (↑(t7n +
    r.snd.snd.snd.snd.snd.fst) :
    Int)) =
    true →
    True ∧
    True ∧
    ((True ∧
    Sub
    (AV.sc
    (Value.bool
    false))
    (AV.sc
    (Value.bool
    false)) ∧
    True) ∧
    True) ∧
    Sub
    (AV.sc
    (Value.bool
    false))
    res ∧
    SubOut
    []
    []) ∧
    ((b0bbaf
    (IntKind.i64.wrap
    (t9 +
    (1 :
    Int))).toNat !=
    (↑(t7n +
    r.snd.snd.snd.snd.snd.fst) :
    Int)) =
    false →
    True ∧
    True ∧
    True ∧
    ((0 :
    Int) ≤
    t9 ∧
    t9 <
    (↑on :
    Int)) ∧
    True ∧
    True ∧
    True ∧
    True ∧
    True ∧
    True ∧
    True ∧
    ((True ∧
    Sub
    (AV.sc
    (Value.string
    t))
    (AV.sc
    (Value.string
    t)) ∧
    True ∧
    Sub
    (AV.vec
    true
    (3 :
    Nat)
    on
    on
    fun
    (i0 :
    Nat) =>
    AV.cons
    (1 :
    Nat)
    (AV.sc
    (Value.int
    IntKind.i64
    (ofa
    i0)))
    (AV.cons
    (1 :
    Nat)
    (AV.sc
    (Value.int
    IntKind.i64
    (ofba
    i0)))
    (AV.cons
    (1 :
    Nat)
    (AV.sc
    (Value.int
    IntKind.i64
    (ofbba
    i0)))
    AV.nil)))
    (AV.vec
    true
    (3 :
    Nat)
    on
    on
    fun
    (i0 :
    Nat) =>
    AV.cons
    (1 :
    Nat)
    (AV.sc
    (Value.int
    IntKind.i64
    (ofa
    i0)))
    (AV.cons
    (1 :
    Nat)
    (AV.sc
    (Value.int
    IntKind.i64
    (ofba
    i0)))
    (AV.cons
    (1 :
    Nat)
    (AV.sc
    (Value.int
    IntKind.i64
    (ofbba
    i0)))
    AV.nil))) ∧
    True ∧
    Sub
    (AV.pt
    (1000 :
    Nat)
    []
    (0 :
    Nat))
    (AV.pt
    (1000 :
    Nat)
    []
    (0 :
    Nat)) ∧
    True ∧
    Sub
    (AV.rf
    (1001 :
    Nat)
    (3 :
    Nat)
    (0 :
    Nat)
    (t7n +
    r.snd.snd.snd.snd.snd.fst))
    (AV.rf
    (1001 :
    Nat)
    (3 :
    Nat)
    (0 :
    Nat)
    (t7n +
    r.snd.snd.snd.snd.snd.fst)) ∧
    True ∧
    Sub
    (AV.sc
    (Value.int
    IntKind.i64
    (IntKind.i64.wrap
    (t8 +
    ofba
    t9.toNat))))
    (AV.sc
    (Value.int
    IntKind.i64
    (IntKind.i64.wrap
    (t8 +
    ofba
    t9.toNat)))) ∧
    True ∧
    Sub
    (AV.sc
    (Value.int
    IntKind.i64
    (IntKind.i64.wrap
    (t9 +
    (1 :
    Int)))))
    (AV.sc
    (Value.int
    IntKind.i64
    (IntKind.i64.wrap
    (t9 +
    (1 :
    Int))))) ∧
    True) ∧
    (True ∧
    True ∧
    True ∧
    True ∧
    True) ∧
    SubB
    (AV.cons
    (1 :
    Nat)
    (AV.vec
    false
    (3 :
    Nat)
    b0an
    b0an
    fun
    (i0 :
    Nat) =>
    AV.cons
    (1 :
    Nat)
    (AV.sc
    (Value.int
    IntKind.i64
    (b0afa
    i0)))
    (AV.cons
    (1 :
    Nat)
    (AV.sc
    (Value.int
    IntKind.i64
    (b0afba
    i0)))
    (AV.cons
    (1 :
    Nat)
    (AV.sc
    (Value.int
    IntKind.i64
    (b0afbba
    i0)))
    AV.nil)))
    (AV.cons
    (1 :
    Nat)
    (AV.vec
    false
    (5 :
    Nat)
    b0ban
    b0ban
    fun
    (i0 :
    Nat) =>
    AV.cons
    (1 :
    Nat)
    (AV.vec
    false
    (1 :
    Nat)
    (b0bafan
    i0)
    (b0bafan
    i0)
    fun
    (i1 :
    Nat) =>
    AV.sc
    (Value.int
    IntKind.i64
    (b0bafaf
    i0
    i1)))
    (AV.cons
    (1 :
    Nat)
    (AV.sc
    (Value.int
    IntKind.i64
    (b0bafba
    i0)))
    (AV.cons
    (1 :
    Nat)
    (AV.sc
    (Value.int
    IntKind.i64
    (b0bafbba
    i0)))
    (AV.cons
    (1 :
    Nat)
    (AV.sc
    (Value.bool
    (b0bafbbba
    i0)))
    (AV.cons
    (1 :
    Nat)
    (AV.sc
    (Value.int
    IntKind.i64
    (b0bafbbbba
    i0)))
    AV.nil)))))
    (AV.cons
    (1 :
    Nat)
    (AV.vec
    false
    (1 :
    Nat)
    b0bban
    b0bban
    fun
    (i0 :
    Nat) =>
    AV.sc
    (Value.int
    IntKind.i64
    (b0bbaf
    i0)))
    (AV.cons
    (1 :
    Nat)
    (AV.vec
    false
    (3 :
    Nat)
    b0bbban
    b0bbban
    fun
    (i0 :
    Nat) =>
    AV.cons
    (1 :
    Nat)
    (AV.sc
    (Value.int
    IntKind.i64
    (b0bbbafa
    i0)))
    (AV.cons
    (1 :
    Nat)
    (AV.sc
    (Value.int
    IntKind.i64
    (b0bbbafba
    i0)))
    (AV.cons
    (1 :
    Nat)
    (AV.sc
    (Value.int
    IntKind.i64
    (b0bbbafbba
    i0)))
    AV.nil)))
    AV.nil))))
    (AV.cons
    (1 :
    Nat)
    (AV.vec
    false
    (3 :
    Nat)
    b0an
    b0an
    fun
    (i0 :
    Nat) =>
    AV.cons
    (1 :
    Nat)
    (AV.sc
    (Value.int
    IntKind.i64
    (b0afa
    i0)))
    (AV.cons
    (1 :
    Nat)
    (AV.sc
    (Value.int
    IntKind.i64
    (b0afba
    i0)))
    (AV.cons
    (1 :
    Nat)
    (AV.sc
    (Value.int
    IntKind.i64
    (b0afbba
    i0)))
    AV.nil)))
    (AV.cons
    (1 :
    Nat)
    (AV.vec
    false
    (5 :
    Nat)
    b0ban
    b0ban
    fun
    (i0 :
    Nat) =>
    AV.cons
    (1 :
    Nat)
    (AV.vec
    false
    (1 :
    Nat)
    (b0bafan
    i0)
    (b0bafan
    i0)
    fun
    (i1 :
    Nat) =>
    AV.sc
    (Value.int
    IntKind.i64
    (b0bafaf
    i0
    i1)))
    (AV.cons
    (1 :
    Nat)
    (AV.sc
    (Value.int
    IntKind.i64
    (b0bafba
    i0)))
    (AV.cons
    (1 :
    Nat)
    (AV.sc
    (Value.int
    IntKind.i64
    (b0bafbba
    i0)))
    (AV.cons
    (1 :
    Nat)
    (AV.sc
    (Value.bool
    (b0bafbbba
    i0)))
    (AV.cons
    (1 :
    Nat)
    (AV.sc
    (Value.int
    IntKind.i64
    (b0bafbbbba
    i0)))
    AV.nil)))))
    (AV.cons
    (1 :
    Nat)
    (AV.vec
    false
    (1 :
    Nat)
    b0bban
    b0bban
    fun
    (i0 :
    Nat) =>
    AV.sc
    (Value.int
    IntKind.i64
    (b0bbaf
    i0)))
    (AV.cons
    (1 :
    Nat)
    (AV.vec
    false
    (3 :
    Nat)
    b0bbban
    b0bbban
    fun
    (i0 :
    Nat) =>
    AV.cons
    (1 :
    Nat)
    (AV.sc
    (Value.int
    IntKind.i64
    (b0bbbafa
    i0)))
    (AV.cons
    (1 :
    Nat)
    (AV.sc
    (Value.int
    IntKind.i64
    (b0bbbafba
    i0)))
    (AV.cons
    (1 :
    Nat)
    (AV.sc
    (Value.int
    IntKind.i64
    (b0bbbafbba
    i0)))
    AV.nil)))
    AV.nil)))) ∧
    True ∧
    SubB
    (AV.ar
    (t7n +
    r.snd.snd.snd.snd.snd.fst)
    (3 :
    Nat)
    fun
    (i :
    Nat) =>
    AV.cons
    (1 :
    Nat)
    (AV.sc
    (Value.int
    IntKind.i64
    (bif
    i.blt
    t7n then
    b1fa
    i
    else
    r.snd.snd.snd.snd.snd.snd.snd.snd.snd.fst
    ((0 :
    Nat) +
    (i -
    t7n)))))
    (AV.cons
    (1 :
    Nat)
    (AV.sc
    (Value.int
    IntKind.i64
    (bif
    i.blt
    t7n then
    b1fba
    i
    else
    r.snd.snd.snd.snd.snd.snd.snd.snd.snd.snd.fst
    ((0 :
    Nat) +
    (i -
    t7n)))))
    (AV.cons
    (1 :
    Nat)
    (AV.sc
    (Value.int
    IntKind.i64
    (bif
    i.blt
    t7n then
    b1fbba
    i
    else
    r.snd.snd.snd.snd.snd.snd.snd.snd.snd.snd.snd
    ((0 :
    Nat) +
    (i -
    t7n)))))
    AV.nil)))
    (AV.ar
    (t7n +
    r.snd.snd.snd.snd.snd.fst)
    (3 :
    Nat)
    fun
    (i0 :
    Nat) =>
    AV.cons
    (1 :
    Nat)
    (AV.sc
    (Value.int
    IntKind.i64
    (bif
    i0.blt
    t7n then
    b1fa
    i0
    else
    r.snd.snd.snd.snd.snd.snd.snd.snd.snd.fst
    ((0 :
    Nat) +
    (i0 -
    t7n)))))
    (AV.cons
    (1 :
    Nat)
    (AV.sc
    (Value.int
    IntKind.i64
    (bif
    i0.blt
    t7n then
    b1fba
    i0
    else
    r.snd.snd.snd.snd.snd.snd.snd.snd.snd.snd.fst
    ((0 :
    Nat) +
    (i0 -
    t7n)))))
    (AV.cons
    (1 :
    Nat)
    (AV.sc
    (Value.int
    IntKind.i64
    (bif
    i0.blt
    t7n then
    b1fbba
    i0
    else
    r.snd.snd.snd.snd.snd.snd.snd.snd.snd.snd.snd
    ((0 :
    Nat) +
    (i0 -
    t7n)))))
    AV.nil))) ∧
    True) ∧
    L13_0
    t
    on
    ofa
    ofba
    ofbba
    (t7n +
    r.snd.snd.snd.snd.snd.fst)
    (IntKind.i64.wrap
    (t8 +
    ofba
    t9.toNat))
    (IntKind.i64.wrap
    (t9 +
    (1 :
    Int)))
    b0an
    b0afa
    b0afba
    b0afbba
    b0ban
    b0bafan
    b0bafaf
    b0bafba
    b0bafbba
    b0bafbbba
    b0bafbbbba
    b0bban
    b0bbaf
    b0bbban
    b0bbbafa
    b0bbbafba
    b0bbbafbba
    (t7n +
    r.snd.snd.snd.snd.snd.fst)
    (fun
    (i :
    Nat) =>
    bif
    i.blt
    t7n then
    b1fa
    i
    else
    r.snd.snd.snd.snd.snd.snd.snd.snd.snd.fst
    ((0 :
    Nat) +
    (i -
    t7n)))
    (fun
    (i :
    Nat) =>
    bif
    i.blt
    t7n then
    b1fba
    i
    else
    r.snd.snd.snd.snd.snd.snd.snd.snd.snd.snd.fst
    ((0 :
    Nat) +
    (i -
    t7n)))
    (fun
    (i :
    Nat) =>
    bif
    i.blt
    t7n then
    b1fbba
    i
    else
    r.snd.snd.snd.snd.snd.snd.snd.snd.snd.snd.snd
    ((0 :
    Nat) +
    (i -
    t7n)))
    res)) ∧
    ((!r_1) =
    !false →
    true =
    true ∧
    (!r_1) =
    !false ∧
    true =
    true ∧
    (!r_1) =
    !false ∧
    true =
    true ∧
    (!r_1) =
    !false ∧
    true =
    true ∧
    (!r_1) =
    !false ∧
    true =
    true ∧
    (!r_1) =
    !false ∧
    true =
    true ∧
    (!r_1) =
    !false ∧
    true =
    true ∧
    (!r_1) =
    !false ∧
    true =
    true ∧
    (!r_1) =
    !false ∧
    true =
    true ∧
    (!r_1) =
    true ∧
    true =
    true ∧
    True ∧
    True ∧
    ((True ∧
    Sub
    (AV.sc
    (Value.bool
    false))
    (AV.sc
    (Value.bool
    false)) ∧
    True) ∧
    True) ∧
    Sub
    (AV.sc
    (Value.bool
    false))
    res ∧
    SubOut
    []
    []))) ∧
    (decide (ofba t9.toNat < (1 : Int)) = !false →
    true = true ∧
    (!false) = !false ∧
    true = true ∧
    (!false) = !false ∧
    true = true ∧
    (!false) = !false ∧
    true = true ∧
    (!false) = !false ∧
    true = true ∧
    (!false) = !false ∧
    true = true ∧
    (!false) = !false ∧
    true = true ∧
    (!false) = !false ∧
    true = true ∧
    (!false) = !false ∧
    true = true ∧
    (!false) = !false ∧
    true = true ∧
    True ∧
    true = true ∧
    True ∧
    True ∧
    ((True ∧ Sub (AV.sc (Value.bool false)) (AV.sc (Value.bool false)) ∧ True) ∧ True) ∧
    Sub (AV.sc (Value.bool false)) res ∧ SubOut [] [])) ∧
    (decide (t9 < (↑on : Int)) = false →
    True ∧
    True ∧
    ((1 : Nat) + (0 : Nat) = plus (0 : Nat) (1 : Nat) ∧ True) ∧
    True ∧
    True ∧
    ((0 : Int) ≤ (↑on : Int) ∧ (↑on : Int) < (↑b0ban : Int)) ∧
    True ∧
    ∃ (r : Nat × (Nat → Int) × (Nat → Int) × (Nat → Int)),
    (((True ∧ True ∧ True ∧ True ∧ True ∧ True) ∧ True) ∧
    True ∧
    Ok Proofs.Try.prog (36 : Nat)
    [AV.cons (1 : Nat)
    (AV.vec true (1 : Nat) (b0bafan (↑on : Int).toNat) (b0bafan (↑on : Int).toNat) fun (i : Nat) =>
    AV.sc (Value.int IntKind.i64 (b0bafaf (↑on : Int).toNat i)))
    (AV.cons (1 : Nat) (AV.sc (Value.int IntKind.i64 (b0bafba (↑on : Int).toNat)))
    (AV.cons (1 : Nat) (AV.sc (Value.int IntKind.i64 (b0bafbba (↑on : Int).toNat)))
    (AV.cons (1 : Nat) (AV.sc (Value.bool (b0bafbbba (↑on : Int).toNat)))
    (AV.cons (1 : Nat) (AV.sc (Value.int IntKind.i64 (b0bafbbbba (↑on : Int).toNat))) AV.nil))))]
    []
    (AV.vec false (3 : Nat) r.fst r.fst fun (i0 : Nat) =>
    AV.cons (1 : Nat) (AV.sc (Value.int IntKind.i64 (r.snd.fst i0)))
    (AV.cons (1 : Nat) (AV.sc (Value.int IntKind.i64 (r.snd.snd.fst i0)))
    (AV.cons (1 : Nat) (AV.sc (Value.int IntKind.i64 (r.snd.snd.snd i0))) AV.nil)))
    []) ∧
    (t7n ≤ b1n ∧ True ∧ (t7n + r.fst) * (24 : Nat) ≤ (140737488355328 : Nat) ∧ t7n + r.fst ≤ maxLen) ∧
    True ∧
    True ∧
    True ∧
    ((1 : Nat) + ((1 : Nat) + ((1 : Nat) + (0 : Nat))) = plus (0 : Nat) (3 : Nat) ∧ True) ∧
    ∃ (r_1 : Bool),
    (((0 : Nat) + (t7n + r.fst) ≤ t7n + r.fst ∧ True ∧ True) ∧
    True ∧
    Ok Proofs.Try.prog (35 : Nat)
    [AV.vec true (3 : Nat) (t7n + r.fst) (t7n + r.fst - (0 : Nat)) fun (i : Nat) =>
    AV.cons (1 : Nat)
    (AV.sc
    (Value.int IntKind.i64
    (bif (plus (0 : Nat) i).blt t7n then b1fa (plus (0 : Nat) i)
    else r.snd.fst (plus (0 : Nat) i - t7n))))
    (AV.cons (1 : Nat)
    (AV.sc
    (Value.int IntKind.i64
    (bif (plus (0 : Nat) i).blt t7n then b1fba (plus (0 : Nat) i)
    else r.snd.snd.fst (plus (0 : Nat) i - t7n))))
    (AV.cons (1 : Nat)
    (AV.sc
    (Value.int IntKind.i64
    (bif (plus (0 : Nat) i).blt t7n then b1fbba (plus (0 : Nat) i)
    else r.snd.snd.snd (plus (0 : Nat) i - t7n))))
    AV.nil)),
    AV.vec true (3 : Nat) b0bbban b0bbban fun (i : Nat) =>
    AV.cons (1 : Nat) (AV.sc (Value.int IntKind.i64 (b0bbbafa i)))
    (AV.cons (1 : Nat) (AV.sc (Value.int IntKind.i64 (b0bbbafba i)))
    (AV.cons (1 : Nat) (AV.sc (Value.int IntKind.i64 (b0bbbafbba i))) AV.nil))]
    [] (AV.sc (Value.bool r_1)) []) ∧
    True ∧
    (r_1 = true →
    ∃ (r : Bool),
    (True ∧ True ∧ Ok Proofs.Try.prog (39 : Nat) [] [] (AV.sc (Value.bool r)) []) ∧
    True ∧
    True ∧
    True ∧
    ((True ∧ Sub (AV.sc (Value.bool r)) (AV.sc (Value.bool r)) ∧ True) ∧ True) ∧
    Sub (AV.sc (Value.bool r)) res ∧ SubOut [] []) ∧
    (r_1 = !true →
    true = true ∧
    True ∧
    True ∧
    True ∧
    ((True ∧ Sub (AV.sc (Value.bool false)) (AV.sc (Value.bool false)) ∧ True) ∧ True) ∧
    Sub (AV.sc (Value.bool false)) res ∧ SubOut [] [])) from
    ⟨trivial, ⟨trivial, ⟨trivial, ⟨trivial, (And.elim (fun h4 k4 => ⟨(fun x5 => (fun h5 => ⟨trivial, ⟨trivial, (And.elim (fun h8 k8 => ⟨(And.elim (fun h9 k9 => ⟨h9, k9⟩) h8), ⟨trivial, ⟨trivial, ⟨trivial, ⟨trivial, (And.elim (fun h13 k13 => ⟨(fun x14 => (fun h14 => ⟨trivial, ⟨rfl, ⟨trivial, ⟨rfl, ⟨(And.elim (fun h20 k20 => ⟨h20, k20⟩) h8), ⟨rfl, ⟨trivial, ⟨rfl, ⟨trivial, ⟨rfl, ⟨trivial, ⟨rfl, ⟨trivial, ⟨rfl, ⟨trivial, ⟨rfl, ⟨trivial, ⟨rfl, ⟨trivial, ⟨trivial, (And.elim (fun h35 k35 => ⟨(fun x36 => (fun h36 => ⟨trivial, ⟨trivial, ⟨⟨⟨trivial, ⟨Sub.refl _, trivial⟩⟩, trivial⟩, ((fun h40 => ⟨h40, trivial⟩) h36)⟩⟩⟩) (h35 x36)), (fun x36 => (fun h36 => ⟨trivial, ⟨⟨rfl, trivial⟩, ⟨trivial, (And.elim (fun h40 k40 => ⟨(And.elim (fun h41 k41 => ⟨h41, k41⟩) h40), ⟨trivial, ⟨trivial, ⟨trivial, ⟨trivial, ⟨trivial, ⟨trivial, ⟨(And.elim (fun h48 k48 => ⟨h48, k48⟩) h8), ⟨trivial, ⟨trivial, ⟨trivial, (And.elim (fun h51 k51 => ⟨(And.elim (fun h52 k52 => ⟨h52, (And.elim (fun h53 k53 => ⟨h53, k53⟩) k52)⟩) h51), ⟨trivial, ⟨trivial, ⟨(And.elim (fun h55 k55 => ⟨h55, k55⟩) h8), ⟨trivial, (Exists.elim k51 fun x56 h56 => ⟨x56, (And.elim (fun h57 k57 => ⟨⟨⟨⟨trivial, ⟨trivial, ⟨trivial, ⟨trivial, ⟨trivial, trivial⟩⟩⟩⟩⟩, ⟨trivial, ⟨⟨trivial, ⟨trivial, ⟨trivial, trivial⟩⟩⟩, trivial⟩⟩⟩, ⟨trivial, h57⟩⟩, ⟨trivial, ⟨trivial, ⟨trivial, ⟨trivial, ⟨⟨rfl, trivial⟩, ⟨trivial, ⟨trivial, ⟨trivial, (And.elim (fun h66 k66 => ⟨(And.elim (fun h67 k67 => ⟨h67, (And.elim (fun h68 k68 => ⟨((fun h69 => ⟨h69, rfl⟩) h68), (And.elim (fun h69 k69 => ⟨h69, k69⟩) k68)⟩) k67)⟩) h66), ⟨trivial, ⟨⟨rfl, trivial⟩, ⟨trivial, ⟨⟨rfl, trivial⟩, ⟨trivial, ⟨trivial, (And.elim (fun h73 k73 => ⟨(And.elim (fun h74 k74 => ⟨h74, k74⟩) h73), ⟨trivial, (Exists.elim k73 fun x75 h75 => ⟨x75, (And.elim (fun h76 k76 => ⟨(And.elim (fun h77 k77 => ⟨((fun h78 => ⟨((fun h79 => ⟨h79, ⟨trivial, ⟨trivial, ⟨trivial, ⟨trivial, trivial⟩⟩⟩⟩⟩) h78), ⟨⟨trivial, ⟨trivial, ⟨trivial, ⟨trivial, ⟨trivial, trivial⟩⟩⟩⟩⟩, trivial⟩⟩) h77), ⟨trivial, k77⟩⟩) h76), ⟨trivial, ⟨trivial, (And.elim (fun h79 k79 => ⟨(fun x80 => (fun h80 => ⟨trivial, ⟨x80, ⟨⟨rfl, trivial⟩, ⟨x80, ⟨trivial, ⟨x80, ⟨trivial, ⟨x80, (And.elim (fun h89 k89 => ⟨(And.elim (fun h90 k90 => ⟨h90, k90⟩) h89), ⟨x80, ⟨trivial, ⟨x80, ⟨trivial, ⟨x80, ⟨trivial, ⟨x80, ⟨trivial, ⟨x80, (And.elim (fun h99 k99 => ⟨(fun x100 => (fun h100 => ⟨trivial, ⟨trivial, ⟨⟨⟨trivial, ⟨Sub.refl _, trivial⟩⟩, trivial⟩, ((fun h104 => ⟨h104, trivial⟩) h100)⟩⟩⟩) (h99 x100)), (fun x100 => (fun h100 => ⟨trivial, ⟨trivial, ⟨trivial, ⟨(And.elim (fun h105 k105 => ⟨h105, k105⟩) h8), ⟨trivial, ⟨trivial, ⟨trivial, ⟨trivial, ⟨trivial, ⟨trivial, ⟨trivial, ⟨⟨⟨trivial, ⟨Sub.refl _, ⟨trivial, ⟨Sub.refl _, ⟨trivial, ⟨Sub.refl _, ⟨trivial, ⟨Sub.refl _, ⟨trivial, ⟨Sub.refl _, ⟨trivial, ⟨Sub.refl _, trivial⟩⟩⟩⟩⟩⟩⟩⟩⟩⟩⟩⟩, ⟨⟨trivial, ⟨trivial, ⟨trivial, ⟨trivial, trivial⟩⟩⟩⟩, ⟨SubB.refl _, ⟨trivial, ⟨SubB.refl _, trivial⟩⟩⟩⟩⟩, h100⟩⟩⟩⟩⟩⟩⟩⟩⟩⟩⟩⟩) (k99 x100))⟩) k89)⟩⟩⟩⟩⟩⟩⟩⟩⟩⟩) h80)⟩⟩⟩⟩⟩⟩⟩⟩) (h79 x80)), (fun x80 => (fun h80 => ⟨rfl, ⟨x80, ⟨rfl, ⟨x80, ⟨rfl, ⟨x80, ⟨rfl, ⟨x80, ⟨rfl, ⟨x80, ⟨rfl, ⟨x80, ⟨rfl, ⟨x80, ⟨rfl, ⟨x80, ⟨rfl, ⟨x80, ⟨rfl, ⟨trivial, ⟨trivial, ⟨⟨⟨trivial, ⟨Sub.refl _, trivial⟩⟩, trivial⟩, ((fun h103 => ⟨h103, trivial⟩) h80)⟩⟩⟩⟩⟩⟩⟩⟩⟩⟩⟩⟩⟩⟩⟩⟩⟩⟩⟩⟩⟩⟩) (k79 x80))⟩) k76)⟩⟩⟩) h75)⟩)⟩⟩) k66)⟩⟩⟩⟩⟩⟩⟩) k57)⟩⟩⟩⟩⟩⟩⟩⟩⟩) h56)⟩)⟩⟩⟩⟩⟩) k40)⟩⟩⟩⟩⟩⟩⟩⟩⟩⟩⟩) h36)⟩⟩⟩) (k35 x36))⟩) h14)⟩⟩⟩⟩⟩⟩⟩⟩⟩⟩⟩⟩⟩⟩⟩⟩⟩⟩⟩⟩) (h13 x14)), (fun x14 => (fun h14 => ⟨rfl, ⟨rfl, ⟨rfl, ⟨rfl, ⟨rfl, ⟨rfl, ⟨rfl, ⟨rfl, ⟨rfl, ⟨rfl, ⟨rfl, ⟨rfl, ⟨rfl, ⟨rfl, ⟨rfl, ⟨rfl, ⟨rfl, ⟨rfl, ⟨rfl, ⟨trivial, ⟨rfl, ⟨trivial, ⟨trivial, ⟨⟨⟨trivial, ⟨Sub.refl _, trivial⟩⟩, trivial⟩, ((fun h39 => ⟨h39, trivial⟩) h14)⟩⟩⟩⟩⟩⟩⟩⟩⟩⟩⟩⟩⟩⟩⟩⟩⟩⟩⟩⟩⟩⟩⟩⟩) (k13 x14))⟩) k8)⟩⟩⟩⟩⟩) h5)⟩⟩) (h4 x5)), (fun x5 => (fun h5 => ⟨trivial, ⟨trivial, ⟨⟨rfl, trivial⟩, ⟨trivial, ⟨trivial, (And.elim (fun h11 k11 => ⟨(And.elim (fun h12 k12 => ⟨h12, k12⟩) h11), ⟨trivial, (Exists.elim k11 fun x13 h13 => ⟨x13, (And.elim (fun h14 k14 => ⟨⟨⟨⟨trivial, ⟨trivial, ⟨trivial, ⟨trivial, ⟨trivial, trivial⟩⟩⟩⟩⟩, trivial⟩, ⟨trivial, h14⟩⟩, (And.elim (fun h15 k15 => ⟨(And.elim (fun h16 k16 => ⟨h16, ⟨trivial, (And.elim (fun h18 k18 => ⟨h18, k18⟩) k16)⟩⟩) h15), ⟨trivial, ⟨trivial, ⟨trivial, ⟨⟨rfl, trivial⟩, (Exists.elim k15 fun x20 h20 => ⟨x20, (And.elim (fun h21 k21 => ⟨(And.elim (fun h22 k22 => ⟨((fun h23 => ⟨h23, ⟨trivial, trivial⟩⟩) h22), ⟨trivial, k22⟩⟩) h21), ⟨trivial, (And.elim (fun h23 k23 => ⟨(fun x24 => (fun h24 => (Exists.elim h24 fun x25 h25 => ⟨x25, (And.elim (fun h26 k26 => ⟨⟨trivial, ⟨trivial, h26⟩⟩, ⟨trivial, ⟨trivial, ⟨trivial, ⟨⟨⟨trivial, ⟨Sub.refl _, trivial⟩⟩, trivial⟩, ((fun h31 => ⟨h31, trivial⟩) k26)⟩⟩⟩⟩⟩) h25)⟩)) (h23 x24)), (fun x24 => (fun h24 => ⟨rfl, ⟨trivial, ⟨trivial, ⟨trivial, ⟨⟨⟨trivial, ⟨Sub.refl _, trivial⟩⟩, trivial⟩, ((fun h30 => ⟨h30, trivial⟩) h24)⟩⟩⟩⟩⟩) (k23 x24))⟩) k21)⟩⟩) h20)⟩)⟩⟩⟩⟩⟩) k14)⟩) h13)⟩)⟩⟩) h5)⟩⟩⟩⟩⟩) (k4 x5))⟩) h)⟩⟩⟩⟩)
theorem hf31 : Go.Proofs.Try.prog.funcs[31]? = some Go.Proofs.Try.f31 := by kernel_rfl
abbrev s31_e : List (Nat × AV) := []
abbrev m31_e : List (Nat × Nat × AV) := []
def L31_e (res : AV) (out : List (Nat × Nat × AV)) : Prop := Goes ⟨Go.Proofs.Try.prog, 31, [], res, out⟩ (place Go.Proofs.Try.f31 []) (s31_e ) (m31_e )
theorem o31 (res : AV) (out : List (Nat × Nat × AV)) (hnew : newOnly res ∧ ∀ q ∈ out, newOnly q.2.2) (hk : keptN [] out = []) (h : L31_e  res out) : Ok Go.Proofs.Try.prog 31 [] [] res out :=
  okRule2 31 Go.Proofs.Try.f31 hf31 [] [] res out [] hk (by kernel_rfl) (by kernel_rfl) (by kernel_rfl) hnew (L31_e  res out) (by kernel_rfl) h
theorem r31_e (res : AV) (out : List (Nat × Nat × AV))
    (h : Sub
    (AV.cons (1 : Nat) (AV.rf (1000 : Nat) (1 : Nat) (0 : Nat) (1 : Nat))
    (AV.cons (1 : Nat) (AV.sc (Value.int IntKind.i64 (0 : Int)))
    (AV.cons (1 : Nat) (AV.sc (Value.int IntKind.i64 (0 : Int)))
    (AV.cons (1 : Nat) (AV.sc (Value.bool true)) (AV.cons (1 : Nat) (AV.sc (Value.int IntKind.i64 (0 : Int))) AV.nil)))))
    res ∧
  SubOut [((1000 : Nat), (3 : Nat), AV.ar (1 : Nat) (1 : Nat) fun (x : Nat) => AV.sc (Value.int IntKind.i64 (0 : Int)))] out) :
    L31_e  res out :=
  rule Go.Am.Seat.tabOk 31 [] Go.Proofs.Try.f31 hf31 [] (s31_e ) (m31_e ) res out 400
    (Orc.fin
  (AV.cons (1 : Nat) (AV.rf (1000 : Nat) (1 : Nat) (0 : Nat) (1 : Nat))
    (AV.cons (1 : Nat) (AV.sc (Value.int IntKind.i64 (0 : Int)))
    (AV.cons (1 : Nat) (AV.sc (Value.int IntKind.i64 (0 : Int)))
    (AV.cons (1 : Nat) (AV.sc (Value.bool true)) (AV.cons (1 : Nat) (AV.sc (Value.int IntKind.i64 (0 : Int))) AV.nil)))))
  [((1000 : Nat), (3 : Nat), AV.ar (1 : Nat) (1 : Nat) fun (x : Nat) => AV.sc (Value.int IntKind.i64 (0 : Int)))] [((1000 : Nat), some (1 : Nat))]) _ _ (by kernel_rfl) (by kernel_rfl) (show True ∧
  ((True ∧ True) ∧ True) ∧
    True ∧
    ((0 : Nat) = (0 : Nat) ∧ True) ∧
    ((0 : Nat) = (0 : Nat) ∧ True) ∧
    (((True ∧ True ∧ True ∧ True ∧ True ∧ True) ∧
    Sub
    (AV.cons (1 : Nat) (AV.rf (1000 : Nat) (1 : Nat) (0 : Nat) (1 : Nat))
    (AV.cons (1 : Nat) (AV.sc (Value.int IntKind.i64 (0 : Int)))
    (AV.cons (1 : Nat) (AV.sc (Value.int IntKind.i64 (0 : Int)))
    (AV.cons (1 : Nat) (AV.sc (Value.bool true)) (AV.cons (1 : Nat) (AV.sc (Value.int IntKind.i64 (0 : Int))) AV.nil)))))
    (AV.cons (1 : Nat) (AV.rf (1000 : Nat) (1 : Nat) (0 : Nat) (1 : Nat))
    (AV.cons (1 : Nat) (AV.sc (Value.int IntKind.i64 (0 : Int)))
    (AV.cons (1 : Nat) (AV.sc (Value.int IntKind.i64 (0 : Int)))
    (AV.cons (1 : Nat) (AV.sc (Value.bool true)) (AV.cons (1 : Nat) (AV.sc (Value.int IntKind.i64 (0 : Int))) AV.nil))))) ∧
    True) ∧
    True ∧
    SubB (AV.ar (1 : Nat) (1 : Nat) fun (x : Nat) => AV.sc (Value.int IntKind.i64 (0 : Int)))
    (AV.ar (1 : Nat) (1 : Nat) fun (x : Nat) => AV.sc (Value.int IntKind.i64 (0 : Int))) ∧
    True) ∧
    Sub
    (AV.cons (1 : Nat) (AV.rf (1000 : Nat) (1 : Nat) (0 : Nat) (1 : Nat))
    (AV.cons (1 : Nat) (AV.sc (Value.int IntKind.i64 (0 : Int)))
    (AV.cons (1 : Nat) (AV.sc (Value.int IntKind.i64 (0 : Int)))
    (AV.cons (1 : Nat) (AV.sc (Value.bool true)) (AV.cons (1 : Nat) (AV.sc (Value.int IntKind.i64 (0 : Int))) AV.nil)))))
    res ∧
    SubOut [((1000 : Nat), (3 : Nat), AV.ar (1 : Nat) (1 : Nat) fun (x : Nat) => AV.sc (Value.int IntKind.i64 (0 : Int)))] out from
    ⟨trivial, ⟨⟨⟨trivial, trivial⟩, trivial⟩, ⟨trivial, ⟨⟨rfl, trivial⟩, ⟨⟨rfl, trivial⟩, ⟨⟨⟨⟨trivial, ⟨trivial, ⟨trivial, ⟨trivial, ⟨trivial, trivial⟩⟩⟩⟩⟩, ⟨Sub.refl _, trivial⟩⟩, ⟨trivial, ⟨SubB.refl _, trivial⟩⟩⟩, (And.elim (fun h6 k6 => ⟨h6, k6⟩) h)⟩⟩⟩⟩⟩⟩)
theorem hf32 : Go.Proofs.Try.prog.funcs[32]? = some Go.Proofs.Try.f32 := by kernel_rfl
abbrev s32_e (aan : Nat) (aaf : Nat → Int) (aba : Int) (abba : Int) (abbba : Bool) (abbbba : Int) (ban : Nat) (baf : Nat → Int) (bba : Int) (bbba : Int) (bbbba : Bool) (bbbbba : Int) : List (Nat × AV) := [(0, (.cons 1 (.vec true 1 aan aan (fun i0 => (.sc (.int .i64 (aaf i0))))) (.cons 1 (.sc (.int .i64 aba)) (.cons 1 (.sc (.int .i64 abba)) (.cons 1 (.sc (.bool abbba)) (.cons 1 (.sc (.int .i64 abbbba)) .nil)))))), (1, (.cons 1 (.vec true 1 ban ban (fun i0 => (.sc (.int .i64 (baf i0))))) (.cons 1 (.sc (.int .i64 bba)) (.cons 1 (.sc (.int .i64 bbba)) (.cons 1 (.sc (.bool bbbba)) (.cons 1 (.sc (.int .i64 bbbbba)) .nil))))))]
abbrev m32_e (aan : Nat) (aaf : Nat → Int) (aba : Int) (abba : Int) (abbba : Bool) (abbbba : Int) (ban : Nat) (baf : Nat → Int) (bba : Int) (bbba : Int) (bbbba : Bool) (bbbbba : Int) : List (Nat × Nat × AV) := []
def L32_e (aan : Nat) (aaf : Nat → Int) (aba : Int) (abba : Int) (abbba : Bool) (abbbba : Int) (ban : Nat) (baf : Nat → Int) (bba : Int) (bbba : Int) (bbbba : Bool) (bbbbba : Int) (res : AV) : Prop := Goes ⟨Go.Proofs.Try.prog, 32, [], res, []⟩ (place Go.Proofs.Try.f32 []) (s32_e aan aaf aba abba abbba abbbba ban baf bba bbba bbbba bbbbba) (m32_e aan aaf aba abba abbba abbbba ban baf bba bbba bbbba bbbbba)
theorem o32 (aan : Nat) (aaf : Nat → Int) (aba : Int) (abba : Int) (abbba : Bool) (abbbba : Int) (ban : Nat) (baf : Nat → Int) (bba : Int) (bbba : Int) (bbbba : Bool) (bbbbba : Int) (res : AV) (hnew : newOnly res) (h : L32_e aan aaf aba abba abbba abbbba ban baf bba bbba bbbba bbbbba res) : Ok Go.Proofs.Try.prog 32 [(.cons 1 (.vec true 1 aan aan (fun i0 => (.sc (.int .i64 (aaf i0))))) (.cons 1 (.sc (.int .i64 aba)) (.cons 1 (.sc (.int .i64 abba)) (.cons 1 (.sc (.bool abbba)) (.cons 1 (.sc (.int .i64 abbbba)) .nil))))), (.cons 1 (.vec true 1 ban ban (fun i0 => (.sc (.int .i64 (baf i0))))) (.cons 1 (.sc (.int .i64 bba)) (.cons 1 (.sc (.int .i64 bbba)) (.cons 1 (.sc (.bool bbbba)) (.cons 1 (.sc (.int .i64 bbbbba)) .nil)))))] [] res [] :=
  okRule2 32 Go.Proofs.Try.f32 hf32 [(.cons 1 (.vec true 1 aan aan (fun i0 => (.sc (.int .i64 (aaf i0))))) (.cons 1 (.sc (.int .i64 aba)) (.cons 1 (.sc (.int .i64 abba)) (.cons 1 (.sc (.bool abbba)) (.cons 1 (.sc (.int .i64 abbbba)) .nil))))), (.cons 1 (.vec true 1 ban ban (fun i0 => (.sc (.int .i64 (baf i0))))) (.cons 1 (.sc (.int .i64 bba)) (.cons 1 (.sc (.int .i64 bbba)) (.cons 1 (.sc (.bool bbbba)) (.cons 1 (.sc (.int .i64 bbbbba)) .nil)))))] [] res [] [] rfl (by kernel_rfl) (by kernel_rfl) (by kernel_rfl) ⟨hnew, by simp⟩ (L32_e aan aaf aba abba abbba abbbba ban baf bba bbba bbbba bbbbba res) (by kernel_rfl) h
theorem r32_e (aan : Nat) (aaf : Nat → Int) (aba : Int) (abba : Int) (abbba : Bool) (abbbba : Int) (ban : Nat) (baf : Nat → Int) (bba : Int) (bbba : Int) (bbbba : Bool) (bbbbba : Int) (res : AV)
    (h : ∃ (r : Bool),
  Ok Proofs.Try.prog (60 : Nat)
    [AV.vec true (1 : Nat) aan aan fun (i : Nat) => AV.sc (Value.int IntKind.i64 (aaf i)),
    AV.vec true (1 : Nat) ban ban fun (i : Nat) => AV.sc (Value.int IntKind.i64 (baf i))]
    [] (AV.sc (Value.bool r)) [] ∧
    (r = true →
    ((aba == bba) = true →
    ((abba == bbba) = true →
    ((abbba == bbbba) = true → Sub (AV.sc (Value.bool (abbbba == bbbbba))) res) ∧ ((abbba == bbbba) = !true → Sub (AV.sc (Value.bool false)) res)) ∧
    ((abba == bbba) = !true → Sub (AV.sc (Value.bool false)) res)) ∧
    ((aba == bba) = !true → Sub (AV.sc (Value.bool false)) res)) ∧
    (r = !true → Sub (AV.sc (Value.bool false)) res)) :
    L32_e aan aaf aba abba abbba abbbba ban baf bba bbba bbbba bbbbba res :=
  rule Go.Am.Seat.tabOk 32 [] Go.Proofs.Try.f32 hf32 [] (s32_e aan aaf aba abba abbba abbbba ban baf bba bbba bbbba bbbbba) (m32_e aan aaf aba abba abbba abbbba ban baf bba bbba bbbba bbbbba) res [] 400
    (Orc.call [] [] (fun (r60 : Bool) => AV.sc (Value.bool r60)) (fun (r60 : Bool) => []) fun (r60 : Bool) =>
  ((((Orc.fin (AV.sc (Value.bool (bif true then abbbba == bbbbba else false))) [] []).yes.yes.yes.yes.br
    (Orc.fin (AV.sc (Value.bool false)) [] []).no.no.no.no).yes.yes.yes.yes.br
    (Orc.fin (AV.sc (Value.bool false)) [] []).no.no.no.no.no.no.no.no.no).yes.yes.yes.yes.br
    (Orc.fin (AV.sc (Value.bool false)) [] []).no.no.no.no.no.no.no.no.no.no.no.no.no.no).yes.yes.yes.yes.br
    (Orc.fin (AV.sc (Value.bool false)) [] []).no.no.no.no.no.no.no.no.no.no.no.no.no.no.no.no.no.no.no) _ _ (by kernel_rfl) (by kernel_rfl) (show True ∧
  True ∧
    True ∧
    True ∧
    ((0 : Nat) = plus (0 : Nat) (0 : Nat) ∧ True) ∧
    True ∧
    ((0 : Nat) = plus (0 : Nat) (0 : Nat) ∧ True) ∧
    ∃ (r : Bool),
    ((True ∧ True ∧ True) ∧
    True ∧
    Ok Proofs.Try.prog (60 : Nat)
    [AV.vec true (1 : Nat) aan aan fun (i : Nat) => AV.sc (Value.int IntKind.i64 (aaf i)),
    AV.vec true (1 : Nat) ban ban fun (i : Nat) => AV.sc (Value.int IntKind.i64 (baf i))]
    [] (AV.sc (Value.bool r)) []) ∧
    True ∧
    (r = true →
    True ∧
    true = true ∧
    ((1 : Nat) + (0 : Nat) = plus (0 : Nat) (1 : Nat) ∧ True) ∧
    true = true ∧
    True ∧
    true = true ∧
    ((1 : Nat) + (0 : Nat) = plus (0 : Nat) (1 : Nat) ∧ True) ∧
    true = true ∧
    True ∧
    True ∧
    True ∧
    ((aba == bba) = true →
    True ∧
    true = true ∧
    ((1 : Nat) + ((1 : Nat) + (0 : Nat)) = plus (0 : Nat) (2 : Nat) ∧ True) ∧
    true = true ∧
    True ∧
    true = true ∧
    ((1 : Nat) + ((1 : Nat) + (0 : Nat)) = plus (0 : Nat) (2 : Nat) ∧ True) ∧
    true = true ∧
    True ∧
    True ∧
    True ∧
    ((abba == bbba) = true →
    True ∧
    true = true ∧
    ((1 : Nat) + ((1 : Nat) + ((1 : Nat) + (0 : Nat))) = plus (0 : Nat) (3 : Nat) ∧
    True) ∧
    true = true ∧
    True ∧
    true = true ∧
    ((1 : Nat) + ((1 : Nat) + ((1 : Nat) + (0 : Nat))) =
    plus (0 : Nat) (3 : Nat) ∧
    True) ∧
    true = true ∧
    True ∧
    True ∧
    True ∧
    ((abbba == bbbba) = true →
    True ∧
    true = true ∧
    ((1 : Nat) +
    ((1 : Nat) +
    ((1 : Nat) + ((1 : Nat) + (0 : Nat)))) =
    plus (0 : Nat) (4 : Nat) ∧
    True) ∧
    true = true ∧
    True ∧
    true = true ∧
    ((1 : Nat) +
    ((1 : Nat) +
    ((1 : Nat) +
    ((1 : Nat) + (0 : Nat)))) =
    plus (0 : Nat) (4 : Nat) ∧
    True) ∧
    true = true ∧
    True ∧
    True ∧
    True ∧
    True ∧
    ((True ∧
    Sub
    (AV.sc
    (Value.bool
    (abbbba == bbbbba)))
    (AV.sc
    (Value.bool
    (abbbba ==
    bbbbba))) ∧
    True) ∧
    True) ∧
    Sub
    (AV.sc
    (Value.bool
    (abbbba == bbbbba)))
    res ∧
    SubOut [] []) ∧
    ((abbba == bbbba) = !true →
    true = true ∧
    (!true) = !true ∧
    true = true ∧
    (!true) = !true ∧
    true = true ∧
    (!true) = !true ∧
    true = true ∧
    (!true) = !true ∧
    true = true ∧
    True ∧
    True ∧
    True ∧
    ((True ∧
    Sub
    (AV.sc
    (Value.bool false))
    (AV.sc
    (Value.bool false)) ∧
    True) ∧
    True) ∧
    Sub (AV.sc (Value.bool false))
    res ∧
    SubOut [] [])) ∧
    ((abba == bbba) = !true →
    true = true ∧
    (!true) = !true ∧
    true = true ∧
    (!true) = !true ∧
    true = true ∧
    (!true) = !true ∧
    true = true ∧
    (!true) = !true ∧
    true = true ∧
    True ∧
    True ∧
    false = !true ∧
    true = true ∧
    (!true) = !true ∧
    true = true ∧
    (!true) = !true ∧
    true = true ∧
    (!true) = !true ∧
    true = true ∧
    (!true) = !true ∧
    true = true ∧
    True ∧
    True ∧
    True ∧
    ((True ∧
    Sub (AV.sc (Value.bool false))
    (AV.sc
    (Value.bool false)) ∧
    True) ∧
    True) ∧
    Sub (AV.sc (Value.bool false))
    res ∧
    SubOut [] [])) ∧
    ((aba == bba) = !true →
    true = true ∧
    (!true) = !true ∧
    true = true ∧
    (!true) = !true ∧
    true = true ∧
    (!true) = !true ∧
    true = true ∧
    (!true) = !true ∧
    true = true ∧
    True ∧
    True ∧
    false = !true ∧
    true = true ∧
    (!true) = !true ∧
    true = true ∧
    (!true) = !true ∧
    true = true ∧
    (!true) = !true ∧
    true = true ∧
    (!true) = !true ∧
    true = true ∧
    True ∧
    True ∧
    false = !true ∧
    true = true ∧
    (!true) = !true ∧
    true = true ∧
    (!true) = !true ∧
    true = true ∧
    (!true) = !true ∧
    true = true ∧
    (!true) = !true ∧
    true = true ∧
    True ∧
    True ∧
    True ∧
    ((True ∧
    Sub (AV.sc (Value.bool false))
    (AV.sc (Value.bool false)) ∧
    True) ∧
    True) ∧
    Sub (AV.sc (Value.bool false)) res ∧
    SubOut [] [])) ∧
    (r = !true →
    true = true ∧
    (!true) = !true ∧
    true = true ∧
    (!true) = !true ∧
    true = true ∧
    (!true) = !true ∧
    true = true ∧
    (!true) = !true ∧
    true = true ∧
    True ∧
    True ∧
    false = !true ∧
    true = true ∧
    (!true) = !true ∧
    true = true ∧
    (!true) = !true ∧
    true = true ∧
    (!true) = !true ∧
    true = true ∧
    (!true) = !true ∧
    true = true ∧
    True ∧
    True ∧
    false = !true ∧
    true = true ∧
    (!true) = !true ∧
    true = true ∧
    (!true) = !true ∧
    true = true ∧
    (!true) = !true ∧
    true = true ∧
    (!true) = !true ∧
    true = true ∧
    True ∧
    True ∧
    false = !true ∧
    true = true ∧
    (!true) = !true ∧
    true = true ∧
    (!true) = !true ∧
    true = true ∧
    (!true) = !true ∧
    true = true ∧
    (!true) = !true ∧
    true = true ∧
    True ∧
    True ∧
    True ∧
    ((True ∧
    Sub (AV.sc (Value.bool false))
    (AV.sc (Value.bool false)) ∧
    True) ∧
    True) ∧
    Sub (AV.sc (Value.bool false)) res ∧
    SubOut [] []) from
    ⟨trivial, ⟨trivial, ⟨trivial, ⟨trivial, ⟨⟨rfl, trivial⟩, ⟨trivial, ⟨⟨rfl, trivial⟩, (Exists.elim h fun x7 h7 => ⟨x7, (And.elim (fun h8 k8 => ⟨⟨⟨trivial, ⟨trivial, trivial⟩⟩, ⟨trivial, h8⟩⟩, ⟨trivial, (And.elim (fun h10 k10 => ⟨(fun x11 => (fun h11 => ⟨trivial, ⟨rfl, ⟨⟨rfl, trivial⟩, ⟨rfl, ⟨trivial, ⟨rfl, ⟨⟨rfl, trivial⟩, ⟨rfl, ⟨trivial, ⟨trivial, ⟨trivial, (And.elim (fun h23 k23 => ⟨(fun x24 => (fun h24 => ⟨trivial, ⟨rfl, ⟨⟨rfl, trivial⟩, ⟨rfl, ⟨trivial, ⟨rfl, ⟨⟨rfl, trivial⟩, ⟨rfl, ⟨trivial, ⟨trivial, ⟨trivial, (And.elim (fun h36 k36 => ⟨(fun x37 => (fun h37 => ⟨trivial, ⟨rfl, ⟨⟨rfl, trivial⟩, ⟨rfl, ⟨trivial, ⟨rfl, ⟨⟨rfl, trivial⟩, ⟨rfl, ⟨trivial, ⟨trivial, ⟨trivial, (And.elim (fun h49 k49 => ⟨(fun x50 => (fun h50 => ⟨trivial, ⟨rfl, ⟨⟨rfl, trivial⟩, ⟨rfl, ⟨trivial, ⟨rfl, ⟨⟨rfl, trivial⟩, ⟨rfl, ⟨trivial, ⟨trivial, ⟨trivial, ⟨trivial, ⟨⟨⟨trivial, ⟨Sub.refl _, trivial⟩⟩, trivial⟩, ((fun h64 => ⟨h64, trivial⟩) h50)⟩⟩⟩⟩⟩⟩⟩⟩⟩⟩⟩⟩⟩) (h49 x50)), (fun x50 => (fun h50 => ⟨rfl, ⟨rfl, ⟨rfl, ⟨rfl, ⟨rfl, ⟨rfl, ⟨rfl, ⟨rfl, ⟨rfl, ⟨trivial, ⟨trivial, ⟨trivial, ⟨⟨⟨trivial, ⟨Sub.refl _, trivial⟩⟩, trivial⟩, ((fun h64 => ⟨h64, trivial⟩) h50)⟩⟩⟩⟩⟩⟩⟩⟩⟩⟩⟩⟩⟩) (k49 x50))⟩) h37)⟩⟩⟩⟩⟩⟩⟩⟩⟩⟩⟩) (h36 x37)), (fun x37 => (fun h37 => ⟨rfl, ⟨rfl, ⟨rfl, ⟨rfl, ⟨rfl, ⟨rfl, ⟨rfl, ⟨rfl, ⟨rfl, ⟨trivial, ⟨trivial, ⟨rfl, ⟨rfl, ⟨rfl, ⟨rfl, ⟨rfl, ⟨rfl, ⟨rfl, ⟨rfl, ⟨rfl, ⟨rfl, ⟨trivial, ⟨trivial, ⟨trivial, ⟨⟨⟨trivial, ⟨Sub.refl _, trivial⟩⟩, trivial⟩, ((fun h63 => ⟨h63, trivial⟩) h37)⟩⟩⟩⟩⟩⟩⟩⟩⟩⟩⟩⟩⟩⟩⟩⟩⟩⟩⟩⟩⟩⟩⟩⟩⟩) (k36 x37))⟩) h24)⟩⟩⟩⟩⟩⟩⟩⟩⟩⟩⟩) (h23 x24)), (fun x24 => (fun h24 => ⟨rfl, ⟨rfl, ⟨rfl, ⟨rfl, ⟨rfl, ⟨rfl, ⟨rfl, ⟨rfl, ⟨rfl, ⟨trivial, ⟨trivial, ⟨rfl, ⟨rfl, ⟨rfl, ⟨rfl, ⟨rfl, ⟨rfl, ⟨rfl, ⟨rfl, ⟨rfl, ⟨rfl, ⟨trivial, ⟨trivial, ⟨rfl, ⟨rfl, ⟨rfl, ⟨rfl, ⟨rfl, ⟨rfl, ⟨rfl, ⟨rfl, ⟨rfl, ⟨rfl, ⟨trivial, ⟨trivial, ⟨trivial, ⟨⟨⟨trivial, ⟨Sub.refl _, trivial⟩⟩, trivial⟩, ((fun h62 => ⟨h62, trivial⟩) h24)⟩⟩⟩⟩⟩⟩⟩⟩⟩⟩⟩⟩⟩⟩⟩⟩⟩⟩⟩⟩⟩⟩⟩⟩⟩⟩⟩⟩⟩⟩⟩⟩⟩⟩⟩⟩⟩) (k23 x24))⟩) h11)⟩⟩⟩⟩⟩⟩⟩⟩⟩⟩⟩) (h10 x11)), (fun x11 => (fun h11 => ⟨rfl, ⟨rfl, ⟨rfl, ⟨rfl, ⟨rfl, ⟨rfl, ⟨rfl, ⟨rfl, ⟨rfl, ⟨trivial, ⟨trivial, ⟨rfl, ⟨rfl, ⟨rfl, ⟨rfl, ⟨rfl, ⟨rfl, ⟨rfl, ⟨rfl, ⟨rfl, ⟨rfl, ⟨trivial, ⟨trivial, ⟨rfl, ⟨rfl, ⟨rfl, ⟨rfl, ⟨rfl, ⟨rfl, ⟨rfl, ⟨rfl, ⟨rfl, ⟨rfl, ⟨trivial, ⟨trivial, ⟨rfl, ⟨rfl, ⟨rfl, ⟨rfl, ⟨rfl, ⟨rfl, ⟨rfl, ⟨rfl, ⟨rfl, ⟨rfl, ⟨trivial, ⟨trivial, ⟨trivial, ⟨⟨⟨trivial, ⟨Sub.refl _, trivial⟩⟩, trivial⟩, ((fun h61 => ⟨h61, trivial⟩) h11)⟩⟩⟩⟩⟩⟩⟩⟩⟩⟩⟩⟩⟩⟩⟩⟩⟩⟩⟩⟩⟩⟩⟩⟩⟩⟩⟩⟩⟩⟩⟩⟩⟩⟩⟩⟩⟩⟩⟩⟩⟩⟩⟩⟩⟩⟩⟩⟩⟩) (k10 x11))⟩) k8)⟩⟩) h7)⟩)⟩⟩⟩⟩⟩⟩⟩)
theorem hf35 : Go.Proofs.Try.prog.funcs[35]? = some Go.Proofs.Try.f35 := by kernel_rfl
abbrev s35_e (an : Nat) (afa : Nat → Int) (afba : Nat → Int) (afbba : Nat → Int) (bn : Nat) (bfa : Nat → Int) (bfba : Nat → Int) (bfbba : Nat → Int) : List (Nat × AV) := [(0, (.vec true 3 an an (fun i0 => (.cons 1 (.sc (.int .i64 (afa i0))) (.cons 1 (.sc (.int .i64 (afba i0))) (.cons 1 (.sc (.int .i64 (afbba i0))) .nil)))))), (1, (.vec true 3 bn bn (fun i0 => (.cons 1 (.sc (.int .i64 (bfa i0))) (.cons 1 (.sc (.int .i64 (bfba i0))) (.cons 1 (.sc (.int .i64 (bfbba i0))) .nil))))))]
abbrev m35_e (an : Nat) (afa : Nat → Int) (afba : Nat → Int) (afbba : Nat → Int) (bn : Nat) (bfa : Nat → Int) (bfba : Nat → Int) (bfbba : Nat → Int) : List (Nat × Nat × AV) := []
def L35_e (an : Nat) (afa : Nat → Int) (afba : Nat → Int) (afbba : Nat → Int) (bn : Nat) (bfa : Nat → Int) (bfba : Nat → Int) (bfbba : Nat → Int) (res : AV) : Prop := Goes ⟨Go.Proofs.Try.prog, 35, [], res, []⟩ (place Go.Proofs.Try.f35 []) (s35_e an afa afba afbba bn bfa bfba bfbba) (m35_e an afa afba afbba bn bfa bfba bfbba)
theorem a35_e (an : Nat) (afa : Nat → Int) (afba : Nat → Int) (afbba : Nat → Int) (bn : Nat) (bfa : Nat → Int) (bfba : Nat → Int) (bfbba : Nat → Int) (res : AV) (h : (∀ slot, fact (look .undef (s35_e an afa afba afbba bn bfa bfba bfbba) slot)) → L35_e an afa afba afbba bn bfa bfba bfbba res) : L35_e an afa afba afbba bn bfa bfba bfbba res :=
  assumeRule 35 [] Go.Proofs.Try.f35 hf35 [] (s35_e an afa afba afbba bn bfa bfba bfbba) (m35_e an afa afba afbba bn bfa bfba bfbba) res [] _ (by kernel_rfl) h
abbrev s35_0 (an : Nat) (afa : Nat → Int) (afba : Nat → Int) (afbba : Nat → Int) (bn : Nat) (bfa : Nat → Int) (bfba : Nat → Int) (bfbba : Nat → Int) (i : Int) : List (Nat × AV) := [(0, (.vec true 3 an an (fun i0 => (.cons 1 (.sc (.int .i64 (afa i0))) (.cons 1 (.sc (.int .i64 (afba i0))) (.cons 1 (.sc (.int .i64 (afbba i0))) .nil)))))), (1, (.vec true 3 bn bn (fun i0 => (.cons 1 (.sc (.int .i64 (bfa i0))) (.cons 1 (.sc (.int .i64 (bfba i0))) (.cons 1 (.sc (.int .i64 (bfbba i0))) .nil)))))), (5, (.sc (.int .i64 i)))]
abbrev m35_0 (an : Nat) (afa : Nat → Int) (afba : Nat → Int) (afbba : Nat → Int) (bn : Nat) (bfa : Nat → Int) (bfba : Nat → Int) (bfbba : Nat → Int) (i : Int) : List (Nat × Nat × AV) := []
def L35_0 (an : Nat) (afa : Nat → Int) (afba : Nat → Int) (afbba : Nat → Int) (bn : Nat) (bfa : Nat → Int) (bfba : Nat → Int) (bfbba : Nat → Int) (i : Int) (res : AV) : Prop := Goes ⟨Go.Proofs.Try.prog, 35, [], res, []⟩ (place Go.Proofs.Try.f35 [1, 1, 0, 1, 0, 0]) (s35_0 an afa afba afbba bn bfa bfba bfbba i) (m35_0 an afa afba afbba bn bfa bfba bfbba i)
theorem o35 (an : Nat) (afa : Nat → Int) (afba : Nat → Int) (afbba : Nat → Int) (bn : Nat) (bfa : Nat → Int) (bfba : Nat → Int) (bfbba : Nat → Int) (res : AV) (hnew : newOnly res) (h : L35_e an afa afba afbba bn bfa bfba bfbba res) : Ok Go.Proofs.Try.prog 35 [(.vec true 3 an an (fun i0 => (.cons 1 (.sc (.int .i64 (afa i0))) (.cons 1 (.sc (.int .i64 (afba i0))) (.cons 1 (.sc (.int .i64 (afbba i0))) .nil))))), (.vec true 3 bn bn (fun i0 => (.cons 1 (.sc (.int .i64 (bfa i0))) (.cons 1 (.sc (.int .i64 (bfba i0))) (.cons 1 (.sc (.int .i64 (bfbba i0))) .nil)))))] [] res [] :=
  okRule2 35 Go.Proofs.Try.f35 hf35 [(.vec true 3 an an (fun i0 => (.cons 1 (.sc (.int .i64 (afa i0))) (.cons 1 (.sc (.int .i64 (afba i0))) (.cons 1 (.sc (.int .i64 (afbba i0))) .nil))))), (.vec true 3 bn bn (fun i0 => (.cons 1 (.sc (.int .i64 (bfa i0))) (.cons 1 (.sc (.int .i64 (bfba i0))) (.cons 1 (.sc (.int .i64 (bfbba i0))) .nil)))))] [] res [] [] rfl (by kernel_rfl) (by kernel_rfl) (by kernel_rfl) ⟨hnew, by simp⟩ (L35_e an afa afba afbba bn bfa bfba bfbba res) (by kernel_rfl) h
theorem r35_e (an : Nat) (afa : Nat → Int) (afba : Nat → Int) (afbba : Nat → Int) (bn : Nat) (bfa : Nat → Int) (bfba : Nat → Int) (bfbba : Nat → Int) (res : AV)
    (h : (((↑an : Int) != (↑bn : Int)) = true → Sub (AV.sc (Value.bool false)) res) ∧
  (((↑an : Int) != (↑bn : Int)) = false → L35_0 an afa afba afbba bn bfa bfba bfbba (0 : Int) res)) :
    L35_e an afa afba afbba bn bfa bfba bfbba res :=
  rule Go.Am.Seat.tabOk 35 [] Go.Proofs.Try.f35 hf35 [] (s35_e an afa afba afbba bn bfa bfba bfbba) (m35_e an afa afba afbba bn bfa bfba bfbba) res [] 400
    ((Orc.fin (AV.sc (Value.bool false)) [] []).br
  (Orc.cut (nat_lit 6) (s35_0 an afa afba afbba bn bfa bfba bfbba (0 : Int)) (m35_0 an afa afba afbba bn bfa bfba bfbba (0 : Int)) [])) _ _ (by kernel_rfl) (by kernel_rfl) (show True ∧
  True ∧
    True ∧
    True ∧
    True ∧
    True ∧
    (((↑an : Int) != (↑bn : Int)) = true →
    True ∧
    True ∧
    ((True ∧ Sub (AV.sc (Value.bool false)) (AV.sc (Value.bool false)) ∧ True) ∧ True) ∧ Sub (AV.sc (Value.bool false)) res ∧ SubOut [] []) ∧
    (((↑an : Int) != (↑bn : Int)) = false →
    True ∧
    ((True ∧
    Sub
    (AV.vec true (3 : Nat) an an fun (i0 : Nat) =>
    AV.cons (1 : Nat) (AV.sc (Value.int IntKind.i64 (afa i0)))
    (AV.cons (1 : Nat) (AV.sc (Value.int IntKind.i64 (afba i0)))
    (AV.cons (1 : Nat) (AV.sc (Value.int IntKind.i64 (afbba i0))) AV.nil)))
    (AV.vec true (3 : Nat) an an fun (i0 : Nat) =>
    AV.cons (1 : Nat) (AV.sc (Value.int IntKind.i64 (afa i0)))
    (AV.cons (1 : Nat) (AV.sc (Value.int IntKind.i64 (afba i0)))
    (AV.cons (1 : Nat) (AV.sc (Value.int IntKind.i64 (afbba i0))) AV.nil))) ∧
    True ∧
    Sub
    (AV.vec true (3 : Nat) bn bn fun (i0 : Nat) =>
    AV.cons (1 : Nat) (AV.sc (Value.int IntKind.i64 (bfa i0)))
    (AV.cons (1 : Nat) (AV.sc (Value.int IntKind.i64 (bfba i0)))
    (AV.cons (1 : Nat) (AV.sc (Value.int IntKind.i64 (bfbba i0))) AV.nil)))
    (AV.vec true (3 : Nat) bn bn fun (i0 : Nat) =>
    AV.cons (1 : Nat) (AV.sc (Value.int IntKind.i64 (bfa i0)))
    (AV.cons (1 : Nat) (AV.sc (Value.int IntKind.i64 (bfba i0)))
    (AV.cons (1 : Nat) (AV.sc (Value.int IntKind.i64 (bfbba i0))) AV.nil))) ∧
    True ∧ Sub (AV.sc (Value.int IntKind.i64 (0 : Int))) (AV.sc (Value.int IntKind.i64 (0 : Int))) ∧ True) ∧
    True) ∧
    L35_0 an afa afba afbba bn bfa bfba bfbba (0 : Int) res) from
    ⟨trivial, ⟨trivial, ⟨trivial, ⟨trivial, ⟨trivial, ⟨trivial, (And.elim (fun h6 k6 => ⟨(fun x7 => (fun h7 => ⟨trivial, ⟨trivial, ⟨⟨⟨trivial, ⟨Sub.refl _, trivial⟩⟩, trivial⟩, ((fun h11 => ⟨h11, trivial⟩) h7)⟩⟩⟩) (h6 x7)), (fun x7 => (fun h7 => ⟨trivial, ⟨⟨⟨trivial, ⟨Sub.refl _, ⟨trivial, ⟨Sub.refl _, ⟨trivial, ⟨Sub.refl _, trivial⟩⟩⟩⟩⟩⟩, trivial⟩, h7⟩⟩) (k6 x7))⟩) h)⟩⟩⟩⟩⟩⟩)
theorem r35_0 (an : Nat) (afa : Nat → Int) (afba : Nat → Int) (afbba : Nat → Int) (bn : Nat) (bfa : Nat → Int) (bfba : Nat → Int) (bfbba : Nat → Int) (i : Int) (res : AV)
    (h : (decide (i < (↑an : Int)) = true →
    ((0 : Int) ≤ i ∧ i < (↑an : Int)) ∧
    ((0 : Int) ≤ i ∧ i < (↑bn : Int)) ∧
    ((!cdec (afa i.toNat = bfa i.toNat ∧ afba i.toNat = bfba i.toNat ∧ afbba i.toNat = bfbba i.toNat ∧ True)) = true → Sub (AV.sc (Value.bool false)) res) ∧
    ((!cdec (afa i.toNat = bfa i.toNat ∧ afba i.toNat = bfba i.toNat ∧ afbba i.toNat = bfbba i.toNat ∧ True)) = false →
    L35_0 an afa afba afbba bn bfa bfba bfbba (IntKind.i64.wrap (i + (1 : Int))) res)) ∧
  (decide (i < (↑an : Int)) = false → Sub (AV.sc (Value.bool true)) res)) :
    L35_0 an afa afba afbba bn bfa bfba bfbba i res :=
  rule Go.Am.Seat.tabOk 35 [] Go.Proofs.Try.f35 hf35 [1, 1, 0, 1, 0, 0] (s35_0 an afa afba afbba bn bfa bfba bfbba i) (m35_0 an afa afba afbba bn bfa bfba bfbba i) res [] 400
    (((Orc.fin (AV.sc (Value.bool false)) [] []).br
    (Orc.cut (nat_lit 4) (s35_0 an afa afba afbba bn bfa bfba bfbba (IntKind.i64.wrap (i + (1 : Int))))
    (m35_0 an afa afba afbba bn bfa bfba bfbba (IntKind.i64.wrap (i + (1 : Int)))) [])).br
  (Orc.fin (AV.sc (Value.bool true)) [] [])) _ _ (by kernel_rfl) (by kernel_rfl) (show True ∧
  True ∧
    True ∧
    True ∧
    (decide (i < (↑an : Int)) = true →
    True ∧
    True ∧
    ((0 : Int) ≤ i ∧ i < (↑an : Int)) ∧
    True ∧
    True ∧
    True ∧
    ((0 : Int) ≤ i ∧ i < (↑bn : Int)) ∧
    True ∧
    ((True ∧ True) ∧ True ∧ (True ∧ True) ∧ True ∧ (True ∧ True) ∧ True ∧ True) ∧
    ((!cdec (afa i.toNat = bfa i.toNat ∧ afba i.toNat = bfba i.toNat ∧ afbba i.toNat = bfbba i.toNat ∧ True)) = true →
    True ∧
    True ∧
    ((True ∧ Sub (AV.sc (Value.bool false)) (AV.sc (Value.bool false)) ∧ True) ∧ True) ∧
    Sub (AV.sc (Value.bool false)) res ∧ SubOut [] []) ∧
    ((!cdec (afa i.toNat = bfa i.toNat ∧ afba i.toNat = bfba i.toNat ∧ afbba i.toNat = bfbba i.toNat ∧ True)) = false →
    True ∧
    True ∧
    True ∧
    ((True ∧
    Sub
    (AV.vec true (3 : Nat) an an fun (i0 : Nat) =>
    AV.cons (1 : Nat) (AV.sc (Value.int IntKind.i64 (afa i0)))
    (AV.cons (1 : Nat) (AV.sc (Value.int IntKind.i64 (afba i0)))
    (AV.cons (1 : Nat) (AV.sc (Value.int IntKind.i64 (afbba i0))) AV.nil)))
    (AV.vec true (3 : Nat) an an fun (i0 : Nat) =>
    AV.cons (1 : Nat) (AV.sc (Value.int IntKind.i64 (afa i0)))
    (AV.cons (1 : Nat) (AV.sc (Value.int IntKind.i64 (afba i0)))
    (AV.cons (1 : Nat) (AV.sc (Value.int IntKind.i64 (afbba i0))) AV.nil))) ∧
    True ∧
    Sub
    (AV.vec true (3 : Nat) bn bn fun (i0 : Nat) =>
    AV.cons (1 : Nat) (AV.sc (Value.int IntKind.i64 (bfa i0)))
    (AV.cons (1 : Nat) (AV.sc (Value.int IntKind.i64 (bfba i0)))
    (AV.cons (1 : Nat) (AV.sc (Value.int IntKind.i64 (bfbba i0))) AV.nil)))
    (AV.vec true (3 : Nat) bn bn fun (i0 : Nat) =>
    AV.cons (1 : Nat) (AV.sc (Value.int IntKind.i64 (bfa i0)))
    (AV.cons (1 : Nat) (AV.sc (Value.int IntKind.i64 (bfba i0)))
    (AV.cons (1 : Nat) (AV.sc (Value.int IntKind.i64 (bfbba i0))) AV.nil))) ∧
    True ∧
    Sub (AV.sc (Value.int IntKind.i64 (IntKind.i64.wrap (i + (1 : Int)))))
    (AV.sc (Value.int IntKind.i64 (IntKind.i64.wrap (i + (1 : Int))))) ∧
    True) ∧
    True) ∧
    L35_0 an afa afba afbba bn bfa bfba bfbba (IntKind.i64.wrap (i + (1 : Int))) res)) ∧
    (decide (i < (↑an : Int)) = false →
    True ∧ True ∧ ((True ∧ Sub (AV.sc (Value.bool true)) (AV.sc (Value.bool true)) ∧ True) ∧ True) ∧ Sub (AV.sc (Value.bool true)) res ∧ SubOut [] []) from
    ⟨trivial, ⟨trivial, ⟨trivial, ⟨trivial, (And.elim (fun h4 k4 => ⟨(fun x5 => (fun h5 => ⟨trivial, ⟨trivial, (And.elim (fun h8 k8 => ⟨(And.elim (fun h9 k9 => ⟨h9, k9⟩) h8), ⟨trivial, ⟨trivial, ⟨trivial, (And.elim (fun h12 k12 => ⟨(And.elim (fun h13 k13 => ⟨h13, k13⟩) h12), ⟨trivial, ⟨⟨⟨trivial, trivial⟩, ⟨trivial, ⟨⟨trivial, trivial⟩, ⟨trivial, ⟨⟨trivial, trivial⟩, ⟨trivial, trivial⟩⟩⟩⟩⟩⟩, (And.elim (fun h15 k15 => ⟨(fun x16 => (fun h16 => ⟨trivial, ⟨trivial, ⟨⟨⟨trivial, ⟨Sub.refl _, trivial⟩⟩, trivial⟩, ((fun h20 => ⟨h20, trivial⟩) h16)⟩⟩⟩) (h15 x16)), (fun x16 => (fun h16 => ⟨trivial, ⟨trivial, ⟨trivial, ⟨⟨⟨trivial, ⟨Sub.refl _, ⟨trivial, ⟨Sub.refl _, ⟨trivial, ⟨Sub.refl _, trivial⟩⟩⟩⟩⟩⟩, trivial⟩, h16⟩⟩⟩⟩) (k15 x16))⟩) k12)⟩⟩⟩) k8)⟩⟩⟩⟩) h5)⟩⟩) (h4 x5)), (fun x5 => (fun h5 => ⟨trivial, ⟨trivial, ⟨⟨⟨trivial, ⟨Sub.refl _, trivial⟩⟩, trivial⟩, ((fun h9 => ⟨h9, trivial⟩) h5)⟩⟩⟩) (k4 x5))⟩) h)⟩⟩⟩⟩)
theorem hf36 : Go.Proofs.Try.prog.funcs[36]? = some Go.Proofs.Try.f36 := by kernel_rfl
abbrev s36_e (man : Nat) (maf : Nat → Int) (mba : Int) (mbba : Int) (mbbba : Bool) (mbbbba : Int) : List (Nat × AV) := [(0, (.cons 1 (.vec true 1 man man (fun i0 => (.sc (.int .i64 (maf i0))))) (.cons 1 (.sc (.int .i64 mba)) (.cons 1 (.sc (.int .i64 mbba)) (.cons 1 (.sc (.bool mbbba)) (.cons 1 (.sc (.int .i64 mbbbba)) .nil))))))]
abbrev m36_e (man : Nat) (maf : Nat → Int) (mba : Int) (mbba : Int) (mbbba : Bool) (mbbbba : Int) : List (Nat × Nat × AV) := []
def L36_e (man : Nat) (maf : Nat → Int) (mba : Int) (mbba : Int) (mbbba : Bool) (mbbbba : Int) (res : AV) : Prop := Goes ⟨Go.Proofs.Try.prog, 36, [], res, []⟩ (place Go.Proofs.Try.f36 []) (s36_e man maf mba mbba mbbba mbbbba) (m36_e man maf mba mbba mbbba mbbbba)
abbrev s36_0 (out_n : Nat) (b0an : Nat) (b0af : Nat → Int) (b0ba : Int) (b0bba : Int) (b0bbba : Bool) (b0bbbba : Int) (b1n : Nat) (b1fa : Nat → Int) (b1fba : Nat → Int) (b1fbba : Nat → Int) : List (Nat × AV) := [(1, (.pt 1000 [] 0)), (3, (.rf 1001 3 0 out_n))]
abbrev m36_0 (out_n : Nat) (b0an : Nat) (b0af : Nat → Int) (b0ba : Int) (b0bba : Int) (b0bbba : Bool) (b0bbbba : Int) (b1n : Nat) (b1fa : Nat → Int) (b1fba : Nat → Int) (b1fbba : Nat → Int) : List (Nat × Nat × AV) := [(1000, 64, (.cons 1 (.vec true 1 b0an b0an (fun i0 => (.sc (.int .i64 (b0af i0))))) (.cons 1 (.sc (.int .i64 b0ba)) (.cons 1 (.sc (.int .i64 b0bba)) (.cons 1 (.sc (.bool b0bbba)) (.cons 1 (.sc (.int .i64 b0bbbba)) .nil)))))), (1001, 81, (.ar b1n 3 (fun i0 => (.cons 1 (.sc (.int .i64 (b1fa i0))) (.cons 1 (.sc (.int .i64 (b1fba i0))) (.cons 1 (.sc (.int .i64 (b1fbba i0))) .nil))))))]
def L36_0 (out_n : Nat) (b0an : Nat) (b0af : Nat → Int) (b0ba : Int) (b0bba : Int) (b0bbba : Bool) (b0bbbba : Int) (b1n : Nat) (b1fa : Nat → Int) (b1fba : Nat → Int) (b1fbba : Nat → Int) (res : AV) : Prop := Goes ⟨Go.Proofs.Try.prog, 36, [], res, []⟩ (place Go.Proofs.Try.f36 [1, 1, 1, 1]) (s36_0 out_n b0an b0af b0ba b0bba b0bbba b0bbbba b1n b1fa b1fba b1fbba) (m36_0 out_n b0an b0af b0ba b0bba b0bbba b0bbbba b1n b1fa b1fba b1fbba)
theorem o36 (man : Nat) (maf : Nat → Int) (mba : Int) (mbba : Int) (mbbba : Bool) (mbbbba : Int) (res : AV) (hnew : newOnly res) (h : L36_e man maf mba mbba mbbba mbbbba res) : Ok Go.Proofs.Try.prog 36 [(.cons 1 (.vec true 1 man man (fun i0 => (.sc (.int .i64 (maf i0))))) (.cons 1 (.sc (.int .i64 mba)) (.cons 1 (.sc (.int .i64 mbba)) (.cons 1 (.sc (.bool mbbba)) (.cons 1 (.sc (.int .i64 mbbbba)) .nil)))))] [] res [] :=
  okRule2 36 Go.Proofs.Try.f36 hf36 [(.cons 1 (.vec true 1 man man (fun i0 => (.sc (.int .i64 (maf i0))))) (.cons 1 (.sc (.int .i64 mba)) (.cons 1 (.sc (.int .i64 mbba)) (.cons 1 (.sc (.bool mbbba)) (.cons 1 (.sc (.int .i64 mbbbba)) .nil)))))] [] res [] [] rfl (by kernel_rfl) (by kernel_rfl) (by kernel_rfl) ⟨hnew, by simp⟩ (L36_e man maf mba mbba mbbba mbbbba res) (by kernel_rfl) h
theorem r36_e (man : Nat) (maf : Nat → Int) (mba : Int) (mbba : Int) (mbbba : Bool) (mbbbba : Int) (res : AV)
    (h : ∃ (r : Bool),
  Ok Proofs.Try.prog (70 : Nat)
    [AV.cons (1 : Nat) (AV.vec true (1 : Nat) man man fun (i : Nat) => AV.sc (Value.int IntKind.i64 (maf i)))
    (AV.cons (1 : Nat) (AV.sc (Value.int IntKind.i64 mba))
    (AV.cons (1 : Nat) (AV.sc (Value.int IntKind.i64 mbba))
    (AV.cons (1 : Nat) (AV.sc (Value.bool mbbba)) (AV.cons (1 : Nat) (AV.sc (Value.int IntKind.i64 mbbbba)) AV.nil))))]
    [] (AV.sc (Value.bool r)) [] ∧
    ((!r) = true → Sub (AV.sc (Value.slice none (0 : Nat) (0 : Nat))) res) ∧
    ((!r) = false →
    ((!mbbba) = true →
    ((0 : Nat) + (1 : Nat) ≤ (1 : Nat) ∧ (1 : Nat) * (24 : Nat) ≤ (140737488355328 : Nat) ∧ (1 : Nat) ≤ maxLen) ∧
    L36_0 (1 : Nat) man maf mba mbba mbbba mbbbba (1 : Nat) (fun (i : Nat) => (19 : Int)) (fun (i : Nat) => (0 : Int)) (fun (i : Nat) => (0 : Int))
    res) ∧
    ((!mbbba) = false →
    L36_0 (0 : Nat) man maf mba mbba mbbba mbbbba (0 : Nat) (fun (i : Nat) => Int.ofNat (0 : Nat)) (fun (i : Nat) => Int.ofNat (0 : Nat))
    (fun (i : Nat) => Int.ofNat (0 : Nat)) res))) :
    L36_e man maf mba mbba mbbba mbbbba res :=
  rule Go.Am.Seat.tabOk 36 [] Go.Proofs.Try.f36 hf36 [] (s36_e man maf mba mbba mbbba mbbbba) (m36_e man maf mba mbba mbbba mbbbba) res [] 400
    (Orc.call [] [] (fun (r70 : Bool) => AV.sc (Value.bool r70)) (fun (r70 : Bool) => []) fun (r70 : Bool) =>
  (Orc.fin (AV.sc (Value.slice none (0 : Nat) (0 : Nat))) [] []).br
    ((Orc.cut (nat_lit 1)
    (s36_0 (1 : Nat) man maf mba mbba mbbba mbbbba (1 : Nat) (fun (i : Nat) => (19 : Int)) (fun (i : Nat) => (0 : Int)) fun (i : Nat) => (0 : Int))
    (m36_0 (1 : Nat) man maf mba mbba mbbba mbbbba (1 : Nat) (fun (i : Nat) => (19 : Int)) (fun (i : Nat) => (0 : Int)) fun (i : Nat) => (0 : Int))
    [((1000 : Nat), some (1 : Nat)), ((1001 : Nat), some (13 : Nat))]).br
    (Orc.cut (nat_lit 1)
    (s36_0 (0 : Nat) man maf mba mbba mbbba mbbbba (0 : Nat) (fun (i : Nat) => Int.ofNat (0 : Nat)) (fun (i : Nat) => Int.ofNat (0 : Nat)) fun (i : Nat) =>
    Int.ofNat (0 : Nat))
    (m36_0 (0 : Nat) man maf mba mbba mbbba mbbbba (0 : Nat) (fun (i : Nat) => Int.ofNat (0 : Nat)) (fun (i : Nat) => Int.ofNat (0 : Nat)) fun (i : Nat) =>
    Int.ofNat (0 : Nat))
    [((1000 : Nat), some (1 : Nat)), ((1001 : Nat), none)]))) _ _ (by kernel_rfl) (by kernel_rfl) (show True ∧
  True ∧
    ((0 : Nat) = (0 : Nat) ∧ True) ∧
    ∃ (r : Bool),
    (((True ∧ True ∧ True ∧ True ∧ True ∧ True) ∧ True) ∧
    True ∧
    Ok Proofs.Try.prog (70 : Nat)
    [AV.cons (1 : Nat) (AV.vec true (1 : Nat) man man fun (i : Nat) => AV.sc (Value.int IntKind.i64 (maf i)))
    (AV.cons (1 : Nat) (AV.sc (Value.int IntKind.i64 mba))
    (AV.cons (1 : Nat) (AV.sc (Value.int IntKind.i64 mbba))
    (AV.cons (1 : Nat) (AV.sc (Value.bool mbbba)) (AV.cons (1 : Nat) (AV.sc (Value.int IntKind.i64 mbbbba)) AV.nil))))]
    [] (AV.sc (Value.bool r)) []) ∧
    True ∧
    ((!r) = true →
    True ∧
    True ∧
    ((True ∧ Sub (AV.sc (Value.slice none (0 : Nat) (0 : Nat))) (AV.sc (Value.slice none (0 : Nat) (0 : Nat))) ∧ True) ∧ True) ∧
    Sub (AV.sc (Value.slice none (0 : Nat) (0 : Nat))) res ∧ SubOut [] []) ∧
    ((!r) = false →
    True ∧
    True ∧
    ((1 : Nat) + ((1 : Nat) + ((1 : Nat) + (0 : Nat))) = plus (0 : Nat) (3 : Nat) ∧ True) ∧
    True ∧
    ((!mbbba) = true →
    True ∧
    True ∧
    (((True ∧ True ∧ True ∧ True) ∧ True) ∧ True) ∧
    (((0 : Nat) + (1 : Nat) ≤ (1 : Nat) ∧ (3 : Nat) = (3 : Nat)) ∧
    (1 : Nat) * (24 : Nat) ≤ (140737488355328 : Nat) ∧ (1 : Nat) ≤ maxLen) ∧
    True ∧
    ((True ∧
    Sub (AV.pt (1000 : Nat) [] (0 : Nat)) (AV.pt (1000 : Nat) [] (0 : Nat)) ∧
    True ∧
    Sub (AV.rf (1001 : Nat) (3 : Nat) (0 : Nat) (1 : Nat)) (AV.rf (1001 : Nat) (3 : Nat) (0 : Nat) (1 : Nat)) ∧
    True) ∧
    (True ∧ True ∧ True ∧ True ∧ True ∧ True) ∧
    SubB
    (AV.cons (1 : Nat) (AV.vec true (1 : Nat) man man fun (i0 : Nat) => AV.sc (Value.int IntKind.i64 (maf i0)))
    (AV.cons (1 : Nat) (AV.sc (Value.int IntKind.i64 mba))
    (AV.cons (1 : Nat) (AV.sc (Value.int IntKind.i64 mbba))
    (AV.cons (1 : Nat) (AV.sc (Value.bool mbbba))
    (AV.cons (1 : Nat) (AV.sc (Value.int IntKind.i64 mbbbba)) AV.nil)))))
    (AV.cons (1 : Nat) (AV.vec true (1 : Nat) man man fun (i0 : Nat) => AV.sc (Value.int IntKind.i64 (maf i0)))
    (AV.cons (1 : Nat) (AV.sc (Value.int IntKind.i64 mba))
    (AV.cons (1 : Nat) (AV.sc (Value.int IntKind.i64 mbba))
    (AV.cons (1 : Nat) (AV.sc (Value.bool mbbba))
    (AV.cons (1 : Nat) (AV.sc (Value.int IntKind.i64 mbbbba)) AV.nil))))) ∧
    True ∧
    SubB
    (AV.ar (1 : Nat) (3 : Nat) fun (i : Nat) =>
    AV.cons (1 : Nat) (AV.sc (Value.int IntKind.i64 (19 : Int)))
    (AV.cons (1 : Nat) (AV.sc (Value.int IntKind.i64 (0 : Int)))
    (AV.cons (1 : Nat) (AV.sc (Value.int IntKind.i64 (0 : Int))) AV.nil)))
    (AV.ar (1 : Nat) (3 : Nat) fun (i0 : Nat) =>
    AV.cons (1 : Nat) (AV.sc (Value.int IntKind.i64 (19 : Int)))
    (AV.cons (1 : Nat) (AV.sc (Value.int IntKind.i64 (0 : Int)))
    (AV.cons (1 : Nat) (AV.sc (Value.int IntKind.i64 (0 : Int))) AV.nil))) ∧
    True) ∧
    L36_0 (1 : Nat) man maf mba mbba mbbba mbbbba (1 : Nat) (fun (i : Nat) => (19 : Int)) (fun (i : Nat) => (0 : Int))
    (fun (i : Nat) => (0 : Int)) res) ∧
    ((!mbbba) = false →
    ((True ∧ Sub (AV.pt (1000 : Nat) [] (0 : Nat)) (AV.pt (1000 : Nat) [] (0 : Nat)) ∧ True) ∧
    (True ∧ True ∧ True ∧ True ∧ True ∧ True) ∧
    SubB
    (AV.cons (1 : Nat) (AV.vec true (1 : Nat) man man fun (i0 : Nat) => AV.sc (Value.int IntKind.i64 (maf i0)))
    (AV.cons (1 : Nat) (AV.sc (Value.int IntKind.i64 mba))
    (AV.cons (1 : Nat) (AV.sc (Value.int IntKind.i64 mbba))
    (AV.cons (1 : Nat) (AV.sc (Value.bool mbbba)) (AV.cons (1 : Nat) (AV.sc (Value.int IntKind.i64 mbbbba)) AV.nil)))))
    (AV.cons (1 : Nat) (AV.vec true (1 : Nat) man man fun (i0 : Nat) => AV.sc (Value.int IntKind.i64 (maf i0)))
    (AV.cons (1 : Nat) (AV.sc (Value.int IntKind.i64 mba))
    (AV.cons (1 : Nat) (AV.sc (Value.int IntKind.i64 mbba))
    (AV.cons (1 : Nat) (AV.sc (Value.bool mbbba))
    (AV.cons (1 : Nat) (AV.sc (Value.int IntKind.i64 mbbbba)) AV.nil))))) ∧
    True) ∧
    L36_0 (0 : Nat) man maf mba mbba mbbba mbbbba (0 : Nat) (fun (i : Nat) => Int.ofNat (0 : Nat))
    (fun (i : Nat) => Int.ofNat (0 : Nat)) (fun (i : Nat) => Int.ofNat (0 : Nat)) res)) from
    ⟨trivial, ⟨trivial, ⟨⟨rfl, trivial⟩, (Exists.elim h fun x3 h3 => ⟨x3, (And.elim (fun h4 k4 => ⟨⟨⟨⟨trivial, ⟨trivial, ⟨trivial, ⟨trivial, ⟨trivial, trivial⟩⟩⟩⟩⟩, trivial⟩, ⟨trivial, h4⟩⟩, ⟨trivial, (And.elim (fun h6 k6 => ⟨(fun x7 => (fun h7 => ⟨trivial, ⟨trivial, ⟨⟨⟨trivial, ⟨Sub.refl _, trivial⟩⟩, trivial⟩, ((fun h11 => ⟨h11, trivial⟩) h7)⟩⟩⟩) (h6 x7)), (fun x7 => (fun h7 => ⟨trivial, ⟨trivial, ⟨⟨rfl, trivial⟩, ⟨trivial, (And.elim (fun h12 k12 => ⟨(fun x13 => (fun h13 => ⟨trivial, ⟨trivial, ⟨⟨⟨⟨trivial, ⟨trivial, ⟨trivial, trivial⟩⟩⟩, trivial⟩, trivial⟩, (And.elim (fun h17 k17 => ⟨(And.elim (fun h18 k18 => ⟨((fun h19 => ⟨h19, rfl⟩) h18), (And.elim (fun h19 k19 => ⟨h19, k19⟩) k18)⟩) h17), ⟨trivial, ⟨⟨⟨trivial, ⟨Sub.refl _, ⟨trivial, ⟨Sub.refl _, trivial⟩⟩⟩⟩, ⟨⟨trivial, ⟨trivial, ⟨trivial, ⟨trivial, ⟨trivial, trivial⟩⟩⟩⟩⟩, ⟨SubB.refl _, ⟨trivial, ⟨SubB.refl _, trivial⟩⟩⟩⟩⟩, k17⟩⟩⟩) h13)⟩⟩⟩) (h12 x13)), (fun x13 => (fun h13 => ⟨⟨⟨trivial, ⟨Sub.refl _, trivial⟩⟩, ⟨⟨trivial, ⟨trivial, ⟨trivial, ⟨trivial, ⟨trivial, trivial⟩⟩⟩⟩⟩, ⟨SubB.refl _, trivial⟩⟩⟩, h13⟩) (k12 x13))⟩) h7)⟩⟩⟩⟩) (k6 x7))⟩) k4)⟩⟩) h3)⟩)⟩⟩⟩)
theorem r36_0 (out_n : Nat) (b0an : Nat) (b0af : Nat → Int) (b0ba : Int) (b0bba : Int) (b0bbba : Bool) (b0bbbba : Int) (b1n : Nat) (b1fa : Nat → Int) (b1fba : Nat → Int) (b1fbba : Nat → Int) (res : AV)
    (h : ∃ (r : Nat × (Nat → Int) × (Nat → Int) × (Nat → Int)),
  ((0 : Nat) + (1 : Nat) ≤ (1 : Nat) ∧
    Ok Proofs.Try.prog (71 : Nat)
    [AV.vec true (3 : Nat) (1 : Nat) (1 : Nat) fun (i : Nat) =>
    AV.cons (1 : Nat) (AV.sc (Value.int IntKind.i64 (21 : Int)))
    (AV.cons (1 : Nat) (AV.sc (Value.int IntKind.i64 (0 : Int))) (AV.cons (1 : Nat) (AV.sc (Value.int IntKind.i64 (0 : Int))) AV.nil)),
    AV.sc (Value.int IntKind.i64 (IntKind.i64.wrap ((↑b0an : Int) - (1 : Int))))]
    []
    (AV.vec false (3 : Nat) r.fst r.fst fun (i0 : Nat) =>
    AV.cons (1 : Nat) (AV.sc (Value.int IntKind.i64 (r.snd.fst i0)))
    (AV.cons (1 : Nat) (AV.sc (Value.int IntKind.i64 (r.snd.snd.fst i0)))
    (AV.cons (1 : Nat) (AV.sc (Value.int IntKind.i64 (r.snd.snd.snd i0))) AV.nil)))
    []) ∧
    (out_n ≤ b1n ∧ (out_n + r.fst) * (24 : Nat) ≤ (140737488355328 : Nat) ∧ out_n + r.fst ≤ maxLen) ∧
    (out_n + r.fst ≤ out_n + r.fst ∧
    (0 : Nat) + (1 : Nat) ≤ (1 : Nat) ∧ (out_n + r.fst + (1 : Nat)) * (24 : Nat) ≤ (140737488355328 : Nat) ∧ out_n + r.fst + (1 : Nat) ≤ maxLen) ∧
    ((0 : Nat) + (out_n + r.fst + (1 : Nat)) ≤ out_n + r.fst + (1 : Nat) ∧
    Sub
    (AV.vec false (3 : Nat) (out_n + r.fst + (1 : Nat)) (out_n + r.fst + (1 : Nat) - (0 : Nat)) fun (i : Nat) =>
    AV.cons (1 : Nat)
    (AV.sc
    (Value.int IntKind.i64
    (bif (plus (0 : Nat) i).blt (out_n + r.fst) then
    bif (plus (0 : Nat) i).blt out_n then b1fa (plus (0 : Nat) i) else r.snd.fst (plus (0 : Nat) i - out_n)
    else (22 : Int))))
    (AV.cons (1 : Nat)
    (AV.sc
    (Value.int IntKind.i64
    (bif (plus (0 : Nat) i).blt (out_n + r.fst) then
    bif (plus (0 : Nat) i).blt out_n then b1fba (plus (0 : Nat) i) else r.snd.snd.fst (plus (0 : Nat) i - out_n)
    else b0bbbba)))
    (AV.cons (1 : Nat)
    (AV.sc
    (Value.int IntKind.i64
    (bif (plus (0 : Nat) i).blt (out_n + r.fst) then
    bif (plus (0 : Nat) i).blt out_n then b1fbba (plus (0 : Nat) i) else r.snd.snd.snd (plus (0 : Nat) i - out_n)
    else (0 : Int))))
    AV.nil)))
    (AV.vec false (3 : Nat) (out_n + r.fst + (1 : Nat)) (out_n + r.fst + (1 : Nat)) fun (i : Nat) =>
    AV.cons (1 : Nat)
    (AV.sc
    (Value.int IntKind.i64
    (bif (plus (0 : Nat) i).blt (out_n + r.fst) then
    bif (plus (0 : Nat) i).blt out_n then b1fa (plus (0 : Nat) i) else r.snd.fst (plus (0 : Nat) i - out_n)
    else (22 : Int))))
    (AV.cons (1 : Nat)
    (AV.sc
    (Value.int IntKind.i64
    (bif (plus (0 : Nat) i).blt (out_n + r.fst) then
    bif (plus (0 : Nat) i).blt out_n then b1fba (plus (0 : Nat) i) else r.snd.snd.fst (plus (0 : Nat) i - out_n)
    else b0bbbba)))
    (AV.cons (1 : Nat)
    (AV.sc
    (Value.int IntKind.i64
    (bif (plus (0 : Nat) i).blt (out_n + r.fst) then
    bif (plus (0 : Nat) i).blt out_n then b1fbba (plus (0 : Nat) i) else r.snd.snd.snd (plus (0 : Nat) i - out_n)
    else (0 : Int))))
    AV.nil)))) ∧
    Sub
    (AV.vec false (3 : Nat) (out_n + r.fst + (1 : Nat)) (out_n + r.fst + (1 : Nat)) fun (i : Nat) =>
    AV.cons (1 : Nat)
    (AV.sc
    (Value.int IntKind.i64
    (bif (plus (0 : Nat) i).blt (out_n + r.fst) then
    bif (plus (0 : Nat) i).blt out_n then b1fa (plus (0 : Nat) i) else r.snd.fst (plus (0 : Nat) i - out_n)
    else (22 : Int))))
    (AV.cons (1 : Nat)
    (AV.sc
    (Value.int IntKind.i64
    (bif (plus (0 : Nat) i).blt (out_n + r.fst) then
    bif (plus (0 : Nat) i).blt out_n then b1fba (plus (0 : Nat) i) else r.snd.snd.fst (plus (0 : Nat) i - out_n)
    else b0bbbba)))
    (AV.cons (1 : Nat)
    (AV.sc
    (Value.int IntKind.i64
    (bif (plus (0 : Nat) i).blt (out_n + r.fst) then
    bif (plus (0 : Nat) i).blt out_n then b1fbba (plus (0 : Nat) i) else r.snd.snd.snd (plus (0 : Nat) i - out_n)
    else (0 : Int))))
    AV.nil)))
    res) :
    L36_0 out_n b0an b0af b0ba b0bba b0bbba b0bbbba b1n b1fa b1fba b1fbba res :=
  rule Go.Am.Seat.tabOk 36 [] Go.Proofs.Try.f36 hf36 [1, 1, 1, 1] (s36_0 out_n b0an b0af b0ba b0bba b0bbba b0bbbba b1n b1fa b1fba b1fbba) (m36_0 out_n b0an b0af b0ba b0bba b0bbba b0bbbba b1n b1fa b1fba b1fbba) res [] 400
    (Orc.call [] []
  (fun (r71 : Nat × (Nat → Int) × (Nat → Int) × (Nat → Int)) =>
    AV.vec false (3 : Nat) r71.fst r71.fst fun (i0 : Nat) =>
    AV.cons (1 : Nat) (AV.sc (Value.int IntKind.i64 (r71.snd.fst i0)))
    (AV.cons (1 : Nat) (AV.sc (Value.int IntKind.i64 (r71.snd.snd.fst i0)))
    (AV.cons (1 : Nat) (AV.sc (Value.int IntKind.i64 (r71.snd.snd.snd i0))) AV.nil)))
  (fun (r71 : Nat × (Nat → Int) × (Nat → Int) × (Nat → Int)) => []) fun (r71 : Nat × (Nat → Int) × (Nat → Int) × (Nat → Int)) =>
  Orc.fin
    (AV.vec false (3 : Nat) (out_n + r71.fst + (1 : Nat)) (out_n + r71.fst + (1 : Nat)) fun (i : Nat) =>
    AV.cons (1 : Nat)
    (AV.sc
    (Value.int IntKind.i64
    (bif (plus (0 : Nat) i).blt (out_n + r71.fst) then
    bif (plus (0 : Nat) i).blt out_n then b1fa (plus (0 : Nat) i) else r71.snd.fst (plus (0 : Nat) i - out_n)
    else (22 : Int))))
    (AV.cons (1 : Nat)
    (AV.sc
    (Value.int IntKind.i64
    (bif (plus (0 : Nat) i).blt (out_n + r71.fst) then
    bif (plus (0 : Nat) i).blt out_n then b1fba (plus (0 : Nat) i) else r71.snd.snd.fst (plus (0 : Nat) i - out_n)
    else b0bbbba)))
    (AV.cons (1 : Nat)
    (AV.sc
    (Value.int IntKind.i64
    (bif (plus (0 : Nat) i).blt (out_n + r71.fst) then
    bif (plus (0 : Nat) i).blt out_n then b1fbba (plus (0 : Nat) i) else r71.snd.snd.snd (plus (0 : Nat) i - out_n)
    else (0 : Int))))
    AV.nil)))
    [] []) _ _ (by kernel_rfl) (by kernel_rfl) (show True ∧
  True ∧
    (((True ∧ True ∧ True ∧ True) ∧ True) ∧ True) ∧
    True ∧
    ((0 : Nat) = plus (0 : Nat) (0 : Nat) ∧ True) ∧
    True ∧
    True ∧
    ∃ (r : Nat × (Nat → Int) × (Nat → Int) × (Nat → Int)),
    (((0 : Nat) + (1 : Nat) ≤ (1 : Nat) ∧ True ∧ True) ∧
    True ∧
    Ok Proofs.Try.prog (71 : Nat)
    [AV.vec true (3 : Nat) (1 : Nat) (1 : Nat) fun (i : Nat) =>
    AV.cons (1 : Nat) (AV.sc (Value.int IntKind.i64 (21 : Int)))
    (AV.cons (1 : Nat) (AV.sc (Value.int IntKind.i64 (0 : Int)))
    (AV.cons (1 : Nat) (AV.sc (Value.int IntKind.i64 (0 : Int))) AV.nil)),
    AV.sc (Value.int IntKind.i64 (IntKind.i64.wrap ((↑b0an : Int) - (1 : Int))))]
    []
    (AV.vec false (3 : Nat) r.fst r.fst fun (i0 : Nat) =>
    AV.cons (1 : Nat) (AV.sc (Value.int IntKind.i64 (r.snd.fst i0)))
    (AV.cons (1 : Nat) (AV.sc (Value.int IntKind.i64 (r.snd.snd.fst i0)))
    (AV.cons (1 : Nat) (AV.sc (Value.int IntKind.i64 (r.snd.snd.snd i0))) AV.nil)))
    []) ∧
    (out_n ≤ b1n ∧ True ∧ (out_n + r.fst) * (24 : Nat) ≤ (140737488355328 : Nat) ∧ out_n + r.fst ≤ maxLen) ∧
    True ∧
    True ∧
    True ∧
    ((1 : Nat) + ((1 : Nat) + ((1 : Nat) + ((1 : Nat) + (0 : Nat)))) = plus (0 : Nat) (4 : Nat) ∧ True) ∧
    True ∧
    (((True ∧ True ∧ True ∧ True) ∧ True) ∧ True) ∧
    (out_n + r.fst ≤ out_n + r.fst ∧
    ((0 : Nat) + (1 : Nat) ≤ (1 : Nat) ∧ (3 : Nat) = (3 : Nat)) ∧
    (out_n + r.fst + (1 : Nat)) * (24 : Nat) ≤ (140737488355328 : Nat) ∧ out_n + r.fst + (1 : Nat) ≤ maxLen) ∧
    True ∧
    True ∧
    (((0 : Nat) + (out_n + r.fst + (1 : Nat)) ≤ out_n + r.fst + (1 : Nat) ∧
    Sub
    (AV.vec false (3 : Nat) (out_n + r.fst + (1 : Nat)) (out_n + r.fst + (1 : Nat) - (0 : Nat)) fun (i : Nat) =>
    AV.cons (1 : Nat)
    (AV.sc
    (Value.int IntKind.i64
    (bif (plus (0 : Nat) i).blt (out_n + r.fst) then
    bif (plus (0 : Nat) i).blt out_n then b1fa (plus (0 : Nat) i)
    else r.snd.fst (plus (0 : Nat) i - out_n)
    else (22 : Int))))
    (AV.cons (1 : Nat)
    (AV.sc
    (Value.int IntKind.i64
    (bif (plus (0 : Nat) i).blt (out_n + r.fst) then
    bif (plus (0 : Nat) i).blt out_n then b1fba (plus (0 : Nat) i)
    else r.snd.snd.fst (plus (0 : Nat) i - out_n)
    else b0bbbba)))
    (AV.cons (1 : Nat)
    (AV.sc
    (Value.int IntKind.i64
    (bif (plus (0 : Nat) i).blt (out_n + r.fst) then
    bif (plus (0 : Nat) i).blt out_n then b1fbba (plus (0 : Nat) i)
    else r.snd.snd.snd (plus (0 : Nat) i - out_n)
    else (0 : Int))))
    AV.nil)))
    (AV.vec false (3 : Nat) (out_n + r.fst + (1 : Nat)) (out_n + r.fst + (1 : Nat)) fun (i : Nat) =>
    AV.cons (1 : Nat)
    (AV.sc
    (Value.int IntKind.i64
    (bif (plus (0 : Nat) i).blt (out_n + r.fst) then
    bif (plus (0 : Nat) i).blt out_n then b1fa (plus (0 : Nat) i)
    else r.snd.fst (plus (0 : Nat) i - out_n)
    else (22 : Int))))
    (AV.cons (1 : Nat)
    (AV.sc
    (Value.int IntKind.i64
    (bif (plus (0 : Nat) i).blt (out_n + r.fst) then
    bif (plus (0 : Nat) i).blt out_n then b1fba (plus (0 : Nat) i)
    else r.snd.snd.fst (plus (0 : Nat) i - out_n)
    else b0bbbba)))
    (AV.cons (1 : Nat)
    (AV.sc
    (Value.int IntKind.i64
    (bif (plus (0 : Nat) i).blt (out_n + r.fst) then
    bif (plus (0 : Nat) i).blt out_n then b1fbba (plus (0 : Nat) i)
    else r.snd.snd.snd (plus (0 : Nat) i - out_n)
    else (0 : Int))))
    AV.nil))) ∧
    True) ∧
    True) ∧
    Sub
    (AV.vec false (3 : Nat) (out_n + r.fst + (1 : Nat)) (out_n + r.fst + (1 : Nat)) fun (i : Nat) =>
    AV.cons (1 : Nat)
    (AV.sc
    (Value.int IntKind.i64
    (bif (plus (0 : Nat) i).blt (out_n + r.fst) then
    bif (plus (0 : Nat) i).blt out_n then b1fa (plus (0 : Nat) i) else r.snd.fst (plus (0 : Nat) i - out_n)
    else (22 : Int))))
    (AV.cons (1 : Nat)
    (AV.sc
    (Value.int IntKind.i64
    (bif (plus (0 : Nat) i).blt (out_n + r.fst) then
    bif (plus (0 : Nat) i).blt out_n then b1fba (plus (0 : Nat) i)
    else r.snd.snd.fst (plus (0 : Nat) i - out_n)
    else b0bbbba)))
    (AV.cons (1 : Nat)
    (AV.sc
    (Value.int IntKind.i64
    (bif (plus (0 : Nat) i).blt (out_n + r.fst) then
    bif (plus (0 : Nat) i).blt out_n then b1fbba (plus (0 : Nat) i)
    else r.snd.snd.snd (plus (0 : Nat) i - out_n)
    else (0 : Int))))
    AV.nil)))
    res ∧
    SubOut [] [] from
    ⟨trivial, ⟨trivial, ⟨⟨⟨⟨trivial, ⟨trivial, ⟨trivial, trivial⟩⟩⟩, trivial⟩, trivial⟩, ⟨trivial, ⟨⟨rfl, trivial⟩, ⟨trivial, ⟨trivial, (Exists.elim h fun x7 h7 => ⟨x7, (And.elim (fun h8 k8 => ⟨(And.elim (fun h9 k9 => ⟨((fun h10 => ⟨h10, ⟨trivial, trivial⟩⟩) h9), ⟨trivial, k9⟩⟩) h8), (And.elim (fun h9 k9 => ⟨(And.elim (fun h10 k10 => ⟨h10, ⟨trivial, (And.elim (fun h12 k12 => ⟨h12, k12⟩) k10)⟩⟩) h9), ⟨trivial, ⟨trivial, ⟨trivial, ⟨⟨rfl, trivial⟩, ⟨trivial, ⟨⟨⟨⟨trivial, ⟨trivial, ⟨trivial, trivial⟩⟩⟩, trivial⟩, trivial⟩, (And.elim (fun h16 k16 => ⟨(And.elim (fun h17 k17 => ⟨h17, (And.elim (fun h18 k18 => ⟨((fun h19 => ⟨h19, rfl⟩) h18), (And.elim (fun h19 k19 => ⟨h19, k19⟩) k18)⟩) k17)⟩) h16), ⟨trivial, ⟨trivial, (And.elim (fun h19 k19 => ⟨((fun h20 => ⟨(And.elim (fun h21 k21 => ⟨h21, ((fun h22 => ⟨h22, trivial⟩) k21)⟩) h20), trivial⟩) h19), ((fun h20 => ⟨h20, trivial⟩) k19)⟩) k16)⟩⟩⟩) k9)⟩⟩⟩⟩⟩⟩⟩) k8)⟩) h7)⟩)⟩⟩⟩⟩⟩⟩⟩)
theorem hf39 : Go.Proofs.Try.prog.funcs[39]? = some Go.Proofs.Try.f39 := by kernel_rfl
abbrev s39_e : List (Nat × AV) := []
abbrev m39_e : List (Nat × Nat × AV) := []
def L39_e (res : AV) : Prop := Goes ⟨Go.Proofs.Try.prog, 39, [], res, []⟩ (place Go.Proofs.Try.f39 []) (s39_e ) (m39_e )
theorem o39 (res : AV) (hnew : newOnly res) (h : L39_e  res) : Ok Go.Proofs.Try.prog 39 [] [] res [] :=
  okRule2 39 Go.Proofs.Try.f39 hf39 [] [] res [] [] rfl (by kernel_rfl) (by kernel_rfl) (by kernel_rfl) ⟨hnew, by simp⟩ (L39_e  res) (by kernel_rfl) h
theorem r39_e (res : AV)
    (h : ∃ (r :
  Nat ×
    (Nat → Int) ×
    (Nat → Int) ×
    (Nat → Int) ×
    Nat ×
    (Nat → Nat) ×
    (Nat → Nat → Int) ×
    (Nat → Int) × (Nat → Int) × (Nat → Bool) × (Nat → Int) × Nat × (Nat → Int) × Nat × (Nat → Int) × (Nat → Int) × (Nat → Int) × Int),
  ((0 : Nat) + (5 : Nat) ≤ (5 : Nat) ∧
    Ok Proofs.Try.prog (41 : Nat)
    [AV.sc
    (Value.string
    (ByteArray.mk #[(32 : UInt8), (32 : UInt8), (32 : UInt8), (32 : UInt8), (97 : UInt8), (10 : UInt8), (32 : UInt8), (32 : UInt8), (98 : UInt8)])),
    AV.vec true (3 : Nat) (5 : Nat) (5 : Nat) fun (i : Nat) =>
    AV.cons (1 : Nat)
    (AV.sc
    (Value.int IntKind.i64
    (bif (plus (0 : Nat) i).beq (4 : Nat) then (0 : Int)
    else
    bif (plus (0 : Nat) i).beq (3 : Nat) then (25 : Int)
    else
    bif (plus (0 : Nat) i).beq (2 : Nat) then (19 : Int)
    else bif (plus (0 : Nat) i).beq (1 : Nat) then (0 : Int) else bif (plus (0 : Nat) i).beq (0 : Nat) then (25 : Int) else (0 : Int))))
    (AV.cons (1 : Nat)
    (AV.sc
    (Value.int IntKind.i64
    (bif (plus (0 : Nat) i).beq (4 : Nat) then (1 : Int)
    else
    bif (plus (0 : Nat) i).beq (3 : Nat) then (2 : Int)
    else
    bif (plus (0 : Nat) i).beq (2 : Nat) then (1 : Int)
    else bif (plus (0 : Nat) i).beq (1 : Nat) then (1 : Int) else bif (plus (0 : Nat) i).beq (0 : Nat) then (4 : Int) else (0 : Int))))
    (AV.cons (1 : Nat)
    (AV.sc
    (Value.int IntKind.i64
    (bif (plus (0 : Nat) i).beq (4 : Nat) then (0 : Int)
    else
    bif (plus (0 : Nat) i).beq (3 : Nat) then (0 : Int)
    else
    bif (plus (0 : Nat) i).beq (2 : Nat) then (0 : Int)
    else bif (plus (0 : Nat) i).beq (1 : Nat) then (0 : Int) else bif (plus (0 : Nat) i).beq (0 : Nat) then (0 : Int) else (0 : Int))))
    AV.nil))]
    []
    (AV.cons (1 : Nat)
    (AV.cons (1 : Nat)
    (AV.vec false (3 : Nat) r.fst r.fst fun (i0 : Nat) =>
    AV.cons (1 : Nat) (AV.sc (Value.int IntKind.i64 (r.snd.fst i0)))
    (AV.cons (1 : Nat) (AV.sc (Value.int IntKind.i64 (r.snd.snd.fst i0)))
    (AV.cons (1 : Nat) (AV.sc (Value.int IntKind.i64 (r.snd.snd.snd.fst i0))) AV.nil)))
    (AV.cons (1 : Nat)
    (AV.vec false (5 : Nat) r.snd.snd.snd.snd.fst r.snd.snd.snd.snd.fst fun (i0 : Nat) =>
    AV.cons (1 : Nat)
    (AV.vec false (1 : Nat) (r.snd.snd.snd.snd.snd.fst i0) (r.snd.snd.snd.snd.snd.fst i0) fun (i1 : Nat) =>
    AV.sc (Value.int IntKind.i64 (r.snd.snd.snd.snd.snd.snd.fst i0 i1)))
    (AV.cons (1 : Nat) (AV.sc (Value.int IntKind.i64 (r.snd.snd.snd.snd.snd.snd.snd.fst i0)))
    (AV.cons (1 : Nat) (AV.sc (Value.int IntKind.i64 (r.snd.snd.snd.snd.snd.snd.snd.snd.fst i0)))
    (AV.cons (1 : Nat) (AV.sc (Value.bool (r.snd.snd.snd.snd.snd.snd.snd.snd.snd.fst i0)))
    (AV.cons (1 : Nat) (AV.sc (Value.int IntKind.i64 (r.snd.snd.snd.snd.snd.snd.snd.snd.snd.snd.fst i0))) AV.nil)))))
    (AV.cons (1 : Nat)
    (AV.vec false (1 : Nat) r.snd.snd.snd.snd.snd.snd.snd.snd.snd.snd.snd.fst r.snd.snd.snd.snd.snd.snd.snd.snd.snd.snd.snd.fst fun (i0 : Nat) =>
    AV.sc (Value.int IntKind.i64 (r.snd.snd.snd.snd.snd.snd.snd.snd.snd.snd.snd.snd.fst i0)))
    (AV.cons (1 : Nat)
    (AV.vec false (3 : Nat) r.snd.snd.snd.snd.snd.snd.snd.snd.snd.snd.snd.snd.snd.fst r.snd.snd.snd.snd.snd.snd.snd.snd.snd.snd.snd.snd.snd.fst
    fun (i0 : Nat) =>
    AV.cons (1 : Nat) (AV.sc (Value.int IntKind.i64 (r.snd.snd.snd.snd.snd.snd.snd.snd.snd.snd.snd.snd.snd.snd.fst i0)))
    (AV.cons (1 : Nat) (AV.sc (Value.int IntKind.i64 (r.snd.snd.snd.snd.snd.snd.snd.snd.snd.snd.snd.snd.snd.snd.snd.fst i0)))
    (AV.cons (1 : Nat) (AV.sc (Value.int IntKind.i64 (r.snd.snd.snd.snd.snd.snd.snd.snd.snd.snd.snd.snd.snd.snd.snd.snd.fst i0)))
    AV.nil)))
    AV.nil))))
    (AV.cons (1 : Nat) (AV.sc (Value.int IntKind.i64 r.snd.snd.snd.snd.snd.snd.snd.snd.snd.snd.snd.snd.snd.snd.snd.snd.snd)) AV.nil)).tup
    []) ∧
    ((r.snd.snd.snd.snd.snd.snd.snd.snd.snd.snd.snd.snd.snd.snd.snd.snd.snd == (0 : Int)) = true →
    ∃ (r_1 : Bool),
    ((0 : Nat) + (8 : Nat) ≤ (8 : Nat) ∧
    Ok Proofs.Try.prog (35 : Nat)
    [AV.vec true (3 : Nat) r.snd.snd.snd.snd.snd.snd.snd.snd.snd.snd.snd.snd.snd.fst r.snd.snd.snd.snd.snd.snd.snd.snd.snd.snd.snd.snd.snd.fst
    fun (i : Nat) =>
    AV.cons (1 : Nat) (AV.sc (Value.int IntKind.i64 (r.snd.snd.snd.snd.snd.snd.snd.snd.snd.snd.snd.snd.snd.snd.fst i)))
    (AV.cons (1 : Nat) (AV.sc (Value.int IntKind.i64 (r.snd.snd.snd.snd.snd.snd.snd.snd.snd.snd.snd.snd.snd.snd.snd.fst i)))
    (AV.cons (1 : Nat) (AV.sc (Value.int IntKind.i64 (r.snd.snd.snd.snd.snd.snd.snd.snd.snd.snd.snd.snd.snd.snd.snd.snd.fst i))) AV.nil)),
    AV.vec true (3 : Nat) (8 : Nat) (8 : Nat) fun (i : Nat) =>
    AV.cons (1 : Nat)
    (AV.sc
    (Value.int IntKind.i64
    (bif (plus (0 : Nat) i).beq (7 : Nat) then (22 : Int)
    else
    bif (plus (0 : Nat) i).beq (6 : Nat) then (19 : Int)
    else
    bif (plus (0 : Nat) i).beq (5 : Nat) then (0 : Int)
    else
    bif (plus (0 : Nat) i).beq (4 : Nat) then (23 : Int)
    else
    bif (plus (0 : Nat) i).beq (3 : Nat) then (21 : Int)
    else
    bif (plus (0 : Nat) i).beq (2 : Nat) then (19 : Int)
    else
    bif (plus (0 : Nat) i).beq (1 : Nat) then (0 : Int)
    else bif (plus (0 : Nat) i).beq (0 : Nat) then (20 : Int) else (0 : Int))))
    (AV.cons (1 : Nat)
    (AV.sc
    (Value.int IntKind.i64
    (bif (plus (0 : Nat) i).beq (7 : Nat) then (0 : Int)
    else
    bif (plus (0 : Nat) i).beq (6 : Nat) then (0 : Int)
    else
    bif (plus (0 : Nat) i).beq (5 : Nat) then (0 : Int)
    else
    bif (plus (0 : Nat) i).beq (4 : Nat) then (0 : Int)
    else
    bif (plus (0 : Nat) i).beq (3 : Nat) then (2 : Int)
    else
    bif (plus (0 : Nat) i).beq (2 : Nat) then (0 : Int)
    else
    bif (plus (0 : Nat) i).beq (1 : Nat) then (0 : Int)
    else bif (plus (0 : Nat) i).beq (0 : Nat) then (4 : Int) else (0 : Int))))
    (AV.cons (1 : Nat)
    (AV.sc
    (Value.int IntKind.i64
    (bif (plus (0 : Nat) i).beq (7 : Nat) then (0 : Int)
    else
    bif (plus (0 : Nat) i).beq (6 : Nat) then (0 : Int)
    else
    bif (plus (0 : Nat) i).beq (5 : Nat) then (1 : Int)
    else
    bif (plus (0 : Nat) i).beq (4 : Nat) then (0 : Int)
    else
    bif (plus (0 : Nat) i).beq (3 : Nat) then (0 : Int)
    else
    bif (plus (0 : Nat) i).beq (2 : Nat) then (1 : Int)
    else
    bif (plus (0 : Nat) i).beq (1 : Nat) then (1 : Int)
    else bif (plus (0 : Nat) i).beq (0 : Nat) then (0 : Int) else (0 : Int))))
    AV.nil))]
    [] (AV.sc (Value.bool r_1)) []) ∧
    (r_1 = true →
    ∃ (r : Nat × Int × Int × Bool × Int × Nat × (Nat → Int)),
    Ok Proofs.Try.prog (31 : Nat) [] []
    (AV.cons (1 : Nat) (AV.rf (1000 : Nat) (1 : Nat) (0 : Nat) r.fst)
    (AV.cons (1 : Nat) (AV.sc (Value.int IntKind.i64 r.snd.fst))
    (AV.cons (1 : Nat) (AV.sc (Value.int IntKind.i64 r.snd.snd.fst))
    (AV.cons (1 : Nat) (AV.sc (Value.bool r.snd.snd.snd.fst))
    (AV.cons (1 : Nat) (AV.sc (Value.int IntKind.i64 r.snd.snd.snd.snd.fst)) AV.nil)))))
    [((1000 : Nat), (3 : Nat),
    AV.ar r.snd.snd.snd.snd.snd.fst (1 : Nat) fun (i0 : Nat) => AV.sc (Value.int IntKind.i64 (r.snd.snd.snd.snd.snd.snd i0)))] ∧
    ∃ (r_2 : Bool),
    (((0 : Nat) + r.fst ≤ r.snd.snd.snd.snd.snd.fst ∧ (0 : Nat) + (1 : Nat) ≤ (1 : Nat)) ∧
    Ok Proofs.Try.prog (32 : Nat)
    [AV.cons (1 : Nat)
    (AV.vec true (1 : Nat) r.fst (r.snd.snd.snd.snd.snd.fst - (0 : Nat)) fun (i : Nat) =>
    AV.sc (Value.int IntKind.i64 (r.snd.snd.snd.snd.snd.snd (plus (0 : Nat) i))))
    (AV.cons (1 : Nat) (AV.sc (Value.int IntKind.i64 r.snd.fst))
    (AV.cons (1 : Nat) (AV.sc (Value.int IntKind.i64 r.snd.snd.fst))
    (AV.cons (1 : Nat) (AV.sc (Value.bool r.snd.snd.snd.fst))
    (AV.cons (1 : Nat) (AV.sc (Value.int IntKind.i64 r.snd.snd.snd.snd.fst)) AV.nil)))),
    AV.cons (1 : Nat) (AV.vec true (1 : Nat) (1 : Nat) (1 : Nat) fun (i : Nat) => AV.sc (Value.int IntKind.i64 (0 : Int)))
    (AV.cons (1 : Nat) (AV.sc (Value.int IntKind.i64 (0 : Int)))
    (AV.cons (1 : Nat) (AV.sc (Value.int IntKind.i64 (0 : Int)))
    (AV.cons (1 : Nat) (AV.sc (Value.bool true)) (AV.cons (1 : Nat) (AV.sc (Value.int IntKind.i64 (0 : Int))) AV.nil))))]
    [] (AV.sc (Value.bool r_2)) []) ∧
    Sub (AV.sc (Value.bool r_2)) res) ∧
    (r_1 = !true → Sub (AV.sc (Value.bool false)) res)) ∧
    ((r.snd.snd.snd.snd.snd.snd.snd.snd.snd.snd.snd.snd.snd.snd.snd.snd.snd == (0 : Int)) = !true → Sub (AV.sc (Value.bool false)) res)) :
    L39_e  res :=
  rule Go.Am.Seat.tabOk 39 [] Go.Proofs.Try.f39 hf39 [] (s39_e ) (m39_e ) res [] 400
    (Orc.call [] []
  (fun
    (r41 :
    Nat ×
    (Nat → Int) ×
    (Nat → Int) ×
    (Nat → Int) ×
    Nat ×
    (Nat → Nat) ×
    (Nat → Nat → Int) ×
    (Nat → Int) × (Nat → Int) × (Nat → Bool) × (Nat → Int) × Nat × (Nat → Int) × Nat × (Nat → Int) × (Nat → Int) × (Nat → Int) × Int) =>
    (AV.cons (1 : Nat)
    (AV.cons (1 : Nat)
    (AV.vec false (3 : Nat) r41.fst r41.fst fun (i0 : Nat) =>
    AV.cons (1 : Nat) (AV.sc (Value.int IntKind.i64 (r41.snd.fst i0)))
    (AV.cons (1 : Nat) (AV.sc (Value.int IntKind.i64 (r41.snd.snd.fst i0)))
    (AV.cons (1 : Nat) (AV.sc (Value.int IntKind.i64 (r41.snd.snd.snd.fst i0))) AV.nil)))
    (AV.cons (1 : Nat)
    (AV.vec false (5 : Nat) r41.snd.snd.snd.snd.fst r41.snd.snd.snd.snd.fst fun (i0 : Nat) =>
    AV.cons (1 : Nat)
    (AV.vec false (1 : Nat) (r41.snd.snd.snd.snd.snd.fst i0) (r41.snd.snd.snd.snd.snd.fst i0) fun (i1 : Nat) =>
    AV.sc (Value.int IntKind.i64 (r41.snd.snd.snd.snd.snd.snd.fst i0 i1)))
    (AV.cons (1 : Nat) (AV.sc (Value.int IntKind.i64 (r41.snd.snd.snd.snd.snd.snd.snd.fst i0)))
    (AV.cons (1 : Nat) (AV.sc (Value.int IntKind.i64 (r41.snd.snd.snd.snd.snd.snd.snd.snd.fst i0)))
    (AV.cons (1 : Nat) (AV.sc (Value.bool (r41.snd.snd.snd.snd.snd.snd.snd.snd.snd.fst i0)))
    (AV.cons (1 : Nat) (AV.sc (Value.int IntKind.i64 (r41.snd.snd.snd.snd.snd.snd.snd.snd.snd.snd.fst i0))) AV.nil)))))
    (AV.cons (1 : Nat)
    (AV.vec false (1 : Nat) r41.snd.snd.snd.snd.snd.snd.snd.snd.snd.snd.snd.fst r41.snd.snd.snd.snd.snd.snd.snd.snd.snd.snd.snd.fst fun (i0 : Nat) =>
    AV.sc (Value.int IntKind.i64 (r41.snd.snd.snd.snd.snd.snd.snd.snd.snd.snd.snd.snd.fst i0)))
    (AV.cons (1 : Nat)
    (AV.vec false (3 : Nat) r41.snd.snd.snd.snd.snd.snd.snd.snd.snd.snd.snd.snd.snd.fst r41.snd.snd.snd.snd.snd.snd.snd.snd.snd.snd.snd.snd.snd.fst
    fun (i0 : Nat) =>
    AV.cons (1 : Nat) (AV.sc (Value.int IntKind.i64 (r41.snd.snd.snd.snd.snd.snd.snd.snd.snd.snd.snd.snd.snd.snd.fst i0)))
    (AV.cons (1 : Nat) (AV.sc (Value.int IntKind.i64 (r41.snd.snd.snd.snd.snd.snd.snd.snd.snd.snd.snd.snd.snd.snd.snd.fst i0)))
    (AV.cons (1 : Nat) (AV.sc (Value.int IntKind.i64 (r41.snd.snd.snd.snd.snd.snd.snd.snd.snd.snd.snd.snd.snd.snd.snd.snd.fst i0))) AV.nil)))
    AV.nil))))
    (AV.cons (1 : Nat) (AV.sc (Value.int IntKind.i64 r41.snd.snd.snd.snd.snd.snd.snd.snd.snd.snd.snd.snd.snd.snd.snd.snd.snd)) AV.nil)).tup)
  (fun
    (r41 :
    Nat ×
    (Nat → Int) ×
    (Nat → Int) ×
    (Nat → Int) ×
    Nat ×
    (Nat → Nat) ×
    (Nat → Nat → Int) ×
    (Nat → Int) × (Nat → Int) × (Nat → Bool) × (Nat → Int) × Nat × (Nat → Int) × Nat × (Nat → Int) × (Nat → Int) × (Nat → Int) × Int) =>
    [])
  fun
    (r41 :
    Nat ×
    (Nat → Int) ×
    (Nat → Int) ×
    (Nat → Int) ×
    Nat ×
    (Nat → Nat) ×
    (Nat → Nat → Int) ×
    (Nat → Int) × (Nat → Int) × (Nat → Bool) × (Nat → Int) × Nat × (Nat → Int) × Nat × (Nat → Int) × (Nat → Int) × (Nat → Int) × Int) =>
  (Orc.call [] [] (fun (r35 : Bool) => AV.sc (Value.bool r35)) (fun (r35 : Bool) => []) fun (r35 : Bool) =>
    (Orc.call [] [((100340 : Nat), (1000 : Nat))]
    (fun (r31 : Nat × Int × Int × Bool × Int × Nat × (Nat → Int)) =>
    AV.cons (1 : Nat) (AV.rf (1000 : Nat) (1 : Nat) (0 : Nat) r31.fst)
    (AV.cons (1 : Nat) (AV.sc (Value.int IntKind.i64 r31.snd.fst))
    (AV.cons (1 : Nat) (AV.sc (Value.int IntKind.i64 r31.snd.snd.fst))
    (AV.cons (1 : Nat) (AV.sc (Value.bool r31.snd.snd.snd.fst))
    (AV.cons (1 : Nat) (AV.sc (Value.int IntKind.i64 r31.snd.snd.snd.snd.fst)) AV.nil)))))
    (fun (r31 : Nat × Int × Int × Bool × Int × Nat × (Nat → Int)) =>
    [((1000 : Nat), (3 : Nat),
    AV.ar r31.snd.snd.snd.snd.snd.fst (1 : Nat) fun (i0 : Nat) => AV.sc (Value.int IntKind.i64 (r31.snd.snd.snd.snd.snd.snd i0)))])
    fun (r31 : Nat × Int × Int × Bool × Int × Nat × (Nat → Int)) =>
    (Orc.call [] [] (fun (r32 : Bool) => AV.sc (Value.bool r32)) (fun (r32 : Bool) => []) fun (r32 : Bool) =>
    Orc.fin (AV.sc (Value.bool (bif true then r32 else false))) [] []).yes.yes.yes).br
    (Orc.fin (AV.sc (Value.bool false)) [] []).no.no.no).yes.yes.yes.br
    (Orc.fin (AV.sc (Value.bool false)) [] []).no.no.no.no.no.no.no) _ _ (by kernel_rfl) (by kernel_rfl) (show True ∧
  True ∧
    True ∧
    True ∧
    True ∧
    True ∧
    (((True ∧ True ∧ True ∧ True) ∧
    (True ∧ True ∧ True ∧ True) ∧ (True ∧ True ∧ True ∧ True) ∧ (True ∧ True ∧ True ∧ True) ∧ (True ∧ True ∧ True ∧ True) ∧ True) ∧
    True) ∧
    True ∧
    True ∧
    ∃ (r :
    Nat ×
    (Nat → Int) ×
    (Nat → Int) ×
    (Nat → Int) ×
    Nat ×
    (Nat → Nat) ×
    (Nat → Nat → Int) ×
    (Nat → Int) ×
    (Nat → Int) × (Nat → Bool) × (Nat → Int) × Nat × (Nat → Int) × Nat × (Nat → Int) × (Nat → Int) × (Nat → Int) × Int),
    ((True ∧ (0 : Nat) + (5 : Nat) ≤ (5 : Nat) ∧ True) ∧
    True ∧
    Ok Proofs.Try.prog (41 : Nat)
    [AV.sc
    (Value.string
    (ByteArray.mk
    #[(32 : UInt8), (32 : UInt8), (32 : UInt8), (32 : UInt8), (97 : UInt8), (10 : UInt8), (32 : UInt8), (32 : UInt8),
    (98 : UInt8)])),
    AV.vec true (3 : Nat) (5 : Nat) (5 : Nat) fun (i : Nat) =>
    AV.cons (1 : Nat)
    (AV.sc
    (Value.int IntKind.i64
    (bif (plus (0 : Nat) i).beq (4 : Nat) then (0 : Int)
    else
    bif (plus (0 : Nat) i).beq (3 : Nat) then (25 : Int)
    else
    bif (plus (0 : Nat) i).beq (2 : Nat) then (19 : Int)
    else
    bif (plus (0 : Nat) i).beq (1 : Nat) then (0 : Int)
    else bif (plus (0 : Nat) i).beq (0 : Nat) then (25 : Int) else (0 : Int))))
    (AV.cons (1 : Nat)
    (AV.sc
    (Value.int IntKind.i64
    (bif (plus (0 : Nat) i).beq (4 : Nat) then (1 : Int)
    else
    bif (plus (0 : Nat) i).beq (3 : Nat) then (2 : Int)
    else
    bif (plus (0 : Nat) i).beq (2 : Nat) then (1 : Int)
    else
    bif (plus (0 : Nat) i).beq (1 : Nat) then (1 : Int)
    else bif (plus (0 : Nat) i).beq (0 : Nat) then (4 : Int) else (0 : Int))))
    (AV.cons (1 : Nat)
    (AV.sc
    (Value.int IntKind.i64
    (bif (plus (0 : Nat) i).beq (4 : Nat) then (0 : Int)
    else
    bif (plus (0 : Nat) i).beq (3 : Nat) then (0 : Int)
    else
    bif (plus (0 : Nat) i).beq (2 : Nat) then (0 : Int)
    else
    bif (plus (0 : Nat) i).beq (1 : Nat) then (0 : Int)
    else bif (plus (0 : Nat) i).beq (0 : Nat) then (0 : Int) else (0 : Int))))
    AV.nil))]
    []
    (AV.cons (1 : Nat)
    (AV.cons (1 : Nat)
    (AV.vec false (3 : Nat) r.fst r.fst fun (i0 : Nat) =>
    AV.cons (1 : Nat) (AV.sc (Value.int IntKind.i64 (r.snd.fst i0)))
    (AV.cons (1 : Nat) (AV.sc (Value.int IntKind.i64 (r.snd.snd.fst i0)))
    (AV.cons (1 : Nat) (AV.sc (Value.int IntKind.i64 (r.snd.snd.snd.fst i0))) AV.nil)))
    (AV.cons (1 : Nat)
    (AV.vec false (5 : Nat) r.snd.snd.snd.snd.fst r.snd.snd.snd.snd.fst fun (i0 : Nat) =>
    AV.cons (1 : Nat)
    (AV.vec false (1 : Nat) (r.snd.snd.snd.snd.snd.fst i0) (r.snd.snd.snd.snd.snd.fst i0) fun (i1 : Nat) =>
    AV.sc (Value.int IntKind.i64 (r.snd.snd.snd.snd.snd.snd.fst i0 i1)))
    (AV.cons (1 : Nat) (AV.sc (Value.int IntKind.i64 (r.snd.snd.snd.snd.snd.snd.snd.fst i0)))
    (AV.cons (1 : Nat) (AV.sc (Value.int IntKind.i64 (r.snd.snd.snd.snd.snd.snd.snd.snd.fst i0)))
    (AV.cons (1 : Nat) (AV.sc (Value.bool (r.snd.snd.snd.snd.snd.snd.snd.snd.snd.fst i0)))
    (AV.cons (1 : Nat) (AV.sc (Value.int IntKind.i64 (r.snd.snd.snd.snd.snd.snd.snd.snd.snd.snd.fst i0))) AV.nil)))))
    (AV.cons (1 : Nat)
    (AV.vec false (1 : Nat) r.snd.snd.snd.snd.snd.snd.snd.snd.snd.snd.snd.fst
    r.snd.snd.snd.snd.snd.snd.snd.snd.snd.snd.snd.fst fun (i0 : Nat) =>
    AV.sc (Value.int IntKind.i64 (r.snd.snd.snd.snd.snd.snd.snd.snd.snd.snd.snd.snd.fst i0)))
    (AV.cons (1 : Nat)
    (AV.vec false (3 : Nat) r.snd.snd.snd.snd.snd.snd.snd.snd.snd.snd.snd.snd.snd.fst
    r.snd.snd.snd.snd.snd.snd.snd.snd.snd.snd.snd.snd.snd.fst fun (i0 : Nat) =>
    AV.cons (1 : Nat) (AV.sc (Value.int IntKind.i64 (r.snd.snd.snd.snd.snd.snd.snd.snd.snd.snd.snd.snd.snd.snd.fst i0)))
    (AV.cons (1 : Nat)
    (AV.sc (Value.int IntKind.i64 (r.snd.snd.snd.snd.snd.snd.snd.snd.snd.snd.snd.snd.snd.snd.snd.fst i0)))
    (AV.cons (1 : Nat)
    (AV.sc (Value.int IntKind.i64 (r.snd.snd.snd.snd.snd.snd.snd.snd.snd.snd.snd.snd.snd.snd.snd.snd.fst i0)))
    AV.nil)))
    AV.nil))))
    (AV.cons (1 : Nat) (AV.sc (Value.int IntKind.i64 r.snd.snd.snd.snd.snd.snd.snd.snd.snd.snd.snd.snd.snd.snd.snd.snd.snd))
    AV.nil)).tup
    []) ∧
    True ∧
    True ∧
    True ∧
    True ∧
    ((0 : Nat) = (0 : Nat) ∧ True) ∧
    True ∧
    True ∧
    True ∧
    True ∧
    True ∧
    True ∧
    True ∧
    True ∧
    True ∧
    (((True ∧ True ∧ True ∧ True) ∧
    (True ∧ True ∧ True ∧ True) ∧
    (True ∧ True ∧ True ∧ True) ∧
    (True ∧ True ∧ True ∧ True) ∧
    (True ∧ True ∧ True ∧ True) ∧
    (True ∧ True ∧ True ∧ True) ∧
    (True ∧ True ∧ True ∧ True) ∧ (True ∧ True ∧ True ∧ True) ∧ True) ∧
    True) ∧
    True ∧
    True ∧
    True ∧
    True ∧
    ((r.snd.snd.snd.snd.snd.snd.snd.snd.snd.snd.snd.snd.snd.snd.snd.snd.snd == (0 : Int)) = true →
    True ∧
    true = true ∧
    ((1 : Nat) + ((1 : Nat) + ((1 : Nat) + (0 : Nat))) = plus (0 : Nat) (3 : Nat) ∧ True) ∧
    true = true ∧
    True ∧
    true = true ∧
    ∃ (r_1 : Bool),
    ((True ∧ (0 : Nat) + (8 : Nat) ≤ (8 : Nat) ∧ True) ∧
    True ∧
    Ok Proofs.Try.prog (35 : Nat)
    [AV.vec true (3 : Nat)
    r.snd.snd.snd.snd.snd.snd.snd.snd.snd.snd.snd.snd.snd.fst
    r.snd.snd.snd.snd.snd.snd.snd.snd.snd.snd.snd.snd.snd.fst
    fun (i : Nat) =>
    AV.cons (1 : Nat)
    (AV.sc
    (Value.int IntKind.i64
    (r.snd.snd.snd.snd.snd.snd.snd.snd.snd.snd.snd.snd.snd.snd.fst
    i)))
    (AV.cons (1 : Nat)
    (AV.sc
    (Value.int IntKind.i64
    (r.snd.snd.snd.snd.snd.snd.snd.snd.snd.snd.snd.snd.snd.snd.snd.fst
    i)))
    (AV.cons (1 : Nat)
    (AV.sc
    (Value.int IntKind.i64
    (r.snd.snd.snd.snd.snd.snd.snd.snd.snd.snd.snd.snd.snd.snd.snd.snd.fst
    i)))
    AV.nil)),
    AV.vec true (3 : Nat) (8 : Nat) (8 : Nat) fun (i : Nat) =>
    AV.cons (1 : Nat)
    (AV.sc
    (Value.int IntKind.i64
    (bif (plus (0 : Nat) i).beq (7 : Nat) then (22 : Int)
    else
    bif (plus (0 : Nat) i).beq (6 : Nat) then (19 : Int)
    else
    bif (plus (0 : Nat) i).beq (5 : Nat) then (0 : Int)
    else
    bif (plus (0 : Nat) i).beq (4 : Nat) then (23 : Int)
    else
    bif (plus (0 : Nat) i).beq (3 : Nat) then (21 : Int)
    else
    bif (plus (0 : Nat) i).beq (2 : Nat) then (19 : Int)
    else
    bif (plus (0 : Nat) i).beq (1 : Nat) then (0 : Int)
    else
    bif (plus (0 : Nat) i).beq (0 : Nat) then
    (20 : Int)
    else (0 : Int))))
    (AV.cons (1 : Nat)
    (AV.sc
    (Value.int IntKind.i64
    (bif (plus (0 : Nat) i).beq (7 : Nat) then (0 : Int)
    else
    bif (plus (0 : Nat) i).beq (6 : Nat) then (0 : Int)
    else
    bif (plus (0 : Nat) i).beq (5 : Nat) then (0 : Int)
    else
    bif (plus (0 : Nat) i).beq (4 : Nat) then (0 : Int)
    else
    bif (plus (0 : Nat) i).beq (3 : Nat) then (2 : Int)
    else
    bif (plus (0 : Nat) i).beq (2 : Nat) then (0 : Int)
    else
    bif (plus (0 : Nat) i).beq (1 : Nat) then
    (0 : Int)
    else
    bif (plus (0 : Nat) i).beq (0 : Nat) then
    (4 : Int)
    else (0 : Int))))
    (AV.cons (1 : Nat)
    (AV.sc
    (Value.int IntKind.i64
    (bif (plus (0 : Nat) i).beq (7 : Nat) then (0 : Int)
    else
    bif (plus (0 : Nat) i).beq (6 : Nat) then (0 : Int)
    else
    bif (plus (0 : Nat) i).beq (5 : Nat) then (1 : Int)
    else
    bif (plus (0 : Nat) i).beq (4 : Nat) then (0 : Int)
    else
    bif (plus (0 : Nat) i).beq (3 : Nat) then (0 : Int)
    else
    bif (plus (0 : Nat) i).beq (2 : Nat) then
    (1 : Int)
    else
    bif (plus (0 : Nat) i).beq (1 : Nat) then
    (1 : Int)
    else
    bif (plus (0 : Nat) i).beq (0 : Nat) then
    (0 : Int)
    else (0 : Int))))
    AV.nil))]
    [] (AV.sc (Value.bool r_1)) []) ∧
    True ∧
    True ∧
    (r_1 = true →
    ∃ (r : Nat × Int × Int × Bool × Int × Nat × (Nat → Int)),
    (True ∧
    True ∧
    Ok Proofs.Try.prog (31 : Nat) [] []
    (AV.cons (1 : Nat)
    (AV.rf (1000 : Nat) (1 : Nat) (0 : Nat) r.fst)
    (AV.cons (1 : Nat) (AV.sc (Value.int IntKind.i64 r.snd.fst))
    (AV.cons (1 : Nat)
    (AV.sc (Value.int IntKind.i64 r.snd.snd.fst))
    (AV.cons (1 : Nat)
    (AV.sc (Value.bool r.snd.snd.snd.fst))
    (AV.cons (1 : Nat)
    (AV.sc
    (Value.int IntKind.i64 r.snd.snd.snd.snd.fst))
    AV.nil)))))
    [((1000 : Nat), (3 : Nat),
    AV.ar r.snd.snd.snd.snd.snd.fst (1 : Nat)
    fun (i0 : Nat) =>
    AV.sc
    (Value.int IntKind.i64
    (r.snd.snd.snd.snd.snd.snd i0)))]) ∧
    true = true ∧
    ((True ∧ True) ∧ True) ∧
    true = true ∧
    True ∧
    true = true ∧
    ∃ (r_2 : Bool),
    ((((0 : Nat) + r.fst ≤ r.snd.snd.snd.snd.snd.fst ∧
    True ∧ True ∧ True ∧ True ∧ True) ∧
    ((0 : Nat) + (1 : Nat) ≤ (1 : Nat) ∧
    True ∧ True ∧ True ∧ True ∧ True) ∧
    True) ∧
    True ∧
    Ok Proofs.Try.prog (32 : Nat)
    [AV.cons (1 : Nat)
    (AV.vec true (1 : Nat) r.fst
    (r.snd.snd.snd.snd.snd.fst - (0 : Nat))
    fun (i : Nat) =>
    AV.sc
    (Value.int IntKind.i64
    (r.snd.snd.snd.snd.snd.snd
    (plus (0 : Nat) i))))
    (AV.cons (1 : Nat)
    (AV.sc (Value.int IntKind.i64 r.snd.fst))
    (AV.cons (1 : Nat)
    (AV.sc
    (Value.int IntKind.i64 r.snd.snd.fst))
    (AV.cons (1 : Nat)
    (AV.sc (Value.bool r.snd.snd.snd.fst))
    (AV.cons (1 : Nat)
    (AV.sc
    (Value.int IntKind.i64
    r.snd.snd.snd.snd.fst))
    AV.nil)))),
    AV.cons (1 : Nat)
    (AV.vec true (1 : Nat) (1 : Nat) (1 : Nat)
    fun (i : Nat) =>
    AV.sc (Value.int IntKind.i64 (0 : Int)))
    (AV.cons (1 : Nat)
    (AV.sc (Value.int IntKind.i64 (0 : Int)))
    (AV.cons (1 : Nat)
    (AV.sc
    (Value.int IntKind.i64 (0 : Int)))
    (AV.cons (1 : Nat)
    (AV.sc (Value.bool true))
    (AV.cons (1 : Nat)
    (AV.sc
    (Value.int IntKind.i64 (0 : Int)))
    AV.nil))))]
    [] (AV.sc (Value.bool r_2)) []) ∧
    True ∧
    True ∧
    True ∧
    ((True ∧
    Sub (AV.sc (Value.bool r_2))
    (AV.sc (Value.bool r_2)) ∧
    True) ∧
    True) ∧
    Sub (AV.sc (Value.bool r_2)) res ∧
    SubOut [] []) ∧
    (r_1 = !true →
    true = true ∧
    (!true) = !true ∧
    true = true ∧
    (!true) = !true ∧
    true = true ∧
    (!true) = !true ∧
    true = true ∧
    True ∧
    True ∧
    True ∧
    ((True ∧
    Sub (AV.sc (Value.bool false))
    (AV.sc (Value.bool false)) ∧
    True) ∧
    True) ∧
    Sub (AV.sc (Value.bool false)) res ∧
    SubOut [] [])) ∧
    ((r.snd.snd.snd.snd.snd.snd.snd.snd.snd.snd.snd.snd.snd.snd.snd.snd.snd == (0 : Int)) = !true →
    true = true ∧
    (!true) = !true ∧
    true = true ∧
    (!true) = !true ∧
    true = true ∧
    (!true) = !true ∧
    true = true ∧
    True ∧
    True ∧
    false = !true ∧
    true = true ∧
    (!true) = !true ∧
    true = true ∧
    (!true) = !true ∧
    true = true ∧
    (!true) = !true ∧
    true = true ∧
    True ∧
    True ∧
    True ∧
    ((True ∧
    Sub (AV.sc (Value.bool false))
    (AV.sc (Value.bool false)) ∧
    True) ∧
    True) ∧
    Sub (AV.sc (Value.bool false)) res ∧ SubOut [] []) from
    ⟨trivial, ⟨trivial, ⟨trivial, ⟨trivial, ⟨trivial, ⟨trivial, ⟨⟨⟨⟨trivial, ⟨trivial, ⟨trivial, trivial⟩⟩⟩, ⟨⟨trivial, ⟨trivial, ⟨trivial, trivial⟩⟩⟩, ⟨⟨trivial, ⟨trivial, ⟨trivial, trivial⟩⟩⟩, ⟨⟨trivial, ⟨trivial, ⟨trivial, trivial⟩⟩⟩, ⟨⟨trivial, ⟨trivial, ⟨trivial, trivial⟩⟩⟩, trivial⟩⟩⟩⟩⟩, trivial⟩, ⟨trivial, ⟨trivial, (Exists.elim h fun x9 h9 => ⟨x9, (And.elim (fun h10 k10 => ⟨(And.elim (fun h11 k11 => ⟨⟨trivial, ((fun h13 => ⟨h13, trivial⟩) h11)⟩, ⟨trivial, k11⟩⟩) h10), ⟨trivial, ⟨trivial, ⟨trivial, ⟨trivial, ⟨⟨rfl, trivial⟩, ⟨trivial, ⟨trivial, ⟨trivial, ⟨trivial, ⟨trivial, ⟨trivial, ⟨trivial, ⟨trivial, ⟨trivial, ⟨⟨⟨⟨trivial, ⟨trivial, ⟨trivial, trivial⟩⟩⟩, ⟨⟨trivial, ⟨trivial, ⟨trivial, trivial⟩⟩⟩, ⟨⟨trivial, ⟨trivial, ⟨trivial, trivial⟩⟩⟩, ⟨⟨trivial, ⟨trivial, ⟨trivial, trivial⟩⟩⟩, ⟨⟨trivial, ⟨trivial, ⟨trivial, trivial⟩⟩⟩, ⟨⟨trivial, ⟨trivial, ⟨trivial, trivial⟩⟩⟩, ⟨⟨trivial, ⟨trivial, ⟨trivial, trivial⟩⟩⟩, ⟨⟨trivial, ⟨trivial, ⟨trivial, trivial⟩⟩⟩, trivial⟩⟩⟩⟩⟩⟩⟩⟩, trivial⟩, ⟨trivial, ⟨trivial, ⟨trivial, ⟨trivial, (And.elim (fun h30 k30 => ⟨(fun x31 => (fun h31 => ⟨trivial, ⟨rfl, ⟨⟨rfl, trivial⟩, ⟨rfl, ⟨trivial, ⟨rfl, (Exists.elim h31 fun x38 h38 => ⟨x38, (And.elim (fun h39 k39 => ⟨(And.elim (fun h40 k40 => ⟨⟨trivial, ((fun h42 => ⟨h42, trivial⟩) h40)⟩, ⟨trivial, k40⟩⟩) h39), ⟨trivial, ⟨trivial, (And.elim (fun h42 k42 => ⟨(fun x43 => (fun h43 => (Exists.elim h43 fun x44 h44 => ⟨x44, (And.elim (fun h45 k45 => ⟨⟨trivial, ⟨trivial, h45⟩⟩, ⟨rfl, ⟨⟨⟨trivial, trivial⟩, trivial⟩, ⟨rfl, ⟨trivial, ⟨rfl, (Exists.elim k45 fun x51 h51 => ⟨x51, (And.elim (fun h52 k52 => ⟨(And.elim (fun h53 k53 => ⟨(And.elim (fun h54 k54 => ⟨((fun h55 => ⟨h55, ⟨trivial, ⟨trivial, ⟨trivial, ⟨trivial, trivial⟩⟩⟩⟩⟩) h54), ((fun h55 => ⟨((fun h56 => ⟨h56, ⟨trivial, ⟨trivial, ⟨trivial, ⟨trivial, trivial⟩⟩⟩⟩⟩) h55), trivial⟩) k54)⟩) h53), ⟨trivial, k53⟩⟩) h52), ⟨trivial, ⟨trivial, ⟨trivial, ⟨⟨⟨trivial, ⟨Sub.refl _, trivial⟩⟩, trivial⟩, ((fun h57 => ⟨h57, trivial⟩) k52)⟩⟩⟩⟩⟩) h51)⟩)⟩⟩⟩⟩⟩⟩) h44)⟩)) (h42 x43)), (fun x43 => (fun h43 => ⟨rfl, ⟨rfl, ⟨rfl, ⟨rfl, ⟨rfl, ⟨rfl, ⟨rfl, ⟨trivial, ⟨trivial, ⟨trivial, ⟨⟨⟨trivial, ⟨Sub.refl _, trivial⟩⟩, trivial⟩, ((fun h55 => ⟨h55, trivial⟩) h43)⟩⟩⟩⟩⟩⟩⟩⟩⟩⟩⟩) (k42 x43))⟩) k39)⟩⟩⟩) h38)⟩)⟩⟩⟩⟩⟩⟩) (h30 x31)), (fun x31 => (fun h31 => ⟨rfl, ⟨rfl, ⟨rfl, ⟨rfl, ⟨rfl, ⟨rfl, ⟨rfl, ⟨trivial, ⟨trivial, ⟨rfl, ⟨rfl, ⟨rfl, ⟨rfl, ⟨rfl, ⟨rfl, ⟨rfl, ⟨rfl, ⟨trivial, ⟨trivial, ⟨trivial, ⟨⟨⟨trivial, ⟨Sub.refl _, trivial⟩⟩, trivial⟩, ((fun h53 => ⟨h53, trivial⟩) h31)⟩⟩⟩⟩⟩⟩⟩⟩⟩⟩⟩⟩⟩⟩⟩⟩⟩⟩⟩⟩⟩) (k30 x31))⟩) k10)⟩⟩⟩⟩⟩⟩⟩⟩⟩⟩⟩⟩⟩⟩⟩⟩⟩⟩⟩⟩) h9)⟩)⟩⟩⟩⟩⟩⟩⟩⟩⟩)
theorem hf41 : Go.Proofs.Try.prog.funcs[41]? = some Go.Proofs.Try.f41 := by kernel_rfl
abbrev s41_e (text : ByteArray) (ln : Nat) (lfa : Nat → Int) (lfba : Nat → Int) (lfbba : Nat → Int) : List (Nat × AV) := [(0, (.sc (.string text))), (1, (.vec true 3 ln ln (fun i0 => (.cons 1 (.sc (.int .i64 (lfa i0))) (.cons 1 (.sc (.int .i64 (lfba i0))) (.cons 1 (.sc (.int .i64 (lfbba i0))) .nil))))))]
abbrev m41_e (text : ByteArray) (ln : Nat) (lfa : Nat → Int) (lfba : Nat → Int) (lfbba : Nat → Int) : List (Nat × Nat × AV) := []
def L41_e (text : ByteArray) (ln : Nat) (lfa : Nat → Int) (lfba : Nat → Int) (lfbba : Nat → Int) (res : AV) : Prop := Goes ⟨Go.Proofs.Try.prog, 41, [], res, []⟩ (place Go.Proofs.Try.f41 []) (s41_e text ln lfa lfba lfbba) (m41_e text ln lfa lfba lfbba)
abbrev s41_0 (text : ByteArray) (t31n : Nat) (t31fa : Nat → Int) (t31fba : Nat → Int) (t31fbba : Nat → Int) (t32 : Int) (t33 : Int) (b1an : Nat) (b1afa : Nat → Int) (b1afba : Nat → Int) (b1afbba : Nat → Int) (b1ban : Nat) (b1bban : Nat) (b1bbban : Nat) (b2an : Nat) (b2ba : Int) (b2bba : Int) (b2bbba : Bool) (b2bbbba : Int) (b7n : Nat) (b7fan : Nat → Nat) (b7faf : Nat → Nat → Int) (b7fba : Nat → Int) (b7fbba : Nat → Int) (b7fbbba : Nat → Bool) (b7fbbbba : Nat → Int) (b8n : Nat) (b8f : Nat → Int) (b10n : Nat) (b10f : Nat → Int) (b9n : Nat) (b9fa : Nat → Int) (b9fba : Nat → Int) (b9fbba : Nat → Int) : List (Nat × AV) := [(0, (.sc (.string text))), (4, (.pt 1000 [] 0)), (6, (.pt 1001 [] 0)), (7, (.pt 1002 [] 0)), (31, (.vec true 3 t31n t31n (fun i0 => (.cons 1 (.sc (.int .i64 (t31fa i0))) (.cons 1 (.sc (.int .i64 (t31fba i0))) (.cons 1 (.sc (.int .i64 (t31fbba i0))) .nil)))))), (32, (.sc (.int .i64 t32))), (33, (.sc (.int .i64 t33)))]
abbrev m41_0 (text : ByteArray) (t31n : Nat) (t31fa : Nat → Int) (t31fba : Nat → Int) (t31fbba : Nat → Int) (t32 : Int) (t33 : Int) (b1an : Nat) (b1afa : Nat → Int) (b1afba : Nat → Int) (b1afbba : Nat → Int) (b1ban : Nat) (b1bban : Nat) (b1bbban : Nat) (b2an : Nat) (b2ba : Int) (b2bba : Int) (b2bbba : Bool) (b2bbbba : Int) (b7n : Nat) (b7fan : Nat → Nat) (b7faf : Nat → Nat → Int) (b7fba : Nat → Int) (b7fbba : Nat → Int) (b7fbbba : Nat → Bool) (b7fbbbba : Nat → Int) (b8n : Nat) (b8f : Nat → Int) (b10n : Nat) (b10f : Nat → Int) (b9n : Nat) (b9fa : Nat → Int) (b9fba : Nat → Int) (b9fbba : Nat → Int) : List (Nat × Nat × AV) := [(1000, 76, (.cons 1 (.sc (.slice none 0 0)) (.cons 1 (.sc (.slice none 0 0)) (.cons 1 (.sc (.slice none 0 0)) (.cons 1 (.sc (.slice none 0 0)) .nil))))), (1001, 76, (.cons 1 (.vec false 3 b1an b1an (fun i0 => (.cons 1 (.sc (.int .i64 (b1afa i0))) (.cons 1 (.sc (.int .i64 (b1afba i0))) (.cons 1 (.sc (.int .i64 (b1afbba i0))) .nil))))) (.cons 1 (.rf 1007 5 0 b1ban) (.cons 1 (.rf 1008 1 0 b1bban) (.cons 1 (.rf 1009 3 0 b1bbban) .nil))))), (1002, 64, (.cons 1 (.rf 1010 1 0 b2an) (.cons 1 (.sc (.int .i64 b2ba)) (.cons 1 (.sc (.int .i64 b2bba)) (.cons 1 (.sc (.bool b2bbba)) (.cons 1 (.sc (.int .i64 b2bbbba)) .nil)))))), (1007, 64, (.ar b7n 5 (fun i0 => (.cons 1 (.vec false 1 (b7fan i0) (b7fan i0) (fun i1 => (.sc (.int .i64 (b7faf i0 i1))))) (.cons 1 (.sc (.int .i64 (b7fba i0))) (.cons 1 (.sc (.int .i64 (b7fbba i0))) (.cons 1 (.sc (.bool (b7fbbba i0))) (.cons 1 (.sc (.int .i64 (b7fbbbba i0))) .nil)))))))), (1008, 3, (.ar b8n 1 (fun i0 => (.sc (.int .i64 (b8f i0)))))), (1010, 3, (.ar b10n 1 (fun i0 => (.sc (.int .i64 (b10f i0)))))), (1009, 81, (.ar b9n 3 (fun i0 => (.cons 1 (.sc (.int .i64 (b9fa i0))) (.cons 1 (.sc (.int .i64 (b9fba i0))) (.cons 1 (.sc (.int .i64 (b9fbba i0))) .nil))))))]
def L41_0 (text : ByteArray) (t31n : Nat) (t31fa : Nat → Int) (t31fba : Nat → Int) (t31fbba : Nat → Int) (t32 : Int) (t33 : Int) (b1an : Nat) (b1afa : Nat → Int) (b1afba : Nat → Int) (b1afbba : Nat → Int) (b1ban : Nat) (b1bban : Nat) (b1bbban : Nat) (b2an : Nat) (b2ba : Int) (b2bba : Int) (b2bbba : Bool) (b2bbbba : Int) (b7n : Nat) (b7fan : Nat → Nat) (b7faf : Nat → Nat → Int) (b7fba : Nat → Int) (b7fbba : Nat → Int) (b7fbbba : Nat → Bool) (b7fbbbba : Nat → Int) (b8n : Nat) (b8f : Nat → Int) (b10n : Nat) (b10f : Nat → Int) (b9n : Nat) (b9fa : Nat → Int) (b9fba : Nat → Int) (b9fbba : Nat → Int) (res : AV) : Prop := Goes ⟨Go.Proofs.Try.prog, 41, [], res, []⟩ (place Go.Proofs.Try.f41 [1, 1, 1, 1, 0, 1, 0, 0]) (s41_0 text t31n t31fa t31fba t31fbba t32 t33 b1an b1afa b1afba b1afbba b1ban b1bban b1bbban b2an b2ba b2bba b2bbba b2bbbba b7n b7fan b7faf b7fba b7fbba b7fbbba b7fbbbba b8n b8f b10n b10f b9n b9fa b9fba b9fbba) (m41_0 text t31n t31fa t31fba t31fbba t32 t33 b1an b1afa b1afba b1afbba b1ban b1bban b1bbban b2an b2ba b2bba b2bbba b2bbbba b7n b7fan b7faf b7fba b7fbba b7fbbba b7fbbbba b8n b8f b10n b10f b9n b9fa b9fba b9fbba)
theorem o41 (text : ByteArray) (ln : Nat) (lfa : Nat → Int) (lfba : Nat → Int) (lfbba : Nat → Int) (res : AV) (hnew : newOnly res) (h : L41_e text ln lfa lfba lfbba res) : Ok Go.Proofs.Try.prog 41 [(.sc (.string text)), (.vec true 3 ln ln (fun i0 => (.cons 1 (.sc (.int .i64 (lfa i0))) (.cons 1 (.sc (.int .i64 (lfba i0))) (.cons 1 (.sc (.int .i64 (lfbba i0))) .nil)))))] [] res [] :=
  okRule2 41 Go.Proofs.Try.f41 hf41 [(.sc (.string text)), (.vec true 3 ln ln (fun i0 => (.cons 1 (.sc (.int .i64 (lfa i0))) (.cons 1 (.sc (.int .i64 (lfba i0))) (.cons 1 (.sc (.int .i64 (lfbba i0))) .nil)))))] [] res [] [] rfl (by kernel_rfl) (by kernel_rfl) (by kernel_rfl) ⟨hnew, by simp⟩ (L41_e text ln lfa lfba lfbba res) (by kernel_rfl) h
theorem r41_e (text : ByteArray) (ln : Nat) (lfa : Nat → Int) (lfba : Nat → Int) (lfbba : Nat → Int) (res : AV)
    (h : (decide ((↑text.size : Int) > (65536 : Int)) = true →
    Sub
    (AV.cons (1 : Nat)
    (AV.cons (1 : Nat) (AV.sc (Value.slice none (0 : Nat) (0 : Nat)))
    (AV.cons (1 : Nat) (AV.sc (Value.slice none (0 : Nat) (0 : Nat)))
    (AV.cons (1 : Nat) (AV.sc (Value.slice none (0 : Nat) (0 : Nat))) (AV.cons (1 : Nat) (AV.sc (Value.slice none (0 : Nat) (0 : Nat))) AV.nil))))
    (AV.cons (1 : Nat) (AV.sc (Value.int IntKind.i64 (3 : Int))) AV.nil)).tup
    res) ∧
  (decide ((↑text.size : Int) > (65536 : Int)) = false →
    ∃ (r : Bool),
    Ok Proofs.Try.prog (73 : Nat)
    [AV.sc (Value.int IntKind.i64 (↑text.size : Int)),
    AV.vec true (3 : Nat) ln ln fun (i : Nat) =>
    AV.cons (1 : Nat) (AV.sc (Value.int IntKind.i64 (lfa i)))
    (AV.cons (1 : Nat) (AV.sc (Value.int IntKind.i64 (lfba i))) (AV.cons (1 : Nat) (AV.sc (Value.int IntKind.i64 (lfbba i))) AV.nil))]
    [] (AV.sc (Value.bool r)) [] ∧
    ((!r) = true →
    Sub
    (AV.cons (1 : Nat)
    (AV.cons (1 : Nat) (AV.sc (Value.slice none (0 : Nat) (0 : Nat)))
    (AV.cons (1 : Nat) (AV.sc (Value.slice none (0 : Nat) (0 : Nat)))
    (AV.cons (1 : Nat) (AV.sc (Value.slice none (0 : Nat) (0 : Nat)))
    (AV.cons (1 : Nat) (AV.sc (Value.slice none (0 : Nat) (0 : Nat))) AV.nil))))
    (AV.cons (1 : Nat) (AV.sc (Value.int IntKind.i64 (2 : Int))) AV.nil)).tup
    res) ∧
    ((!r) = false →
    ∃ (r : Nat × (Nat → Int) × (Nat → Int) × (Nat → Int)),
    Ok Proofs.Try.prog (74 : Nat)
    [AV.vec true (3 : Nat) ln ln fun (i : Nat) =>
    AV.cons (1 : Nat) (AV.sc (Value.int IntKind.i64 (lfa i)))
    (AV.cons (1 : Nat) (AV.sc (Value.int IntKind.i64 (lfba i))) (AV.cons (1 : Nat) (AV.sc (Value.int IntKind.i64 (lfbba i))) AV.nil))]
    []
    (AV.vec false (3 : Nat) r.fst r.fst fun (i0 : Nat) =>
    AV.cons (1 : Nat) (AV.sc (Value.int IntKind.i64 (r.snd.fst i0)))
    (AV.cons (1 : Nat) (AV.sc (Value.int IntKind.i64 (r.snd.snd.fst i0)))
    (AV.cons (1 : Nat) (AV.sc (Value.int IntKind.i64 (r.snd.snd.snd i0))) AV.nil)))
    [] ∧
    ∃ (r_1 : Nat × Int × Int × Bool × Int × Nat × (Nat → Int)),
    Ok Proofs.Try.prog (31 : Nat) [] []
    (AV.cons (1 : Nat) (AV.rf (1000 : Nat) (1 : Nat) (0 : Nat) r_1.fst)
    (AV.cons (1 : Nat) (AV.sc (Value.int IntKind.i64 r_1.snd.fst))
    (AV.cons (1 : Nat) (AV.sc (Value.int IntKind.i64 r_1.snd.snd.fst))
    (AV.cons (1 : Nat) (AV.sc (Value.bool r_1.snd.snd.snd.fst))
    (AV.cons (1 : Nat) (AV.sc (Value.int IntKind.i64 r_1.snd.snd.snd.snd.fst)) AV.nil)))))
    [((1000 : Nat), (3 : Nat),
    AV.ar r_1.snd.snd.snd.snd.snd.fst (1 : Nat) fun (i0 : Nat) => AV.sc (Value.int IntKind.i64 (r_1.snd.snd.snd.snd.snd.snd i0)))] ∧
    (0 : Nat) + r_1.fst ≤ r_1.snd.snd.snd.snd.snd.fst ∧
    ∃ (r_2 : Nat × Int × Int × Bool × Int × Nat × (Nat → Int)),
    Ok Proofs.Try.prog (31 : Nat) [] []
    (AV.cons (1 : Nat) (AV.rf (1000 : Nat) (1 : Nat) (0 : Nat) r_2.fst)
    (AV.cons (1 : Nat) (AV.sc (Value.int IntKind.i64 r_2.snd.fst))
    (AV.cons (1 : Nat) (AV.sc (Value.int IntKind.i64 r_2.snd.snd.fst))
    (AV.cons (1 : Nat) (AV.sc (Value.bool r_2.snd.snd.snd.fst))
    (AV.cons (1 : Nat) (AV.sc (Value.int IntKind.i64 r_2.snd.snd.snd.snd.fst)) AV.nil)))))
    [((1000 : Nat), (3 : Nat),
    AV.ar r_2.snd.snd.snd.snd.snd.fst (1 : Nat) fun (i0 : Nat) => AV.sc (Value.int IntKind.i64 (r_2.snd.snd.snd.snd.snd.snd i0)))] ∧
    SubB
    (AV.ar (1 : Nat) (5 : Nat) fun (x : Nat) =>
    AV.cons (1 : Nat)
    (AV.vec false (1 : Nat) r_1.fst (r_1.snd.snd.snd.snd.snd.fst - (0 : Nat)) fun (i : Nat) =>
    AV.sc (Value.int IntKind.i64 (r_1.snd.snd.snd.snd.snd.snd (plus (0 : Nat) i))))
    (AV.cons (1 : Nat) (AV.sc (Value.int IntKind.i64 r_1.snd.fst))
    (AV.cons (1 : Nat) (AV.sc (Value.int IntKind.i64 r_1.snd.snd.fst))
    (AV.cons (1 : Nat) (AV.sc (Value.bool r_1.snd.snd.snd.fst))
    (AV.cons (1 : Nat) (AV.sc (Value.int IntKind.i64 r_1.snd.snd.snd.snd.fst)) AV.nil)))))
    (AV.ar (1 : Nat) (5 : Nat) fun (i0 : Nat) =>
    AV.cons (1 : Nat)
    (AV.vec false (1 : Nat) r_1.fst r_1.fst fun (i1 : Nat) =>
    AV.sc (Value.int IntKind.i64 (r_1.snd.snd.snd.snd.snd.snd (plus (0 : Nat) i1))))
    (AV.cons (1 : Nat) (AV.sc (Value.int IntKind.i64 r_1.snd.fst))
    (AV.cons (1 : Nat) (AV.sc (Value.int IntKind.i64 r_1.snd.snd.fst))
    (AV.cons (1 : Nat) (AV.sc (Value.bool r_1.snd.snd.snd.fst))
    (AV.cons (1 : Nat) (AV.sc (Value.int IntKind.i64 r_1.snd.snd.snd.snd.fst)) AV.nil))))) ∧
    L41_0 text ln lfa lfba lfbba (↑ln : Int) (0 : Int) r.fst r.snd.fst r.snd.snd.fst r.snd.snd.snd (1 : Nat) (1 : Nat) (0 : Nat) r_2.fst
    r_2.snd.fst r_2.snd.snd.fst r_2.snd.snd.snd.fst r_2.snd.snd.snd.snd.fst (1 : Nat) (fun (x : Nat) => r_1.fst)
    (fun (x i : Nat) => r_1.snd.snd.snd.snd.snd.snd (plus (0 : Nat) i)) (fun (x : Nat) => r_1.snd.fst)
    (fun (x : Nat) => r_1.snd.snd.fst) (fun (x : Nat) => r_1.snd.snd.snd.fst) (fun (x : Nat) => r_1.snd.snd.snd.snd.fst) (1 : Nat)
    (fun (x : Nat) => (0 : Int)) r_2.snd.snd.snd.snd.snd.fst r_2.snd.snd.snd.snd.snd.snd (0 : Nat)
    (fun (i : Nat) => Int.ofNat (0 : Nat)) (fun (i : Nat) => Int.ofNat (0 : Nat)) (fun (i : Nat) => Int.ofNat (0 : Nat)) res))) :
    L41_e text ln lfa lfba lfbba res :=
  rule Go.Am.Seat.tabOk 41 [] Go.Proofs.Try.f41 hf41 [] (s41_e text ln lfa lfba lfbba) (m41_e text ln lfa lfba lfbba) res [] 400
    ((Orc.fin
    (AV.cons (1 : Nat)
    (AV.cons (1 : Nat) (AV.sc (Value.slice none (0 : Nat) (0 : Nat)))
    (AV.cons (1 : Nat) (AV.sc (Value.slice none (0 : Nat) (0 : Nat)))
    (AV.cons (1 : Nat) (AV.sc (Value.slice none (0 : Nat) (0 : Nat))) (AV.cons (1 : Nat) (AV.sc (Value.slice none (0 : Nat) (0 : Nat))) AV.nil))))
    (AV.cons (1 : Nat) (AV.sc (Value.int IntKind.i64 (3 : Int))) AV.nil)).tup
    [] []).br
  (Orc.call [] [] (fun (r73 : Bool) => AV.sc (Value.bool r73)) (fun (r73 : Bool) => []) fun (r73 : Bool) =>
    (Orc.fin
    (AV.cons (1 : Nat)
    (AV.cons (1 : Nat) (AV.sc (Value.slice none (0 : Nat) (0 : Nat)))
    (AV.cons (1 : Nat) (AV.sc (Value.slice none (0 : Nat) (0 : Nat)))
    (AV.cons (1 : Nat) (AV.sc (Value.slice none (0 : Nat) (0 : Nat))) (AV.cons (1 : Nat) (AV.sc (Value.slice none (0 : Nat) (0 : Nat))) AV.nil))))
    (AV.cons (1 : Nat) (AV.sc (Value.int IntKind.i64 (2 : Int))) AV.nil)).tup
    [] []).br
    (Orc.call [] []
    (fun (r74 : Nat × (Nat → Int) × (Nat → Int) × (Nat → Int)) =>
    AV.vec false (3 : Nat) r74.fst r74.fst fun (i0 : Nat) =>
    AV.cons (1 : Nat) (AV.sc (Value.int IntKind.i64 (r74.snd.fst i0)))
    (AV.cons (1 : Nat) (AV.sc (Value.int IntKind.i64 (r74.snd.snd.fst i0)))
    (AV.cons (1 : Nat) (AV.sc (Value.int IntKind.i64 (r74.snd.snd.snd i0))) AV.nil)))
    (fun (r74 : Nat × (Nat → Int) × (Nat → Int) × (Nat → Int)) => []) fun (r74 : Nat × (Nat → Int) × (Nat → Int) × (Nat → Int)) =>
    Orc.call [] [((100260 : Nat), (1000 : Nat))]
    (fun (r31 : Nat × Int × Int × Bool × Int × Nat × (Nat → Int)) =>
    AV.cons (1 : Nat) (AV.rf (1000 : Nat) (1 : Nat) (0 : Nat) r31.fst)
    (AV.cons (1 : Nat) (AV.sc (Value.int IntKind.i64 r31.snd.fst))
    (AV.cons (1 : Nat) (AV.sc (Value.int IntKind.i64 r31.snd.snd.fst))
    (AV.cons (1 : Nat) (AV.sc (Value.bool r31.snd.snd.snd.fst))
    (AV.cons (1 : Nat) (AV.sc (Value.int IntKind.i64 r31.snd.snd.snd.snd.fst)) AV.nil)))))
    (fun (r31 : Nat × Int × Int × Bool × Int × Nat × (Nat → Int)) =>
    [((1000 : Nat), (3 : Nat),
    AV.ar r31.snd.snd.snd.snd.snd.fst (1 : Nat) fun (i0 : Nat) => AV.sc (Value.int IntKind.i64 (r31.snd.snd.snd.snd.snd.snd i0)))])
    fun (r31 : Nat × Int × Int × Bool × Int × Nat × (Nat → Int)) =>
    Orc.call [] [((100300 : Nat), (1000 : Nat))]
    (fun (r31 : Nat × Int × Int × Bool × Int × Nat × (Nat → Int)) =>
    AV.cons (1 : Nat) (AV.rf (1000 : Nat) (1 : Nat) (0 : Nat) r31.fst)
    (AV.cons (1 : Nat) (AV.sc (Value.int IntKind.i64 r31.snd.fst))
    (AV.cons (1 : Nat) (AV.sc (Value.int IntKind.i64 r31.snd.snd.fst))
    (AV.cons (1 : Nat) (AV.sc (Value.bool r31.snd.snd.snd.fst))
    (AV.cons (1 : Nat) (AV.sc (Value.int IntKind.i64 r31.snd.snd.snd.snd.fst)) AV.nil)))))
    (fun (r31 : Nat × Int × Int × Bool × Int × Nat × (Nat → Int)) =>
    [((1000 : Nat), (3 : Nat),
    AV.ar r31.snd.snd.snd.snd.snd.fst (1 : Nat) fun (i0 : Nat) => AV.sc (Value.int IntKind.i64 (r31.snd.snd.snd.snd.snd.snd i0)))])
    fun (r31_1 : Nat × Int × Int × Bool × Int × Nat × (Nat → Int)) =>
    Orc.cut (nat_lit 5)
    (s41_0 text ln lfa lfba lfbba (↑ln : Int) (0 : Int) r74.fst r74.snd.fst r74.snd.snd.fst r74.snd.snd.snd (1 : Nat) (1 : Nat) (0 : Nat) r31_1.fst
    r31_1.snd.fst r31_1.snd.snd.fst r31_1.snd.snd.snd.fst r31_1.snd.snd.snd.snd.fst (1 : Nat) (fun (x : Nat) => r31.fst)
    (fun (x i : Nat) => r31.snd.snd.snd.snd.snd.snd (plus (0 : Nat) i)) (fun (x : Nat) => r31.snd.fst) (fun (x : Nat) => r31.snd.snd.fst)
    (fun (x : Nat) => r31.snd.snd.snd.fst) (fun (x : Nat) => r31.snd.snd.snd.snd.fst) (1 : Nat) (fun (x : Nat) => (0 : Int))
    r31_1.snd.snd.snd.snd.snd.fst r31_1.snd.snd.snd.snd.snd.snd (0 : Nat) (fun (i : Nat) => Int.ofNat (0 : Nat))
    (fun (i : Nat) => Int.ofNat (0 : Nat)) fun (i : Nat) => Int.ofNat (0 : Nat))
    (m41_0 text ln lfa lfba lfbba (↑ln : Int) (0 : Int) r74.fst r74.snd.fst r74.snd.snd.fst r74.snd.snd.snd (1 : Nat) (1 : Nat) (0 : Nat) r31_1.fst
    r31_1.snd.fst r31_1.snd.snd.fst r31_1.snd.snd.snd.fst r31_1.snd.snd.snd.snd.fst (1 : Nat) (fun (x : Nat) => r31.fst)
    (fun (x i : Nat) => r31.snd.snd.snd.snd.snd.snd (plus (0 : Nat) i)) (fun (x : Nat) => r31.snd.fst) (fun (x : Nat) => r31.snd.snd.fst)
    (fun (x : Nat) => r31.snd.snd.snd.fst) (fun (x : Nat) => r31.snd.snd.snd.snd.fst) (1 : Nat) (fun (x : Nat) => (0 : Int))
    r31_1.snd.snd.snd.snd.snd.fst r31_1.snd.snd.snd.snd.snd.snd (0 : Nat) (fun (i : Nat) => Int.ofNat (0 : Nat))
    (fun (i : Nat) => Int.ofNat (0 : Nat)) fun (i : Nat) => Int.ofNat (0 : Nat))
    [((1000 : Nat), some (4 : Nat)), ((1001 : Nat), some (6 : Nat)), ((1002 : Nat), some (7 : Nat)), ((1007 : Nat), some (27 : Nat)),
    ((1008 : Nat), some (28 : Nat)), ((1010 : Nat), some (100300 : Nat)), ((1009 : Nat), none)]))) _ _ (by kernel_rfl) (by kernel_rfl) (show True ∧
  True ∧
    True ∧
    True ∧
    True ∧
    True ∧
    (decide ((↑text.size : Int) > (65536 : Int)) = true →
    True ∧
    ((0 : Nat) = (0 : Nat) ∧ True) ∧
    True ∧
    (((0 : Nat) = (0 : Nat) ∧ True) ∧ True ∧ True) ∧
    ((((True ∧ True ∧ True ∧ True ∧ True) ∧ True ∧ True) ∧
    Sub
    (AV.cons (1 : Nat)
    (AV.cons (1 : Nat) (AV.sc (Value.slice none (0 : Nat) (0 : Nat)))
    (AV.cons (1 : Nat) (AV.sc (Value.slice none (0 : Nat) (0 : Nat)))
    (AV.cons (1 : Nat) (AV.sc (Value.slice none (0 : Nat) (0 : Nat)))
    (AV.cons (1 : Nat) (AV.sc (Value.slice none (0 : Nat) (0 : Nat))) AV.nil))))
    (AV.cons (1 : Nat) (AV.sc (Value.int IntKind.i64 (3 : Int))) AV.nil)).tup
    (AV.cons (1 : Nat)
    (AV.cons (1 : Nat) (AV.sc (Value.slice none (0 : Nat) (0 : Nat)))
    (AV.cons (1 : Nat) (AV.sc (Value.slice none (0 : Nat) (0 : Nat)))
    (AV.cons (1 : Nat) (AV.sc (Value.slice none (0 : Nat) (0 : Nat)))
    (AV.cons (1 : Nat) (AV.sc (Value.slice none (0 : Nat) (0 : Nat))) AV.nil))))
    (AV.cons (1 : Nat) (AV.sc (Value.int IntKind.i64 (3 : Int))) AV.nil)).tup ∧
    True) ∧
    True) ∧
    Sub
    (AV.cons (1 : Nat)
    (AV.cons (1 : Nat) (AV.sc (Value.slice none (0 : Nat) (0 : Nat)))
    (AV.cons (1 : Nat) (AV.sc (Value.slice none (0 : Nat) (0 : Nat)))
    (AV.cons (1 : Nat) (AV.sc (Value.slice none (0 : Nat) (0 : Nat)))
    (AV.cons (1 : Nat) (AV.sc (Value.slice none (0 : Nat) (0 : Nat))) AV.nil))))
    (AV.cons (1 : Nat) (AV.sc (Value.int IntKind.i64 (3 : Int))) AV.nil)).tup
    res ∧
    SubOut [] []) ∧
    (decide ((↑text.size : Int) > (65536 : Int)) = false →
    True ∧
    True ∧
    True ∧
    ∃ (r : Bool),
    ((True ∧ True ∧ True) ∧
    True ∧
    Ok Proofs.Try.prog (73 : Nat)
    [AV.sc (Value.int IntKind.i64 (↑text.size : Int)),
    AV.vec true (3 : Nat) ln ln fun (i : Nat) =>
    AV.cons (1 : Nat) (AV.sc (Value.int IntKind.i64 (lfa i)))
    (AV.cons (1 : Nat) (AV.sc (Value.int IntKind.i64 (lfba i)))
    (AV.cons (1 : Nat) (AV.sc (Value.int IntKind.i64 (lfbba i))) AV.nil))]
    [] (AV.sc (Value.bool r)) []) ∧
    True ∧
    True ∧
    ((!r) = true →
    True ∧
    ((0 : Nat) = (0 : Nat) ∧ True) ∧
    True ∧
    (((0 : Nat) = (0 : Nat) ∧ True) ∧ True ∧ True) ∧
    ((((True ∧ True ∧ True ∧ True ∧ True) ∧ True ∧ True) ∧
    Sub
    (AV.cons (1 : Nat)
    (AV.cons (1 : Nat) (AV.sc (Value.slice none (0 : Nat) (0 : Nat)))
    (AV.cons (1 : Nat) (AV.sc (Value.slice none (0 : Nat) (0 : Nat)))
    (AV.cons (1 : Nat) (AV.sc (Value.slice none (0 : Nat) (0 : Nat)))
    (AV.cons (1 : Nat) (AV.sc (Value.slice none (0 : Nat) (0 : Nat))) AV.nil))))
    (AV.cons (1 : Nat) (AV.sc (Value.int IntKind.i64 (2 : Int))) AV.nil)).tup
    (AV.cons (1 : Nat)
    (AV.cons (1 : Nat) (AV.sc (Value.slice none (0 : Nat) (0 : Nat)))
    (AV.cons (1 : Nat) (AV.sc (Value.slice none (0 : Nat) (0 : Nat)))
    (AV.cons (1 : Nat) (AV.sc (Value.slice none (0 : Nat) (0 : Nat)))
    (AV.cons (1 : Nat) (AV.sc (Value.slice none (0 : Nat) (0 : Nat))) AV.nil))))
    (AV.cons (1 : Nat) (AV.sc (Value.int IntKind.i64 (2 : Int))) AV.nil)).tup ∧
    True) ∧
    True) ∧
    Sub
    (AV.cons (1 : Nat)
    (AV.cons (1 : Nat) (AV.sc (Value.slice none (0 : Nat) (0 : Nat)))
    (AV.cons (1 : Nat) (AV.sc (Value.slice none (0 : Nat) (0 : Nat)))
    (AV.cons (1 : Nat) (AV.sc (Value.slice none (0 : Nat) (0 : Nat)))
    (AV.cons (1 : Nat) (AV.sc (Value.slice none (0 : Nat) (0 : Nat))) AV.nil))))
    (AV.cons (1 : Nat) (AV.sc (Value.int IntKind.i64 (2 : Int))) AV.nil)).tup
    res ∧
    SubOut [] []) ∧
    ((!r) = false →
    True ∧
    ∃ (r : Nat × (Nat → Int) × (Nat → Int) × (Nat → Int)),
    ((True ∧ True) ∧
    True ∧
    Ok Proofs.Try.prog (74 : Nat)
    [AV.vec true (3 : Nat) ln ln fun (i : Nat) =>
    AV.cons (1 : Nat) (AV.sc (Value.int IntKind.i64 (lfa i)))
    (AV.cons (1 : Nat) (AV.sc (Value.int IntKind.i64 (lfba i)))
    (AV.cons (1 : Nat) (AV.sc (Value.int IntKind.i64 (lfbba i))) AV.nil))]
    []
    (AV.vec false (3 : Nat) r.fst r.fst fun (i0 : Nat) =>
    AV.cons (1 : Nat) (AV.sc (Value.int IntKind.i64 (r.snd.fst i0)))
    (AV.cons (1 : Nat) (AV.sc (Value.int IntKind.i64 (r.snd.snd.fst i0)))
    (AV.cons (1 : Nat) (AV.sc (Value.int IntKind.i64 (r.snd.snd.snd i0))) AV.nil)))
    []) ∧
    ∃ (r_1 : Nat × Int × Int × Bool × Int × Nat × (Nat → Int)),
    (True ∧
    True ∧
    Ok Proofs.Try.prog (31 : Nat) [] []
    (AV.cons (1 : Nat) (AV.rf (1000 : Nat) (1 : Nat) (0 : Nat) r_1.fst)
    (AV.cons (1 : Nat) (AV.sc (Value.int IntKind.i64 r_1.snd.fst))
    (AV.cons (1 : Nat) (AV.sc (Value.int IntKind.i64 r_1.snd.snd.fst))
    (AV.cons (1 : Nat) (AV.sc (Value.bool r_1.snd.snd.snd.fst))
    (AV.cons (1 : Nat) (AV.sc (Value.int IntKind.i64 r_1.snd.snd.snd.snd.fst)) AV.nil)))))
    [((1000 : Nat), (3 : Nat),
    AV.ar r_1.snd.snd.snd.snd.snd.fst (1 : Nat) fun (i0 : Nat) =>
    AV.sc (Value.int IntKind.i64 (r_1.snd.snd.snd.snd.snd.snd i0)))]) ∧
    ((((0 : Nat) + r_1.fst ≤ r_1.snd.snd.snd.snd.snd.fst ∧ True ∧ True ∧ True ∧ True ∧ True) ∧ True) ∧ True) ∧
    ((True ∧ True) ∧ True) ∧
    True ∧
    True ∧
    ((0 : Nat) = (0 : Nat) ∧ True) ∧
    ∃ (r_2 : Nat × Int × Int × Bool × Int × Nat × (Nat → Int)),
    (True ∧
    True ∧
    Ok Proofs.Try.prog (31 : Nat) [] []
    (AV.cons (1 : Nat) (AV.rf (1000 : Nat) (1 : Nat) (0 : Nat) r_2.fst)
    (AV.cons (1 : Nat) (AV.sc (Value.int IntKind.i64 r_2.snd.fst))
    (AV.cons (1 : Nat) (AV.sc (Value.int IntKind.i64 r_2.snd.snd.fst))
    (AV.cons (1 : Nat) (AV.sc (Value.bool r_2.snd.snd.snd.fst))
    (AV.cons (1 : Nat) (AV.sc (Value.int IntKind.i64 r_2.snd.snd.snd.snd.fst)) AV.nil)))))
    [((1000 : Nat), (3 : Nat),
    AV.ar r_2.snd.snd.snd.snd.snd.fst (1 : Nat) fun (i0 : Nat) =>
    AV.sc (Value.int IntKind.i64 (r_2.snd.snd.snd.snd.snd.snd i0)))]) ∧
    True ∧
    ((0 : Nat) = (0 : Nat) ∧ True) ∧
    True ∧
    True ∧
    True ∧
    ((True ∧
    Sub (AV.sc (Value.string text)) (AV.sc (Value.string text)) ∧
    True ∧
    Sub (AV.pt (1000 : Nat) [] (0 : Nat)) (AV.pt (1000 : Nat) [] (0 : Nat)) ∧
    True ∧
    Sub (AV.pt (1001 : Nat) [] (0 : Nat)) (AV.pt (1001 : Nat) [] (0 : Nat)) ∧
    True ∧
    Sub (AV.pt (1002 : Nat) [] (0 : Nat)) (AV.pt (1002 : Nat) [] (0 : Nat)) ∧
    True ∧
    Sub
    (AV.vec true (3 : Nat) ln ln fun (i0 : Nat) =>
    AV.cons (1 : Nat) (AV.sc (Value.int IntKind.i64 (lfa i0)))
    (AV.cons (1 : Nat) (AV.sc (Value.int IntKind.i64 (lfba i0)))
    (AV.cons (1 : Nat)
    (AV.sc (Value.int IntKind.i64 (lfbba i0))) AV.nil)))
    (AV.vec true (3 : Nat) ln ln fun (i0 : Nat) =>
    AV.cons (1 : Nat) (AV.sc (Value.int IntKind.i64 (lfa i0)))
    (AV.cons (1 : Nat) (AV.sc (Value.int IntKind.i64 (lfba i0)))
    (AV.cons (1 : Nat)
    (AV.sc (Value.int IntKind.i64 (lfbba i0))) AV.nil))) ∧
    True ∧
    Sub (AV.sc (Value.int IntKind.i64 (↑ln : Int)))
    (AV.sc (Value.int IntKind.i64 (↑ln : Int))) ∧
    True ∧
    Sub (AV.sc (Value.int IntKind.i64 (0 : Int)))
    (AV.sc (Value.int IntKind.i64 (0 : Int))) ∧
    True) ∧
    (True ∧ True ∧ True ∧ True ∧ True) ∧
    SubB
    (AV.cons (1 : Nat) (AV.sc (Value.slice none (0 : Nat) (0 : Nat)))
    (AV.cons (1 : Nat) (AV.sc (Value.slice none (0 : Nat) (0 : Nat)))
    (AV.cons (1 : Nat) (AV.sc (Value.slice none (0 : Nat) (0 : Nat)))
    (AV.cons (1 : Nat) (AV.sc (Value.slice none (0 : Nat) (0 : Nat))) AV.nil))))
    (AV.cons (1 : Nat) (AV.sc (Value.slice none (0 : Nat) (0 : Nat)))
    (AV.cons (1 : Nat) (AV.sc (Value.slice none (0 : Nat) (0 : Nat)))
    (AV.cons (1 : Nat) (AV.sc (Value.slice none (0 : Nat) (0 : Nat)))
    (AV.cons (1 : Nat) (AV.sc (Value.slice none (0 : Nat) (0 : Nat)))
    AV.nil)))) ∧
    (True ∧ True ∧ True ∧ True ∧ True) ∧
    SubB
    (AV.cons (1 : Nat)
    (AV.vec false (3 : Nat) r.fst r.fst fun (i0 : Nat) =>
    AV.cons (1 : Nat) (AV.sc (Value.int IntKind.i64 (r.snd.fst i0)))
    (AV.cons (1 : Nat) (AV.sc (Value.int IntKind.i64 (r.snd.snd.fst i0)))
    (AV.cons (1 : Nat) (AV.sc (Value.int IntKind.i64 (r.snd.snd.snd i0)))
    AV.nil)))
    (AV.cons (1 : Nat) (AV.rf (1007 : Nat) (5 : Nat) (0 : Nat) (1 : Nat))
    (AV.cons (1 : Nat) (AV.rf (1008 : Nat) (1 : Nat) (0 : Nat) (1 : Nat))
    (AV.cons (1 : Nat) (AV.rf (1009 : Nat) (3 : Nat) (0 : Nat) (0 : Nat))
    AV.nil))))
    (AV.cons (1 : Nat)
    (AV.vec false (3 : Nat) r.fst r.fst fun (i0 : Nat) =>
    AV.cons (1 : Nat) (AV.sc (Value.int IntKind.i64 (r.snd.fst i0)))
    (AV.cons (1 : Nat) (AV.sc (Value.int IntKind.i64 (r.snd.snd.fst i0)))
    (AV.cons (1 : Nat) (AV.sc (Value.int IntKind.i64 (r.snd.snd.snd i0)))
    AV.nil)))
    (AV.cons (1 : Nat) (AV.rf (1007 : Nat) (5 : Nat) (0 : Nat) (1 : Nat))
    (AV.cons (1 : Nat) (AV.rf (1008 : Nat) (1 : Nat) (0 : Nat) (1 : Nat))
    (AV.cons (1 : Nat) (AV.rf (1009 : Nat) (3 : Nat) (0 : Nat) (0 : Nat))
    AV.nil)))) ∧
    (True ∧ True ∧ True ∧ True ∧ True ∧ True) ∧
    SubB
    (AV.cons (1 : Nat) (AV.rf (1010 : Nat) (1 : Nat) (0 : Nat) r_2.fst)
    (AV.cons (1 : Nat) (AV.sc (Value.int IntKind.i64 r_2.snd.fst))
    (AV.cons (1 : Nat) (AV.sc (Value.int IntKind.i64 r_2.snd.snd.fst))
    (AV.cons (1 : Nat) (AV.sc (Value.bool r_2.snd.snd.snd.fst))
    (AV.cons (1 : Nat)
    (AV.sc (Value.int IntKind.i64 r_2.snd.snd.snd.snd.fst))
    AV.nil)))))
    (AV.cons (1 : Nat) (AV.rf (1010 : Nat) (1 : Nat) (0 : Nat) r_2.fst)
    (AV.cons (1 : Nat) (AV.sc (Value.int IntKind.i64 r_2.snd.fst))
    (AV.cons (1 : Nat) (AV.sc (Value.int IntKind.i64 r_2.snd.snd.fst))
    (AV.cons (1 : Nat) (AV.sc (Value.bool r_2.snd.snd.snd.fst))
    (AV.cons (1 : Nat)
    (AV.sc (Value.int IntKind.i64 r_2.snd.snd.snd.snd.fst))
    AV.nil))))) ∧
    True ∧
    SubB
    (AV.ar (1 : Nat) (5 : Nat) fun (x : Nat) =>
    AV.cons (1 : Nat)
    (AV.vec false (1 : Nat) r_1.fst
    (r_1.snd.snd.snd.snd.snd.fst - (0 : Nat)) fun (i : Nat) =>
    AV.sc
    (Value.int IntKind.i64
    (r_1.snd.snd.snd.snd.snd.snd (plus (0 : Nat) i))))
    (AV.cons (1 : Nat) (AV.sc (Value.int IntKind.i64 r_1.snd.fst))
    (AV.cons (1 : Nat)
    (AV.sc (Value.int IntKind.i64 r_1.snd.snd.fst))
    (AV.cons (1 : Nat) (AV.sc (Value.bool r_1.snd.snd.snd.fst))
    (AV.cons (1 : Nat)
    (AV.sc (Value.int IntKind.i64 r_1.snd.snd.snd.snd.fst))
    AV.nil)))))
    (AV.ar (1 : Nat) (5 : Nat) fun (i0 : Nat) =>
    AV.cons (1 : Nat)
    (AV.vec false (1 : Nat) r_1.fst r_1.fst fun (i1 : Nat) =>
    AV.sc
    (Value.int IntKind.i64
    (r_1.snd.snd.snd.snd.snd.snd (plus (0 : Nat) i1))))
    (AV.cons (1 : Nat) (AV.sc (Value.int IntKind.i64 r_1.snd.fst))
    (AV.cons (1 : Nat)
    (AV.sc (Value.int IntKind.i64 r_1.snd.snd.fst))
    (AV.cons (1 : Nat) (AV.sc (Value.bool r_1.snd.snd.snd.fst))
    (AV.cons (1 : Nat)
    (AV.sc (Value.int IntKind.i64 r_1.snd.snd.snd.snd.fst))
    AV.nil))))) ∧
    True ∧
    SubB
    (AV.ar (1 : Nat) (1 : Nat) fun (x : Nat) =>
    AV.sc (Value.int IntKind.i64 (0 : Int)))
    (AV.ar (1 : Nat) (1 : Nat) fun (i0 : Nat) =>
    AV.sc (Value.int IntKind.i64 (0 : Int))) ∧
    True ∧
    SubB
    (AV.ar r_2.snd.snd.snd.snd.snd.fst (1 : Nat) fun (i0 : Nat) =>
    AV.sc
    (Value.int IntKind.i64 (r_2.snd.snd.snd.snd.snd.snd i0)))
    (AV.ar r_2.snd.snd.snd.snd.snd.fst (1 : Nat) fun (i0 : Nat) =>
    AV.sc
    (Value.int IntKind.i64
    (r_2.snd.snd.snd.snd.snd.snd i0))) ∧
    True) ∧
    L41_0 text ln lfa lfba lfbba (↑ln : Int) (0 : Int) r.fst r.snd.fst r.snd.snd.fst
    r.snd.snd.snd (1 : Nat) (1 : Nat) (0 : Nat) r_2.fst r_2.snd.fst r_2.snd.snd.fst
    r_2.snd.snd.snd.fst r_2.snd.snd.snd.snd.fst (1 : Nat) (fun (x : Nat) => r_1.fst)
    (fun (x i : Nat) => r_1.snd.snd.snd.snd.snd.snd (plus (0 : Nat) i))
    (fun (x : Nat) => r_1.snd.fst) (fun (x : Nat) => r_1.snd.snd.fst)
    (fun (x : Nat) => r_1.snd.snd.snd.fst) (fun (x : Nat) => r_1.snd.snd.snd.snd.fst)
    (1 : Nat) (fun (x : Nat) => (0 : Int)) r_2.snd.snd.snd.snd.snd.fst
    r_2.snd.snd.snd.snd.snd.snd (0 : Nat) (fun (i : Nat) => Int.ofNat (0 : Nat))
    (fun (i : Nat) => Int.ofNat (0 : Nat)) (fun (i : Nat) => Int.ofNat (0 : Nat)) res)) from
    ⟨trivial, ⟨trivial, ⟨trivial, ⟨trivial, ⟨trivial, ⟨trivial, (And.elim (fun h6 k6 => ⟨(fun x7 => (fun h7 => ⟨trivial, ⟨⟨rfl, trivial⟩, ⟨trivial, ⟨⟨⟨rfl, trivial⟩, ⟨trivial, trivial⟩⟩, ⟨⟨⟨⟨⟨trivial, ⟨trivial, ⟨trivial, ⟨trivial, trivial⟩⟩⟩⟩, ⟨trivial, trivial⟩⟩, ⟨Sub.refl _, trivial⟩⟩, trivial⟩, ((fun h13 => ⟨h13, trivial⟩) h7)⟩⟩⟩⟩⟩) (h6 x7)), (fun x7 => (fun h7 => ⟨trivial, ⟨trivial, ⟨trivial, (Exists.elim h7 fun x11 h11 => ⟨x11, (And.elim (fun h12 k12 => ⟨⟨⟨trivial, ⟨trivial, trivial⟩⟩, ⟨trivial, h12⟩⟩, ⟨trivial, ⟨trivial, (And.elim (fun h15 k15 => ⟨(fun x16 => (fun h16 => ⟨trivial, ⟨⟨rfl, trivial⟩, ⟨trivial, ⟨⟨⟨rfl, trivial⟩, ⟨trivial, trivial⟩⟩, ⟨⟨⟨⟨⟨trivial, ⟨trivial, ⟨trivial, ⟨trivial, trivial⟩⟩⟩⟩, ⟨trivial, trivial⟩⟩, ⟨Sub.refl _, trivial⟩⟩, trivial⟩, ((fun h22 => ⟨h22, trivial⟩) h16)⟩⟩⟩⟩⟩) (h15 x16)), (fun x16 => (fun h16 => ⟨trivial, (Exists.elim h16 fun x18 h18 => ⟨x18, (And.elim (fun h19 k19 => ⟨⟨⟨trivial, trivial⟩, ⟨trivial, h19⟩⟩, (Exists.elim k19 fun x20 h20 => ⟨x20, (And.elim (fun h21 k21 => ⟨⟨trivial, ⟨trivial, h21⟩⟩, (And.elim (fun h22 k22 => ⟨((fun h23 => ⟨((fun h24 => ⟨((fun h25 => ⟨h25, ⟨trivial, ⟨trivial, ⟨trivial, ⟨trivial, trivial⟩⟩⟩⟩⟩) h24), trivial⟩) h23), trivial⟩) h22), ⟨⟨⟨trivial, trivial⟩, trivial⟩, ⟨trivial, ⟨trivial, ⟨⟨rfl, trivial⟩, (Exists.elim k22 fun x27 h27 => ⟨x27, (And.elim (fun h28 k28 => ⟨⟨trivial, ⟨trivial, h28⟩⟩, ⟨trivial, ⟨⟨rfl, trivial⟩, ⟨trivial, ⟨trivial, ⟨trivial, (And.elim (fun h34 k34 => ⟨⟨⟨trivial, ⟨Sub.refl _, ⟨trivial, ⟨Sub.refl _, ⟨trivial, ⟨Sub.refl _, ⟨trivial, ⟨Sub.refl _, ⟨trivial, ⟨Sub.refl _, ⟨trivial, ⟨Sub.refl _, ⟨trivial, ⟨Sub.refl _, trivial⟩⟩⟩⟩⟩⟩⟩⟩⟩⟩⟩⟩⟩⟩, ⟨⟨trivial, ⟨trivial, ⟨trivial, ⟨trivial, trivial⟩⟩⟩⟩, ⟨SubB.refl _, ⟨⟨trivial, ⟨trivial, ⟨trivial, ⟨trivial, trivial⟩⟩⟩⟩, ⟨SubB.refl _, ⟨⟨trivial, ⟨trivial, ⟨trivial, ⟨trivial, ⟨trivial, trivial⟩⟩⟩⟩⟩, ⟨SubB.refl _, ⟨trivial, ((fun h43 => ⟨h43, ⟨trivial, ⟨SubB.refl _, ⟨trivial, ⟨SubB.refl _, trivial⟩⟩⟩⟩⟩) h34)⟩⟩⟩⟩⟩⟩⟩⟩, k34⟩) k28)⟩⟩⟩⟩⟩⟩) h27)⟩)⟩⟩⟩⟩⟩) k21)⟩) h20)⟩)⟩) h18)⟩)⟩) (k15 x16))⟩) k12)⟩⟩⟩) h11)⟩)⟩⟩⟩) (k6 x7))⟩) h)⟩⟩⟩⟩⟩⟩)
theorem r41_0 (text : ByteArray) (t31n : Nat) (t31fa : Nat → Int) (t31fba : Nat → Int) (t31fbba : Nat → Int) (t32 : Int) (t33 : Int) (b1an : Nat) (b1afa : Nat → Int) (b1afba : Nat → Int) (b1afbba : Nat → Int) (b1ban : Nat) (b1bban : Nat) (b1bbban : Nat) (b2an : Nat) (b2ba : Int) (b2bba : Int) (b2bbba : Bool) (b2bbbba : Int) (b7n : Nat) (b7fan : Nat → Nat) (b7faf : Nat → Nat → Int) (b7fba : Nat → Int) (b7fbba : Nat → Int) (b7fbbba : Nat → Bool) (b7fbbbba : Nat → Int) (b8n : Nat) (b8f : Nat → Int) (b10n : Nat) (b10f : Nat → Int) (b9n : Nat) (b9fa : Nat → Int) (b9fba : Nat → Int) (b9fbba : Nat → Int) (res : AV)
    (h : (decide (t33 < t32) = true →
    ((0 : Int) ≤ t33 ∧ t33 < (↑t31n : Int)) ∧
    ((0 : Int) ≤ (0 : Int) ∧ (0 : Int) ≤ t31fba t33.toNat ∧ t31fba t33.toNat ≤ (↑text.size : Int)) ∧
    ∃ (r : Nat × Int × Int × Bool × Int × Nat × Nat × (Nat → Int) × Nat × (Nat → Int) × (Nat → Int) × (Nat → Int)),
    ((0 : Nat) + b2an ≤ b10n ∧
    Ok Proofs.Try.prog (75 : Nat)
    [AV.cons (1 : Nat) (AV.vec true (1 : Nat) b2an (b10n - (0 : Nat)) fun (i : Nat) => AV.sc (Value.int IntKind.i64 (b10f (plus (0 : Nat) i))))
    (AV.cons (1 : Nat) (AV.sc (Value.int IntKind.i64 b2ba))
    (AV.cons (1 : Nat) (AV.sc (Value.int IntKind.i64 b2bba))
    (AV.cons (1 : Nat) (AV.sc (Value.bool b2bbba)) (AV.cons (1 : Nat) (AV.sc (Value.int IntKind.i64 b2bbbba)) AV.nil)))),
    AV.sc (Value.string (text.extract (Int.toNat (0 : Int)) (t31fba t33.toNat).toNat)),
    AV.cons (1 : Nat) (AV.sc (Value.int IntKind.i64 (t31fa t33.toNat)))
    (AV.cons (1 : Nat) (AV.sc (Value.int IntKind.i64 (t31fba t33.toNat)))
    (AV.cons (1 : Nat) (AV.sc (Value.int IntKind.i64 (t31fbba t33.toNat))) AV.nil))]
    []
    (AV.cons (5 : Nat)
    (AV.cons (1 : Nat) (AV.rf (1000 : Nat) (1 : Nat) (0 : Nat) r.fst)
    (AV.cons (1 : Nat) (AV.sc (Value.int IntKind.i64 r.snd.fst))
    (AV.cons (1 : Nat) (AV.sc (Value.int IntKind.i64 r.snd.snd.fst))
    (AV.cons (1 : Nat) (AV.sc (Value.bool r.snd.snd.snd.fst))
    (AV.cons (1 : Nat) (AV.sc (Value.int IntKind.i64 r.snd.snd.snd.snd.fst)) AV.nil)))))
    (AV.cons (1 : Nat) (AV.rf (1001 : Nat) (3 : Nat) (0 : Nat) r.snd.snd.snd.snd.snd.fst) AV.nil)).tup
    [((1000 : Nat), (3 : Nat),
    AV.ar r.snd.snd.snd.snd.snd.snd.fst (1 : Nat) fun (i0 : Nat) => AV.sc (Value.int IntKind.i64 (r.snd.snd.snd.snd.snd.snd.snd.fst i0))),
    ((1001 : Nat), (81 : Nat),
    AV.ar r.snd.snd.snd.snd.snd.snd.snd.snd.fst (3 : Nat) fun (i0 : Nat) =>
    AV.cons (1 : Nat) (AV.sc (Value.int IntKind.i64 (r.snd.snd.snd.snd.snd.snd.snd.snd.snd.fst i0)))
    (AV.cons (1 : Nat) (AV.sc (Value.int IntKind.i64 (r.snd.snd.snd.snd.snd.snd.snd.snd.snd.snd.fst i0)))
    (AV.cons (1 : Nat) (AV.sc (Value.int IntKind.i64 (r.snd.snd.snd.snd.snd.snd.snd.snd.snd.snd.snd i0))) AV.nil)))]) ∧
    ((0 : Int) ≤ t31fba t33.toNat ∧ t31fba t33.toNat ≤ (↑text.size : Int) ∧ (↑text.size : Int) ≤ (↑text.size : Int)) ∧
    (b1bbban ≤ b9n ∧
    (0 : Nat) + r.snd.snd.snd.snd.snd.fst ≤ r.snd.snd.snd.snd.snd.snd.snd.snd.fst ∧
    (b1bbban + r.snd.snd.snd.snd.snd.fst) * (24 : Nat) ≤ (140737488355328 : Nat) ∧ b1bbban + r.snd.snd.snd.snd.snd.fst ≤ maxLen) ∧
    (b1bban ≤ b8n ∧ (0 : Nat) + (1 : Nat) ≤ (1 : Nat) ∧ (b1bban + (1 : Nat)) * (8 : Nat) ≤ (140737488355328 : Nat) ∧ b1bban + (1 : Nat) ≤ maxLen) ∧
    ∃ (r_1 : Nat × Nat × (Nat → Int)),
    ((0 : Nat) + r.fst ≤ r.snd.snd.snd.snd.snd.snd.fst ∧
    Ok Proofs.Try.prog (76 : Nat)
    [AV.vec true (1 : Nat) r.fst (r.snd.snd.snd.snd.snd.snd.fst - (0 : Nat)) fun (i : Nat) =>
    AV.sc (Value.int IntKind.i64 (r.snd.snd.snd.snd.snd.snd.snd.fst (plus (0 : Nat) i)))]
    [] (AV.rf (1000 : Nat) (1 : Nat) (0 : Nat) r_1.fst)
    [((1000 : Nat), (3 : Nat), AV.ar r_1.snd.fst (1 : Nat) fun (i0 : Nat) => AV.sc (Value.int IntKind.i64 (r_1.snd.snd i0)))]) ∧
    (0 : Nat) + r_1.fst ≤ r_1.snd.fst ∧
    (b1ban ≤ b7n ∧
    (0 : Nat) + (1 : Nat) ≤ (1 : Nat) ∧ (b1ban + (1 : Nat)) * (56 : Nat) ≤ (140737488355328 : Nat) ∧ b1ban + (1 : Nat) ≤ maxLen) ∧
    SubB
    (AV.ar (b1ban + (1 : Nat)) (5 : Nat) fun (i : Nat) =>
    AV.cons (1 : Nat)
    (AV.vec false (1 : Nat) (bif i.blt b1ban then b7fan i else r_1.fst)
    (bif i.blt b1ban then b7fan i else r_1.snd.fst - (0 : Nat)) fun (i_1 : Nat) =>
    AV.sc (Value.int IntKind.i64 (bif i.blt b1ban then b7faf i i_1 else r_1.snd.snd (plus (0 : Nat) i_1))))
    (AV.cons (1 : Nat) (AV.sc (Value.int IntKind.i64 (bif i.blt b1ban then b7fba i else r.snd.fst)))
    (AV.cons (1 : Nat) (AV.sc (Value.int IntKind.i64 (bif i.blt b1ban then b7fbba i else r.snd.snd.fst)))
    (AV.cons (1 : Nat) (AV.sc (Value.bool (bif i.blt b1ban then b7fbbba i else r.snd.snd.snd.fst)))
    (AV.cons (1 : Nat) (AV.sc (Value.int IntKind.i64 (bif i.blt b1ban then b7fbbbba i else r.snd.snd.snd.snd.fst)))
    AV.nil)))))
    (AV.ar (b1ban + (1 : Nat)) (5 : Nat) fun (i0 : Nat) =>
    AV.cons (1 : Nat)
    (AV.vec false (1 : Nat) (bif i0.blt b1ban then b7fan i0 else r_1.fst) (bif i0.blt b1ban then b7fan i0 else r_1.fst)
    fun (i1 : Nat) => AV.sc (Value.int IntKind.i64 (bif i0.blt b1ban then b7faf i0 i1 else r_1.snd.snd (plus (0 : Nat) i1))))
    (AV.cons (1 : Nat) (AV.sc (Value.int IntKind.i64 (bif i0.blt b1ban then b7fba i0 else r.snd.fst)))
    (AV.cons (1 : Nat) (AV.sc (Value.int IntKind.i64 (bif i0.blt b1ban then b7fbba i0 else r.snd.snd.fst)))
    (AV.cons (1 : Nat) (AV.sc (Value.bool (bif i0.blt b1ban then b7fbbba i0 else r.snd.snd.snd.fst)))
    (AV.cons (1 : Nat) (AV.sc (Value.int IntKind.i64 (bif i0.blt b1ban then b7fbbbba i0 else r.snd.snd.snd.snd.fst)))
    AV.nil))))) ∧
    L41_0 (text.extract (t31fba t33.toNat).toNat (↑text.size : Int).toNat) t31n t31fa t31fba t31fbba t32
    (IntKind.i64.wrap (t33 + (1 : Int))) b1an b1afa b1afba b1afbba (b1ban + (1 : Nat)) (b1bban + (1 : Nat))
    (b1bbban + r.snd.snd.snd.snd.snd.fst) r.fst r.snd.fst r.snd.snd.fst r.snd.snd.snd.fst r.snd.snd.snd.snd.fst (b1ban + (1 : Nat))
    (fun (i : Nat) => bif i.blt b1ban then b7fan i else r_1.fst)
    (fun (i i_1 : Nat) => bif i.blt b1ban then b7faf i i_1 else r_1.snd.snd (plus (0 : Nat) i_1))
    (fun (i : Nat) => bif i.blt b1ban then b7fba i else r.snd.fst) (fun (i : Nat) => bif i.blt b1ban then b7fbba i else r.snd.snd.fst)
    (fun (i : Nat) => bif i.blt b1ban then b7fbbba i else r.snd.snd.snd.fst)
    (fun (i : Nat) => bif i.blt b1ban then b7fbbbba i else r.snd.snd.snd.snd.fst) (b1bban + (1 : Nat))
    (fun (i : Nat) => bif i.blt b1bban then b8f i else (↑(b1bbban + r.snd.snd.snd.snd.snd.fst) : Int)) r.snd.snd.snd.snd.snd.snd.fst
    r.snd.snd.snd.snd.snd.snd.snd.fst (b1bbban + r.snd.snd.snd.snd.snd.fst)
    (fun (i : Nat) => bif i.blt b1bbban then b9fa i else r.snd.snd.snd.snd.snd.snd.snd.snd.snd.fst ((0 : Nat) + (i - b1bbban)))
    (fun (i : Nat) => bif i.blt b1bbban then b9fba i else r.snd.snd.snd.snd.snd.snd.snd.snd.snd.snd.fst ((0 : Nat) + (i - b1bbban)))
    (fun (i : Nat) => bif i.blt b1bbban then b9fbba i else r.snd.snd.snd.snd.snd.snd.snd.snd.snd.snd.snd ((0 : Nat) + (i - b1bbban)))
    res) ∧
  (decide (t33 < t32) = false →
    ∃ (r : Nat × (Nat → Int) × (Nat → Int) × (Nat → Int)),
    ((0 : Nat) + b2an ≤ b10n ∧
    Ok Proofs.Try.prog (36 : Nat)
    [AV.cons (1 : Nat) (AV.vec true (1 : Nat) b2an (b10n - (0 : Nat)) fun (i : Nat) => AV.sc (Value.int IntKind.i64 (b10f (plus (0 : Nat) i))))
    (AV.cons (1 : Nat) (AV.sc (Value.int IntKind.i64 b2ba))
    (AV.cons (1 : Nat) (AV.sc (Value.int IntKind.i64 b2bba))
    (AV.cons (1 : Nat) (AV.sc (Value.bool b2bbba)) (AV.cons (1 : Nat) (AV.sc (Value.int IntKind.i64 b2bbbba)) AV.nil))))]
    []
    (AV.vec false (3 : Nat) r.fst r.fst fun (i0 : Nat) =>
    AV.cons (1 : Nat) (AV.sc (Value.int IntKind.i64 (r.snd.fst i0)))
    (AV.cons (1 : Nat) (AV.sc (Value.int IntKind.i64 (r.snd.snd.fst i0)))
    (AV.cons (1 : Nat) (AV.sc (Value.int IntKind.i64 (r.snd.snd.snd i0))) AV.nil)))
    []) ∧
    (b1bbban ≤ b9n ∧ (b1bbban + r.fst) * (24 : Nat) ≤ (140737488355328 : Nat) ∧ b1bbban + r.fst ≤ maxLen) ∧
    (((0 : Nat) + b1ban ≤ b7n ∧ (0 : Nat) + b1bban ≤ b8n ∧ (0 : Nat) + (b1bbban + r.fst) ≤ b1bbban + r.fst) ∧
    Sub
    (AV.cons (1 : Nat)
    (AV.cons (1 : Nat)
    (AV.vec false (3 : Nat) b1an b1an fun (i0 : Nat) =>
    AV.cons (1 : Nat) (AV.sc (Value.int IntKind.i64 (b1afa i0)))
    (AV.cons (1 : Nat) (AV.sc (Value.int IntKind.i64 (b1afba i0)))
    (AV.cons (1 : Nat) (AV.sc (Value.int IntKind.i64 (b1afbba i0))) AV.nil)))
    (AV.cons (1 : Nat)
    (AV.vec false (5 : Nat) b1ban (b7n - (0 : Nat)) fun (i : Nat) =>
    AV.cons (1 : Nat)
    (AV.vec false (1 : Nat) (b7fan (plus (0 : Nat) i)) (b7fan (plus (0 : Nat) i)) fun (i1 : Nat) =>
    AV.sc (Value.int IntKind.i64 (b7faf (plus (0 : Nat) i) i1)))
    (AV.cons (1 : Nat) (AV.sc (Value.int IntKind.i64 (b7fba (plus (0 : Nat) i))))
    (AV.cons (1 : Nat) (AV.sc (Value.int IntKind.i64 (b7fbba (plus (0 : Nat) i))))
    (AV.cons (1 : Nat) (AV.sc (Value.bool (b7fbbba (plus (0 : Nat) i))))
    (AV.cons (1 : Nat) (AV.sc (Value.int IntKind.i64 (b7fbbbba (plus (0 : Nat) i)))) AV.nil)))))
    (AV.cons (1 : Nat)
    (AV.vec false (1 : Nat) b1bban (b8n - (0 : Nat)) fun (i : Nat) => AV.sc (Value.int IntKind.i64 (b8f (plus (0 : Nat) i))))
    (AV.cons (1 : Nat)
    (AV.vec false (3 : Nat) (b1bbban + r.fst) (b1bbban + r.fst - (0 : Nat)) fun (i : Nat) =>
    AV.cons (1 : Nat)
    (AV.sc
    (Value.int IntKind.i64
    (bif (plus (0 : Nat) i).blt b1bbban then b9fa (plus (0 : Nat) i) else r.snd.fst (plus (0 : Nat) i - b1bbban))))
    (AV.cons (1 : Nat)
    (AV.sc
    (Value.int IntKind.i64
    (bif (plus (0 : Nat) i).blt b1bbban then b9fba (plus (0 : Nat) i) else r.snd.snd.fst (plus (0 : Nat) i - b1bbban))))
    (AV.cons (1 : Nat)
    (AV.sc
    (Value.int IntKind.i64
    (bif (plus (0 : Nat) i).blt b1bbban then b9fbba (plus (0 : Nat) i) else r.snd.snd.snd (plus (0 : Nat) i - b1bbban))))
    AV.nil)))
    AV.nil))))
    (AV.cons (1 : Nat) (AV.sc (Value.int IntKind.i64 (0 : Int))) AV.nil)).tup
    (AV.cons (1 : Nat)
    (AV.cons (1 : Nat)
    (AV.vec false (3 : Nat) b1an b1an fun (i0 : Nat) =>
    AV.cons (1 : Nat) (AV.sc (Value.int IntKind.i64 (b1afa i0)))
    (AV.cons (1 : Nat) (AV.sc (Value.int IntKind.i64 (b1afba i0)))
    (AV.cons (1 : Nat) (AV.sc (Value.int IntKind.i64 (b1afbba i0))) AV.nil)))
    (AV.cons (1 : Nat)
    (AV.vec false (5 : Nat) b1ban b1ban fun (i : Nat) =>
    AV.cons (1 : Nat)
    (AV.vec false (1 : Nat) (b7fan (plus (0 : Nat) i)) (b7fan (plus (0 : Nat) i)) fun (i1 : Nat) =>
    AV.sc (Value.int IntKind.i64 (b7faf (plus (0 : Nat) i) i1)))
    (AV.cons (1 : Nat) (AV.sc (Value.int IntKind.i64 (b7fba (plus (0 : Nat) i))))
    (AV.cons (1 : Nat) (AV.sc (Value.int IntKind.i64 (b7fbba (plus (0 : Nat) i))))
    (AV.cons (1 : Nat) (AV.sc (Value.bool (b7fbbba (plus (0 : Nat) i))))
    (AV.cons (1 : Nat) (AV.sc (Value.int IntKind.i64 (b7fbbbba (plus (0 : Nat) i)))) AV.nil)))))
    (AV.cons (1 : Nat) (AV.vec false (1 : Nat) b1bban b1bban fun (i : Nat) => AV.sc (Value.int IntKind.i64 (b8f (plus (0 : Nat) i))))
    (AV.cons (1 : Nat)
    (AV.vec false (3 : Nat) (b1bbban + r.fst) (b1bbban + r.fst) fun (i : Nat) =>
    AV.cons (1 : Nat)
    (AV.sc
    (Value.int IntKind.i64
    (bif (plus (0 : Nat) i).blt b1bbban then b9fa (plus (0 : Nat) i) else r.snd.fst (plus (0 : Nat) i - b1bbban))))
    (AV.cons (1 : Nat)
    (AV.sc
    (Value.int IntKind.i64
    (bif (plus (0 : Nat) i).blt b1bbban then b9fba (plus (0 : Nat) i) else r.snd.snd.fst (plus (0 : Nat) i - b1bbban))))
    (AV.cons (1 : Nat)
    (AV.sc
    (Value.int IntKind.i64
    (bif (plus (0 : Nat) i).blt b1bbban then b9fbba (plus (0 : Nat) i) else r.snd.snd.snd (plus (0 : Nat) i - b1bbban))))
    AV.nil)))
    AV.nil))))
    (AV.cons (1 : Nat) (AV.sc (Value.int IntKind.i64 (0 : Int))) AV.nil)).tup) ∧
    Sub
    (AV.cons (1 : Nat)
    (AV.cons (1 : Nat)
    (AV.vec false (3 : Nat) b1an b1an fun (i0 : Nat) =>
    AV.cons (1 : Nat) (AV.sc (Value.int IntKind.i64 (b1afa i0)))
    (AV.cons (1 : Nat) (AV.sc (Value.int IntKind.i64 (b1afba i0))) (AV.cons (1 : Nat) (AV.sc (Value.int IntKind.i64 (b1afbba i0))) AV.nil)))
    (AV.cons (1 : Nat)
    (AV.vec false (5 : Nat) b1ban b1ban fun (i : Nat) =>
    AV.cons (1 : Nat)
    (AV.vec false (1 : Nat) (b7fan (plus (0 : Nat) i)) (b7fan (plus (0 : Nat) i)) fun (i1 : Nat) =>
    AV.sc (Value.int IntKind.i64 (b7faf (plus (0 : Nat) i) i1)))
    (AV.cons (1 : Nat) (AV.sc (Value.int IntKind.i64 (b7fba (plus (0 : Nat) i))))
    (AV.cons (1 : Nat) (AV.sc (Value.int IntKind.i64 (b7fbba (plus (0 : Nat) i))))
    (AV.cons (1 : Nat) (AV.sc (Value.bool (b7fbbba (plus (0 : Nat) i))))
    (AV.cons (1 : Nat) (AV.sc (Value.int IntKind.i64 (b7fbbbba (plus (0 : Nat) i)))) AV.nil)))))
    (AV.cons (1 : Nat) (AV.vec false (1 : Nat) b1bban b1bban fun (i : Nat) => AV.sc (Value.int IntKind.i64 (b8f (plus (0 : Nat) i))))
    (AV.cons (1 : Nat)
    (AV.vec false (3 : Nat) (b1bbban + r.fst) (b1bbban + r.fst) fun (i : Nat) =>
    AV.cons (1 : Nat)
    (AV.sc
    (Value.int IntKind.i64
    (bif (plus (0 : Nat) i).blt b1bbban then b9fa (plus (0 : Nat) i) else r.snd.fst (plus (0 : Nat) i - b1bbban))))
    (AV.cons (1 : Nat)
    (AV.sc
    (Value.int IntKind.i64
    (bif (plus (0 : Nat) i).blt b1bbban then b9fba (plus (0 : Nat) i) else r.snd.snd.fst (plus (0 : Nat) i - b1bbban))))
    (AV.cons (1 : Nat)
    (AV.sc
    (Value.int IntKind.i64
    (bif (plus (0 : Nat) i).blt b1bbban then b9fbba (plus (0 : Nat) i) else r.snd.snd.snd (plus (0 : Nat) i - b1bbban))))
    AV.nil)))
    AV.nil))))
    (AV.cons (1 : Nat) (AV.sc (Value.int IntKind.i64 (0 : Int))) AV.nil)).tup
    res)) :
    L41_0 text t31n t31fa t31fba t31fbba t32 t33 b1an b1afa b1afba b1afbba b1ban b1bban b1bbban b2an b2ba b2bba b2bbba b2bbbba b7n b7fan b7faf b7fba b7fbba b7fbbba b7fbbbba b8n b8f b10n b10f b9n b9fa b9fba b9fbba res :=
  rule Go.Am.Seat.tabOk 41 [] Go.Proofs.Try.f41 hf41 [1, 1, 1, 1, 0, 1, 0, 0] (s41_0 text t31n t31fa t31fba t31fbba t32 t33 b1an b1afa b1afba b1afbba b1ban b1bban b1bbban b2an b2ba b2bba b2bbba b2bbbba b7n b7fan b7faf b7fba b7fbba b7fbbba b7fbbbba b8n b8f b10n b10f b9n b9fa b9fba b9fbba) (m41_0 text t31n t31fa t31fba t31fbba t32 t33 b1an b1afa b1afba b1afbba b1ban b1bban b1bbban b2an b2ba b2bba b2bbba b2bbbba b7n b7fan b7faf b7fba b7fbba b7fbbba b7fbbbba b8n b8f b10n b10f b9n b9fa b9fba b9fbba) res [] 400
    ((Orc.call [] [((100440 : Nat), (1000 : Nat)), ((100441 : Nat), (1001 : Nat))]
    (fun (r75 : Nat × Int × Int × Bool × Int × Nat × Nat × (Nat → Int) × Nat × (Nat → Int) × (Nat → Int) × (Nat → Int)) =>
    (AV.cons (5 : Nat)
    (AV.cons (1 : Nat) (AV.rf (1000 : Nat) (1 : Nat) (0 : Nat) r75.fst)
    (AV.cons (1 : Nat) (AV.sc (Value.int IntKind.i64 r75.snd.fst))
    (AV.cons (1 : Nat) (AV.sc (Value.int IntKind.i64 r75.snd.snd.fst))
    (AV.cons (1 : Nat) (AV.sc (Value.bool r75.snd.snd.snd.fst))
    (AV.cons (1 : Nat) (AV.sc (Value.int IntKind.i64 r75.snd.snd.snd.snd.fst)) AV.nil)))))
    (AV.cons (1 : Nat) (AV.rf (1001 : Nat) (3 : Nat) (0 : Nat) r75.snd.snd.snd.snd.snd.fst) AV.nil)).tup)
    (fun (r75 : Nat × Int × Int × Bool × Int × Nat × Nat × (Nat → Int) × Nat × (Nat → Int) × (Nat → Int) × (Nat → Int)) =>
    [((1000 : Nat), (3 : Nat),
    AV.ar r75.snd.snd.snd.snd.snd.snd.fst (1 : Nat) fun (i0 : Nat) => AV.sc (Value.int IntKind.i64 (r75.snd.snd.snd.snd.snd.snd.snd.fst i0))),
    ((1001 : Nat), (81 : Nat),
    AV.ar r75.snd.snd.snd.snd.snd.snd.snd.snd.fst (3 : Nat) fun (i0 : Nat) =>
    AV.cons (1 : Nat) (AV.sc (Value.int IntKind.i64 (r75.snd.snd.snd.snd.snd.snd.snd.snd.snd.fst i0)))
    (AV.cons (1 : Nat) (AV.sc (Value.int IntKind.i64 (r75.snd.snd.snd.snd.snd.snd.snd.snd.snd.snd.fst i0)))
    (AV.cons (1 : Nat) (AV.sc (Value.int IntKind.i64 (r75.snd.snd.snd.snd.snd.snd.snd.snd.snd.snd.snd i0))) AV.nil)))])
    fun (r75 : Nat × Int × Int × Bool × Int × Nat × Nat × (Nat → Int) × Nat × (Nat → Int) × (Nat → Int) × (Nat → Int)) =>
    Orc.call [] [((100670 : Nat), (1000 : Nat))] (fun (r76 : Nat × Nat × (Nat → Int)) => AV.rf (1000 : Nat) (1 : Nat) (0 : Nat) r76.fst)
    (fun (r76 : Nat × Nat × (Nat → Int)) =>
    [((1000 : Nat), (3 : Nat), AV.ar r76.snd.fst (1 : Nat) fun (i0 : Nat) => AV.sc (Value.int IntKind.i64 (r76.snd.snd i0)))])
    fun (r76 : Nat × Nat × (Nat → Int)) =>
    Orc.cut (nat_lit 4)
    (s41_0 (text.extract (IntKind.i64, t31fba t33.toNat).snd.toNat (↑text.size : Int).toNat) t31n t31fa t31fba t31fbba t32
    (IntKind.i64.wrap (t33 + (1 : Int))) b1an b1afa b1afba b1afbba (b1ban + (1 : Nat)) (b1bban + (1 : Nat)) (b1bbban + r75.snd.snd.snd.snd.snd.fst)
    r75.fst r75.snd.fst r75.snd.snd.fst r75.snd.snd.snd.fst r75.snd.snd.snd.snd.fst (b1ban + (1 : Nat))
    (fun (i : Nat) => bif i.blt b1ban then b7fan i else r76.fst)
    (fun (i i_1 : Nat) => bif i.blt b1ban then b7faf i i_1 else r76.snd.snd (plus (0 : Nat) i_1))
    (fun (i : Nat) => bif i.blt b1ban then b7fba i else r75.snd.fst) (fun (i : Nat) => bif i.blt b1ban then b7fbba i else r75.snd.snd.fst)
    (fun (i : Nat) => bif i.blt b1ban then b7fbbba i else r75.snd.snd.snd.fst)
    (fun (i : Nat) => bif i.blt b1ban then b7fbbbba i else r75.snd.snd.snd.snd.fst) (b1bban + (1 : Nat))
    (fun (i : Nat) => bif i.blt b1bban then b8f i else (↑(b1bbban + r75.snd.snd.snd.snd.snd.fst) : Int)) r75.snd.snd.snd.snd.snd.snd.fst
    r75.snd.snd.snd.snd.snd.snd.snd.fst (b1bbban + r75.snd.snd.snd.snd.snd.fst)
    (fun (i : Nat) => bif i.blt b1bbban then b9fa i else r75.snd.snd.snd.snd.snd.snd.snd.snd.snd.fst ((0 : Nat) + (i - b1bbban)))
    (fun (i : Nat) => bif i.blt b1bbban then b9fba i else r75.snd.snd.snd.snd.snd.snd.snd.snd.snd.snd.fst ((0 : Nat) + (i - b1bbban))) fun (i : Nat) =>
    bif i.blt b1bbban then b9fbba i else r75.snd.snd.snd.snd.snd.snd.snd.snd.snd.snd.snd ((0 : Nat) + (i - b1bbban)))
    (m41_0 (text.extract (IntKind.i64, t31fba t33.toNat).snd.toNat (↑text.size : Int).toNat) t31n t31fa t31fba t31fbba t32
    (IntKind.i64.wrap (t33 + (1 : Int))) b1an b1afa b1afba b1afbba (b1ban + (1 : Nat)) (b1bban + (1 : Nat)) (b1bbban + r75.snd.snd.snd.snd.snd.fst)
    r75.fst r75.snd.fst r75.snd.snd.fst r75.snd.snd.snd.fst r75.snd.snd.snd.snd.fst (b1ban + (1 : Nat))
    (fun (i : Nat) => bif i.blt b1ban then b7fan i else r76.fst)
    (fun (i i_1 : Nat) => bif i.blt b1ban then b7faf i i_1 else r76.snd.snd (plus (0 : Nat) i_1))
    (fun (i : Nat) => bif i.blt b1ban then b7fba i else r75.snd.fst) (fun (i : Nat) => bif i.blt b1ban then b7fbba i else r75.snd.snd.fst)
    (fun (i : Nat) => bif i.blt b1ban then b7fbbba i else r75.snd.snd.snd.fst)
    (fun (i : Nat) => bif i.blt b1ban then b7fbbbba i else r75.snd.snd.snd.snd.fst) (b1bban + (1 : Nat))
    (fun (i : Nat) => bif i.blt b1bban then b8f i else (↑(b1bbban + r75.snd.snd.snd.snd.snd.fst) : Int)) r75.snd.snd.snd.snd.snd.snd.fst
    r75.snd.snd.snd.snd.snd.snd.snd.fst (b1bbban + r75.snd.snd.snd.snd.snd.fst)
    (fun (i : Nat) => bif i.blt b1bbban then b9fa i else r75.snd.snd.snd.snd.snd.snd.snd.snd.snd.fst ((0 : Nat) + (i - b1bbban)))
    (fun (i : Nat) => bif i.blt b1bbban then b9fba i else r75.snd.snd.snd.snd.snd.snd.snd.snd.snd.snd.fst ((0 : Nat) + (i - b1bbban))) fun (i : Nat) =>
    bif i.blt b1bbban then b9fbba i else r75.snd.snd.snd.snd.snd.snd.snd.snd.snd.snd.snd ((0 : Nat) + (i - b1bbban)))
    [((1000 : Nat), some (1000 : Nat)), ((1001 : Nat), some (1001 : Nat)), ((1002 : Nat), some (1002 : Nat)), ((1007 : Nat), some (73 : Nat)),
    ((1008 : Nat), some (62 : Nat)), ((1010 : Nat), some (100440 : Nat)), ((1009 : Nat), some (54 : Nat))]).br
  (Orc.call [] []
    (fun (r36 : Nat × (Nat → Int) × (Nat → Int) × (Nat → Int)) =>
    AV.vec false (3 : Nat) r36.fst r36.fst fun (i0 : Nat) =>
    AV.cons (1 : Nat) (AV.sc (Value.int IntKind.i64 (r36.snd.fst i0)))
    (AV.cons (1 : Nat) (AV.sc (Value.int IntKind.i64 (r36.snd.snd.fst i0)))
    (AV.cons (1 : Nat) (AV.sc (Value.int IntKind.i64 (r36.snd.snd.snd i0))) AV.nil)))
    (fun (r36 : Nat × (Nat → Int) × (Nat → Int) × (Nat → Int)) => []) fun (r36 : Nat × (Nat → Int) × (Nat → Int) × (Nat → Int)) =>
    Orc.fin
    (AV.cons (1 : Nat)
    (AV.cons (1 : Nat)
    (AV.vec false (3 : Nat) b1an b1an fun (i0 : Nat) =>
    AV.cons (1 : Nat) (AV.sc (Value.int IntKind.i64 (b1afa i0)))
    (AV.cons (1 : Nat) (AV.sc (Value.int IntKind.i64 (b1afba i0))) (AV.cons (1 : Nat) (AV.sc (Value.int IntKind.i64 (b1afbba i0))) AV.nil)))
    (AV.cons (1 : Nat)
    (AV.vec false (5 : Nat) b1ban b1ban fun (i : Nat) =>
    AV.cons (1 : Nat)
    (AV.vec false (1 : Nat) (b7fan (plus (0 : Nat) i)) (b7fan (plus (0 : Nat) i)) fun (i1 : Nat) =>
    AV.sc (Value.int IntKind.i64 (b7faf (plus (0 : Nat) i) i1)))
    (AV.cons (1 : Nat) (AV.sc (Value.int IntKind.i64 (b7fba (plus (0 : Nat) i))))
    (AV.cons (1 : Nat) (AV.sc (Value.int IntKind.i64 (b7fbba (plus (0 : Nat) i))))
    (AV.cons (1 : Nat) (AV.sc (Value.bool (b7fbbba (plus (0 : Nat) i))))
    (AV.cons (1 : Nat) (AV.sc (Value.int IntKind.i64 (b7fbbbba (plus (0 : Nat) i)))) AV.nil)))))
    (AV.cons (1 : Nat) (AV.vec false (1 : Nat) b1bban b1bban fun (i : Nat) => AV.sc (Value.int IntKind.i64 (b8f (plus (0 : Nat) i))))
    (AV.cons (1 : Nat)
    (AV.vec false (3 : Nat) (b1bbban + r36.fst) (b1bbban + r36.fst) fun (i : Nat) =>
    AV.cons (1 : Nat)
    (AV.sc
    (Value.int IntKind.i64 (bif (plus (0 : Nat) i).blt b1bbban then b9fa (plus (0 : Nat) i) else r36.snd.fst (plus (0 : Nat) i - b1bbban))))
    (AV.cons (1 : Nat)
    (AV.sc
    (Value.int IntKind.i64
    (bif (plus (0 : Nat) i).blt b1bbban then b9fba (plus (0 : Nat) i) else r36.snd.snd.fst (plus (0 : Nat) i - b1bbban))))
    (AV.cons (1 : Nat)
    (AV.sc
    (Value.int IntKind.i64
    (bif (plus (0 : Nat) i).blt b1bbban then b9fbba (plus (0 : Nat) i) else r36.snd.snd.snd (plus (0 : Nat) i - b1bbban))))
    AV.nil)))
    AV.nil))))
    (AV.cons (1 : Nat) (AV.sc (Value.int IntKind.i64 (0 : Int))) AV.nil)).tup
    [] [])) _ _ (by kernel_rfl) (by kernel_rfl) (show True ∧
  (decide (t33 < t32) = true →
    ((0 : Int) ≤ t33 ∧ t33 < (↑t31n : Int)) ∧
    True ∧
    True ∧
    ((0 : Nat) = (0 : Nat) ∧ True) ∧
    True ∧
    ((0 : Nat) = (0 : Nat) ∧ True) ∧
    True ∧
    True ∧
    ((1 : Nat) + (0 : Nat) = plus (0 : Nat) (1 : Nat) ∧ True) ∧
    ((0 : Int) ≤ (0 : Int) ∧ (0 : Int) ≤ t31fba t33.toNat ∧ t31fba t33.toNat ≤ (↑text.size : Int)) ∧
    ((0 : Nat) = (0 : Nat) ∧ True) ∧
    ∃ (r : Nat × Int × Int × Bool × Int × Nat × Nat × (Nat → Int) × Nat × (Nat → Int) × (Nat → Int) × (Nat → Int)),
    ((((0 : Nat) + b2an ≤ b10n ∧ True ∧ True ∧ True ∧ True ∧ True) ∧ True ∧ (True ∧ True ∧ True ∧ True) ∧ True) ∧
    True ∧
    Ok Proofs.Try.prog (75 : Nat)
    [AV.cons (1 : Nat)
    (AV.vec true (1 : Nat) b2an (b10n - (0 : Nat)) fun (i : Nat) =>
    AV.sc (Value.int IntKind.i64 (b10f (plus (0 : Nat) i))))
    (AV.cons (1 : Nat) (AV.sc (Value.int IntKind.i64 b2ba))
    (AV.cons (1 : Nat) (AV.sc (Value.int IntKind.i64 b2bba))
    (AV.cons (1 : Nat) (AV.sc (Value.bool b2bbba))
    (AV.cons (1 : Nat) (AV.sc (Value.int IntKind.i64 b2bbbba)) AV.nil)))),
    AV.sc (Value.string (text.extract (Int.toNat (0 : Int)) (t31fba t33.toNat).toNat)),
    AV.cons (1 : Nat) (AV.sc (Value.int IntKind.i64 (t31fa t33.toNat)))
    (AV.cons (1 : Nat) (AV.sc (Value.int IntKind.i64 (t31fba t33.toNat)))
    (AV.cons (1 : Nat) (AV.sc (Value.int IntKind.i64 (t31fbba t33.toNat))) AV.nil))]
    []
    (AV.cons (5 : Nat)
    (AV.cons (1 : Nat) (AV.rf (1000 : Nat) (1 : Nat) (0 : Nat) r.fst)
    (AV.cons (1 : Nat) (AV.sc (Value.int IntKind.i64 r.snd.fst))
    (AV.cons (1 : Nat) (AV.sc (Value.int IntKind.i64 r.snd.snd.fst))
    (AV.cons (1 : Nat) (AV.sc (Value.bool r.snd.snd.snd.fst))
    (AV.cons (1 : Nat) (AV.sc (Value.int IntKind.i64 r.snd.snd.snd.snd.fst)) AV.nil)))))
    (AV.cons (1 : Nat) (AV.rf (1001 : Nat) (3 : Nat) (0 : Nat) r.snd.snd.snd.snd.snd.fst) AV.nil)).tup
    [((1000 : Nat), (3 : Nat),
    AV.ar r.snd.snd.snd.snd.snd.snd.fst (1 : Nat) fun (i0 : Nat) =>
    AV.sc (Value.int IntKind.i64 (r.snd.snd.snd.snd.snd.snd.snd.fst i0))),
    ((1001 : Nat), (81 : Nat),
    AV.ar r.snd.snd.snd.snd.snd.snd.snd.snd.fst (3 : Nat) fun (i0 : Nat) =>
    AV.cons (1 : Nat) (AV.sc (Value.int IntKind.i64 (r.snd.snd.snd.snd.snd.snd.snd.snd.snd.fst i0)))
    (AV.cons (1 : Nat) (AV.sc (Value.int IntKind.i64 (r.snd.snd.snd.snd.snd.snd.snd.snd.snd.snd.fst i0)))
    (AV.cons (1 : Nat) (AV.sc (Value.int IntKind.i64 (r.snd.snd.snd.snd.snd.snd.snd.snd.snd.snd.snd i0)))
    AV.nil)))]) ∧
    True ∧
    True ∧
    True ∧
    ((0 : Nat) = (0 : Nat) ∧ True) ∧
    True ∧
    True ∧
    True ∧
    ((1 : Nat) + (0 : Nat) = plus (0 : Nat) (1 : Nat) ∧ True) ∧
    ((0 : Int) ≤ t31fba t33.toNat ∧
    t31fba t33.toNat ≤ (↑text.size : Int) ∧ (↑text.size : Int) ≤ (↑text.size : Int)) ∧
    True ∧
    True ∧
    ((1 : Nat) + ((1 : Nat) + ((1 : Nat) + (0 : Nat))) = plus (0 : Nat) (3 : Nat) ∧ True) ∧
    True ∧
    (b1bbban ≤ b9n ∧
    ((0 : Nat) + r.snd.snd.snd.snd.snd.fst ≤ r.snd.snd.snd.snd.snd.snd.snd.snd.fst ∧
    (3 : Nat) = (3 : Nat)) ∧
    (b1bbban + r.snd.snd.snd.snd.snd.fst) * (24 : Nat) ≤ (140737488355328 : Nat) ∧
    b1bbban + r.snd.snd.snd.snd.snd.fst ≤ maxLen) ∧
    True ∧
    ((1 : Nat) + ((1 : Nat) + ((1 : Nat) + (0 : Nat))) = plus (0 : Nat) (3 : Nat) ∧ True) ∧
    True ∧
    ((1 : Nat) + ((1 : Nat) + (0 : Nat)) = plus (0 : Nat) (2 : Nat) ∧ True) ∧
    True ∧
    ((1 : Nat) + ((1 : Nat) + ((1 : Nat) + (0 : Nat))) = plus (0 : Nat) (3 : Nat) ∧ True) ∧
    True ∧
    ((True ∧ True) ∧ True) ∧
    (b1bban ≤ b8n ∧
    ((0 : Nat) + (1 : Nat) ≤ (1 : Nat) ∧ (1 : Nat) = (1 : Nat)) ∧
    (b1bban + (1 : Nat)) * (8 : Nat) ≤ (140737488355328 : Nat) ∧
    b1bban + (1 : Nat) ≤ maxLen) ∧
    True ∧
    ((1 : Nat) + ((1 : Nat) + (0 : Nat)) = plus (0 : Nat) (2 : Nat) ∧ True) ∧
    ((0 : Nat) = (0 : Nat) ∧ True) ∧
    True ∧
    ((0 : Nat) = (0 : Nat) ∧ True) ∧
    True ∧
    ((0 : Nat) = plus (0 : Nat) (0 : Nat) ∧ True) ∧
    ∃ (r_1 : Nat × Nat × (Nat → Int)),
    (((0 : Nat) + r.fst ≤ r.snd.snd.snd.snd.snd.snd.fst ∧ True) ∧
    True ∧
    Ok Proofs.Try.prog (76 : Nat)
    [AV.vec true (1 : Nat) r.fst
    (r.snd.snd.snd.snd.snd.snd.fst - (0 : Nat))
    fun (i : Nat) =>
    AV.sc
    (Value.int IntKind.i64
    (r.snd.snd.snd.snd.snd.snd.snd.fst
    (plus (0 : Nat) i)))]
    [] (AV.rf (1000 : Nat) (1 : Nat) (0 : Nat) r_1.fst)
    [((1000 : Nat), (3 : Nat),
    AV.ar r_1.snd.fst (1 : Nat) fun (i0 : Nat) =>
    AV.sc (Value.int IntKind.i64 (r_1.snd.snd i0)))]) ∧
    True ∧
    ((0 : Nat) = plus (0 : Nat) (0 : Nat) ∧ True) ∧
    True ∧
    ((1 : Nat) + (0 : Nat) = plus (0 : Nat) (1 : Nat) ∧
    True) ∧
    ((0 : Nat) = (0 : Nat) ∧ True) ∧
    ((((0 : Nat) + r_1.fst ≤ r_1.snd.fst ∧
    True ∧ True ∧ True ∧ True ∧ True) ∧
    True) ∧
    True) ∧
    (b1ban ≤ b7n ∧
    ((0 : Nat) + (1 : Nat) ≤ (1 : Nat) ∧
    (5 : Nat) = (5 : Nat)) ∧
    (b1ban + (1 : Nat)) * (56 : Nat) ≤
    (140737488355328 : Nat) ∧
    b1ban + (1 : Nat) ≤ maxLen) ∧
    True ∧
    ((1 : Nat) + (0 : Nat) =
    plus (0 : Nat) (1 : Nat) ∧
    True) ∧
    True ∧
    True ∧
    ((True ∧
    Sub
    (AV.sc
    (Value.string
    (text.extract
    (t31fba t33.toNat).toNat
    (↑text.size :
    Int).toNat)))
    (AV.sc
    (Value.string
    (text.extract
    (t31fba t33.toNat).toNat
    (↑text.size :
    Int).toNat))) ∧
    True ∧
    Sub
    (AV.pt (1000 : Nat) []
    (0 : Nat))
    (AV.pt (1000 : Nat) []
    (0 : Nat)) ∧
    True ∧
    Sub
    (AV.pt (1001 : Nat) []
    (0 : Nat))
    (AV.pt (1001 : Nat) []
    (0 : Nat)) ∧
    True ∧
    Sub
    (AV.pt (1002 : Nat)
    [] (0 : Nat))
    (AV.pt (1002 : Nat)
    [] (0 : Nat)) ∧
    True ∧
    Sub
    (AV.vec true
    (3 : Nat) t31n
    t31n
    fun
    (i0 :
    Nat) =>
    AV.cons
    (1 : Nat)
    (AV.sc
    (Value.int
    IntKind.i64
    (t31fa
    i0)))
    (AV.cons
    (1 : Nat)
    (AV.sc
    (Value.int
    IntKind.i64
    (t31fba
    i0)))
    (AV.cons
    (1 :
    Nat)
    (AV.sc
    (Value.int
    IntKind.i64
    (t31fbba
    i0)))
    AV.nil)))
    (AV.vec true
    (3 : Nat) t31n
    t31n
    fun
    (i0 :
    Nat) =>
    AV.cons
    (1 : Nat)
    (AV.sc
    (Value.int
    IntKind.i64
    (t31fa
    i0)))
    (AV.cons
    (1 : Nat)
    (AV.sc
    (Value.int
    IntKind.i64
    (t31fba
    i0)))
    (AV.cons
    (1 :
    Nat)
    (AV.sc
    (Value.int
    IntKind.i64
    (t31fbba
    i0)))
    AV.nil))) ∧
    True ∧
    Sub
    (AV.sc
    (Value.int
    IntKind.i64
    t32))
    (AV.sc
    (Value.int
    IntKind.i64
    t32)) ∧
    True ∧
    Sub
    (AV.sc
    (Value.int
    IntKind.i64
    (IntKind.i64.wrap
    (t33 +
    (1 :
    Int)))))
    (AV.sc
    (Value.int
    IntKind.i64
    (IntKind.i64.wrap
    (t33 +
    (1 :
    Int))))) ∧
    True) ∧
    (True ∧ True ∧ True ∧ True ∧ True) ∧
    SubB
    (AV.cons (1 : Nat)
    (AV.sc
    (Value.slice none (0 : Nat)
    (0 : Nat)))
    (AV.cons (1 : Nat)
    (AV.sc
    (Value.slice none
    (0 : Nat) (0 : Nat)))
    (AV.cons (1 : Nat)
    (AV.sc
    (Value.slice none
    (0 : Nat) (0 : Nat)))
    (AV.cons (1 : Nat)
    (AV.sc
    (Value.slice none
    (0 : Nat)
    (0 : Nat)))
    AV.nil))))
    (AV.cons (1 : Nat)
    (AV.sc
    (Value.slice none (0 : Nat)
    (0 : Nat)))
    (AV.cons (1 : Nat)
    (AV.sc
    (Value.slice none
    (0 : Nat) (0 : Nat)))
    (AV.cons (1 : Nat)
    (AV.sc
    (Value.slice none
    (0 : Nat) (0 : Nat)))
    (AV.cons (1 : Nat)
    (AV.sc
    (Value.slice none
    (0 : Nat)
    (0 : Nat)))
    AV.nil)))) ∧
    (True ∧
    True ∧ True ∧ True ∧ True) ∧
    SubB
    (AV.cons (1 : Nat)
    (AV.vec false (3 : Nat)
    b1an b1an
    fun (i0 : Nat) =>
    AV.cons (1 : Nat)
    (AV.sc
    (Value.int
    IntKind.i64
    (b1afa i0)))
    (AV.cons (1 : Nat)
    (AV.sc
    (Value.int
    IntKind.i64
    (b1afba i0)))
    (AV.cons (1 : Nat)
    (AV.sc
    (Value.int
    IntKind.i64
    (b1afbba i0)))
    AV.nil)))
    (AV.cons (1 : Nat)
    (AV.rf (1007 : Nat)
    (5 : Nat) (0 : Nat)
    (b1ban + (1 : Nat)))
    (AV.cons (1 : Nat)
    (AV.rf (1008 : Nat)
    (1 : Nat) (0 : Nat)
    (b1bban +
    (1 : Nat)))
    (AV.cons (1 : Nat)
    (AV.rf (1009 : Nat)
    (3 : Nat)
    (0 : Nat)
    (b1bbban +
    r.snd.snd.snd.snd.snd.fst))
    AV.nil))))
    (AV.cons (1 : Nat)
    (AV.vec false (3 : Nat)
    b1an b1an
    fun (i0 : Nat) =>
    AV.cons (1 : Nat)
    (AV.sc
    (Value.int
    IntKind.i64
    (b1afa i0)))
    (AV.cons (1 : Nat)
    (AV.sc
    (Value.int
    IntKind.i64
    (b1afba i0)))
    (AV.cons (1 : Nat)
    (AV.sc
    (Value.int
    IntKind.i64
    (b1afbba i0)))
    AV.nil)))
    (AV.cons (1 : Nat)
    (AV.rf (1007 : Nat)
    (5 : Nat) (0 : Nat)
    (b1ban + (1 : Nat)))
    (AV.cons (1 : Nat)
    (AV.rf (1008 : Nat)
    (1 : Nat) (0 : Nat)
    (b1bban +
    (1 : Nat)))
    (AV.cons (1 : Nat)
    (AV.rf (1009 : Nat)
    (3 : Nat)
    (0 : Nat)
    (b1bbban +
    r.snd.snd.snd.snd.snd.fst))
    AV.nil)))) ∧
    (True ∧
    True ∧
    True ∧
    True ∧ True ∧ True) ∧
    SubB
    (AV.cons (1 : Nat)
    (AV.rf (1010 : Nat)
    (1 : Nat) (0 : Nat)
    r.fst)
    (AV.cons (1 : Nat)
    (AV.sc
    (Value.int
    IntKind.i64
    r.snd.fst))
    (AV.cons (1 : Nat)
    (AV.sc
    (Value.int
    IntKind.i64
    r.snd.snd.fst))
    (AV.cons (1 : Nat)
    (AV.sc
    (Value.bool
    r.snd.snd.snd.fst))
    (AV.cons
    (1 : Nat)
    (AV.sc
    (Value.int
    IntKind.i64
    r.snd.snd.snd.snd.fst))
    AV.nil)))))
    (AV.cons (1 : Nat)
    (AV.rf (1010 : Nat)
    (1 : Nat) (0 : Nat)
    r.fst)
    (AV.cons (1 : Nat)
    (AV.sc
    (Value.int
    IntKind.i64
    r.snd.fst))
    (AV.cons (1 : Nat)
    (AV.sc
    (Value.int
    IntKind.i64
    r.snd.snd.fst))
    (AV.cons (1 : Nat)
    (AV.sc
    (Value.bool
    r.snd.snd.snd.fst))
    (AV.cons
    (1 : Nat)
    (AV.sc
    (Value.int
    IntKind.i64
    r.snd.snd.snd.snd.fst))
    AV.nil))))) ∧
    True ∧
    SubB
    (AV.ar
    (b1ban +
    (1 : Nat))
    (5 : Nat)
    fun (i : Nat) =>
    AV.cons (1 : Nat)
    (AV.vec false
    (1 : Nat)
    (bif
    i.blt
    b1ban then
    b7fan i
    else r_1.fst)
    (bif
    i.blt
    b1ban then
    b7fan i
    else
    r_1.snd.fst -
    (0 : Nat))
    fun
    (i_1 :
    Nat) =>
    AV.sc
    (Value.int
    IntKind.i64
    (bif
    i.blt
    b1ban then
    b7faf i
    i_1
    else
    r_1.snd.snd
    (plus
    (0 :
    Nat)
    i_1))))
    (AV.cons
    (1 : Nat)
    (AV.sc
    (Value.int
    IntKind.i64
    (bif
    i.blt
    b1ban then
    b7fba i
    else
    r.snd.fst)))
    (AV.cons
    (1 : Nat)
    (AV.sc
    (Value.int
    IntKind.i64
    (bif
    i.blt
    b1ban then
    b7fbba
    i
    else
    r.snd.snd.fst)))
    (AV.cons
    (1 : Nat)
    (AV.sc
    (Value.bool
    (bif
    i.blt
    b1ban then
    b7fbbba
    i
    else
    r.snd.snd.snd.fst)))
    (AV.cons
    (1 :
    Nat)
    (AV.sc
    (Value.int
    IntKind.i64
    (bif
    i.blt
    b1ban then
    b7fbbbba
    i
    else
    r.snd.snd.snd.snd.fst)))
    AV.nil)))))
    (AV.ar
    (b1ban +
    (1 : Nat))
    (5 : Nat)
    fun (i0 : Nat) =>
    AV.cons (1 : Nat)
    (AV.vec false
    (1 : Nat)
    (bif
    i0.blt
    b1ban then
    b7fan i0
    else r_1.fst)
    (bif
    i0.blt
    b1ban then
    b7fan i0
    else r_1.fst)
    fun
    (i1 :
    Nat) =>
    AV.sc
    (Value.int
    IntKind.i64
    (bif
    i0.blt
    b1ban then
    b7faf i0
    i1
    else
    r_1.snd.snd
    (plus
    (0 :
    Nat)
    i1))))
    (AV.cons
    (1 : Nat)
    (AV.sc
    (Value.int
    IntKind.i64
    (bif
    i0.blt
    b1ban then
    b7fba i0
    else
    r.snd.fst)))
    (AV.cons
    (1 : Nat)
    (AV.sc
    (Value.int
    IntKind.i64
    (bif
    i0.blt
    b1ban then
    b7fbba
    i0
    else
    r.snd.snd.fst)))
    (AV.cons
    (1 : Nat)
    (AV.sc
    (Value.bool
    (bif
    i0.blt
    b1ban then
    b7fbbba
    i0
    else
    r.snd.snd.snd.fst)))
    (AV.cons
    (1 :
    Nat)
    (AV.sc
    (Value.int
    IntKind.i64
    (bif
    i0.blt
    b1ban then
    b7fbbbba
    i0
    else
    r.snd.snd.snd.snd.fst)))
    AV.nil))))) ∧
    True ∧
    SubB
    (AV.ar
    (b1bban +
    (1 : Nat))
    (1 : Nat)
    fun
    (i : Nat) =>
    AV.sc
    (Value.int
    IntKind.i64
    (bif
    i.blt
    b1bban then
    b8f i
    else
    (↑(b1bbban +
    r.snd.snd.snd.snd.snd.fst) :
    Int))))
    (AV.ar
    (b1bban +
    (1 : Nat))
    (1 : Nat)
    fun
    (i0 :
    Nat) =>
    AV.sc
    (Value.int
    IntKind.i64
    (bif
    i0.blt
    b1bban then
    b8f i0
    else
    (↑(b1bbban +
    r.snd.snd.snd.snd.snd.fst) :
    Int)))) ∧
    True ∧
    SubB
    (AV.ar
    r.snd.snd.snd.snd.snd.snd.fst
    (1 : Nat)
    fun
    (i0 :
    Nat) =>
    AV.sc
    (Value.int
    IntKind.i64
    (r.snd.snd.snd.snd.snd.snd.snd.fst
    i0)))
    (AV.ar
    r.snd.snd.snd.snd.snd.snd.fst
    (1 : Nat)
    fun
    (i0 :
    Nat) =>
    AV.sc
    (Value.int
    IntKind.i64
    (r.snd.snd.snd.snd.snd.snd.snd.fst
    i0))) ∧
    True ∧
    SubB
    (AV.ar
    (b1bbban +
    r.snd.snd.snd.snd.snd.fst)
    (3 :
    Nat)
    fun
    (i :
    Nat) =>
    AV.cons
    (1 :
    Nat)
    (AV.sc
    (Value.int
    IntKind.i64
    (bif
    i.blt
    b1bbban then
    b9fa
    i
    else
    r.snd.snd.snd.snd.snd.snd.snd.snd.snd.fst
    ((0 :
    Nat) +
    (i -
    b1bbban)))))
    (AV.cons
    (1 :
    Nat)
    (AV.sc
    (Value.int
    IntKind.i64
    (bif
    i.blt
    b1bbban then
    b9fba
    i
    else
    r.snd.snd.snd.snd.snd.snd.snd.snd.snd.snd.fst
    ((0 :
    Nat) +
    (i -
    b1bbban)))))
    (AV.cons
    (1 :
    Nat)
    (AV.sc
    (Value.int
    IntKind.i64
    (bif
    i.blt
    b1bbban then
    b9fbba
    i
    else
    r.snd.snd.snd.snd.snd.snd.snd.snd.snd.snd.snd
    ((0 :
    Nat) +
    (i -
    b1bbban)))))
    AV.nil)))
    (AV.ar
    (b1bbban +
    r.snd.snd.snd.snd.snd.fst)
    (3 :
    Nat)
    fun
    (i0 :
    Nat) =>
    AV.cons
    (1 :
    Nat)
    (AV.sc
    (Value.int
    IntKind.i64
    (bif
    i0.blt
    b1bbban then
    b9fa
    i0
    else
    r.snd.snd.snd.snd.snd.snd.snd.snd.snd.fst
    ((0 :
    Nat) +
    (i0 -
    b1bbban)))))
    (AV.cons
    (1 :
    Nat)
    (AV.sc
    (Value.int
    IntKind.i64
    (bif
    i0.blt
    b1bbban then
    b9fba
    i0
    else
    r.snd.snd.snd.snd.snd.snd.snd.snd.snd.snd.fst
    ((0 :
    Nat) +
    (i0 -
    b1bbban)))))
    (AV.cons
    (1 :
    Nat)
    (AV.sc
    (Value.int
    IntKind.i64
    (bif
    i0.blt
    b1bbban then
    b9fbba
    i0
    else
    r.snd.snd.snd.snd.snd.snd.snd.snd.snd.snd.snd
    ((0 :
    Nat) +
    (i0 -
    b1bbban)))))
    AV.nil))) ∧
    True) ∧
    L41_0
    (text.extract (t31fba t33.toNat).toNat
    (↑text.size : Int).toNat)
    t31n t31fa t31fba t31fbba t32
    (IntKind.i64.wrap (t33 + (1 : Int)))
    b1an b1afa b1afba b1afbba
    (b1ban + (1 : Nat))
    (b1bban + (1 : Nat))
    (b1bbban + r.snd.snd.snd.snd.snd.fst)
    r.fst r.snd.fst r.snd.snd.fst
    r.snd.snd.snd.fst
    r.snd.snd.snd.snd.fst
    (b1ban + (1 : Nat))
    (fun (i : Nat) =>
    bif i.blt b1ban then b7fan i
    else r_1.fst)
    (fun (i i_1 : Nat) =>
    bif i.blt b1ban then b7faf i i_1
    else
    r_1.snd.snd (plus (0 : Nat) i_1))
    (fun (i : Nat) =>
    bif i.blt b1ban then b7fba i
    else r.snd.fst)
    (fun (i : Nat) =>
    bif i.blt b1ban then b7fbba i
    else r.snd.snd.fst)
    (fun (i : Nat) =>
    bif i.blt b1ban then b7fbbba i
    else r.snd.snd.snd.fst)
    (fun (i : Nat) =>
    bif i.blt b1ban then b7fbbbba i
    else r.snd.snd.snd.snd.fst)
    (b1bban + (1 : Nat))
    (fun (i : Nat) =>
    bif i.blt b1bban then b8f i
    else
    (↑(b1bbban +
    r.snd.snd.snd.snd.snd.fst) :
    Int))
    r.snd.snd.snd.snd.snd.snd.fst
    r.snd.snd.snd.snd.snd.snd.snd.fst
    (b1bbban + r.snd.snd.snd.snd.snd.fst)
    (fun (i : Nat) =>
    bif i.blt b1bbban then b9fa i
    else
    r.snd.snd.snd.snd.snd.snd.snd.snd.snd.fst
    ((0 : Nat) + (i - b1bbban)))
    (fun (i : Nat) =>
    bif i.blt b1bbban then b9fba i
    else
    r.snd.snd.snd.snd.snd.snd.snd.snd.snd.snd.fst
    ((0 : Nat) + (i - b1bbban)))
    (fun (i : Nat) =>
    bif i.blt b1bbban then b9fbba i
    else
    r.snd.snd.snd.snd.snd.snd.snd.snd.snd.snd.snd
    ((0 : Nat) + (i - b1bbban)))
    res) ∧
    (decide (t33 < t32) = false →
    True ∧
    ((1 : Nat) + ((1 : Nat) + ((1 : Nat) + (0 : Nat))) = plus (0 : Nat) (3 : Nat) ∧ True) ∧
    ((0 : Nat) = (0 : Nat) ∧ True) ∧
    ∃ (r : Nat × (Nat → Int) × (Nat → Int) × (Nat → Int)),
    ((((0 : Nat) + b2an ≤ b10n ∧ True ∧ True ∧ True ∧ True ∧ True) ∧ True) ∧
    True ∧
    Ok Proofs.Try.prog (36 : Nat)
    [AV.cons (1 : Nat)
    (AV.vec true (1 : Nat) b2an (b10n - (0 : Nat)) fun (i : Nat) => AV.sc (Value.int IntKind.i64 (b10f (plus (0 : Nat) i))))
    (AV.cons (1 : Nat) (AV.sc (Value.int IntKind.i64 b2ba))
    (AV.cons (1 : Nat) (AV.sc (Value.int IntKind.i64 b2bba))
    (AV.cons (1 : Nat) (AV.sc (Value.bool b2bbba)) (AV.cons (1 : Nat) (AV.sc (Value.int IntKind.i64 b2bbbba)) AV.nil))))]
    []
    (AV.vec false (3 : Nat) r.fst r.fst fun (i0 : Nat) =>
    AV.cons (1 : Nat) (AV.sc (Value.int IntKind.i64 (r.snd.fst i0)))
    (AV.cons (1 : Nat) (AV.sc (Value.int IntKind.i64 (r.snd.snd.fst i0)))
    (AV.cons (1 : Nat) (AV.sc (Value.int IntKind.i64 (r.snd.snd.snd i0))) AV.nil)))
    []) ∧
    (b1bbban ≤ b9n ∧ True ∧ (b1bbban + r.fst) * (24 : Nat) ≤ (140737488355328 : Nat) ∧ b1bbban + r.fst ≤ maxLen) ∧
    True ∧
    ((1 : Nat) + ((1 : Nat) + ((1 : Nat) + (0 : Nat))) = plus (0 : Nat) (3 : Nat) ∧ True) ∧
    ((0 : Nat) = (0 : Nat) ∧ True) ∧
    ((0 : Nat) = (0 : Nat) ∧ True) ∧
    True ∧
    (((0 : Nat) = (0 : Nat) ∧ True) ∧ True ∧ True) ∧
    ((((True ∧ (0 : Nat) + b1ban ≤ b7n ∧ (0 : Nat) + b1bban ≤ b8n ∧ (0 : Nat) + (b1bbban + r.fst) ≤ b1bbban + r.fst ∧ True) ∧
    True ∧ True) ∧
    Sub
    (AV.cons (1 : Nat)
    (AV.cons (1 : Nat)
    (AV.vec false (3 : Nat) b1an b1an fun (i0 : Nat) =>
    AV.cons (1 : Nat) (AV.sc (Value.int IntKind.i64 (b1afa i0)))
    (AV.cons (1 : Nat) (AV.sc (Value.int IntKind.i64 (b1afba i0)))
    (AV.cons (1 : Nat) (AV.sc (Value.int IntKind.i64 (b1afbba i0))) AV.nil)))
    (AV.cons (1 : Nat)
    (AV.vec false (5 : Nat) b1ban (b7n - (0 : Nat)) fun (i : Nat) =>
    AV.cons (1 : Nat)
    (AV.vec false (1 : Nat) (b7fan (plus (0 : Nat) i)) (b7fan (plus (0 : Nat) i)) fun (i1 : Nat) =>
    AV.sc (Value.int IntKind.i64 (b7faf (plus (0 : Nat) i) i1)))
    (AV.cons (1 : Nat) (AV.sc (Value.int IntKind.i64 (b7fba (plus (0 : Nat) i))))
    (AV.cons (1 : Nat) (AV.sc (Value.int IntKind.i64 (b7fbba (plus (0 : Nat) i))))
    (AV.cons (1 : Nat) (AV.sc (Value.bool (b7fbbba (plus (0 : Nat) i))))
    (AV.cons (1 : Nat) (AV.sc (Value.int IntKind.i64 (b7fbbbba (plus (0 : Nat) i)))) AV.nil)))))
    (AV.cons (1 : Nat)
    (AV.vec false (1 : Nat) b1bban (b8n - (0 : Nat)) fun (i : Nat) =>
    AV.sc (Value.int IntKind.i64 (b8f (plus (0 : Nat) i))))
    (AV.cons (1 : Nat)
    (AV.vec false (3 : Nat) (b1bbban + r.fst) (b1bbban + r.fst - (0 : Nat)) fun (i : Nat) =>
    AV.cons (1 : Nat)
    (AV.sc
    (Value.int IntKind.i64
    (bif (plus (0 : Nat) i).blt b1bbban then b9fa (plus (0 : Nat) i)
    else r.snd.fst (plus (0 : Nat) i - b1bbban))))
    (AV.cons (1 : Nat)
    (AV.sc
    (Value.int IntKind.i64
    (bif (plus (0 : Nat) i).blt b1bbban then b9fba (plus (0 : Nat) i)
    else r.snd.snd.fst (plus (0 : Nat) i - b1bbban))))
    (AV.cons (1 : Nat)
    (AV.sc
    (Value.int IntKind.i64
    (bif (plus (0 : Nat) i).blt b1bbban then b9fbba (plus (0 : Nat) i)
    else r.snd.snd.snd (plus (0 : Nat) i - b1bbban))))
    AV.nil)))
    AV.nil))))
    (AV.cons (1 : Nat) (AV.sc (Value.int IntKind.i64 (0 : Int))) AV.nil)).tup
    (AV.cons (1 : Nat)
    (AV.cons (1 : Nat)
    (AV.vec false (3 : Nat) b1an b1an fun (i0 : Nat) =>
    AV.cons (1 : Nat) (AV.sc (Value.int IntKind.i64 (b1afa i0)))
    (AV.cons (1 : Nat) (AV.sc (Value.int IntKind.i64 (b1afba i0)))
    (AV.cons (1 : Nat) (AV.sc (Value.int IntKind.i64 (b1afbba i0))) AV.nil)))
    (AV.cons (1 : Nat)
    (AV.vec false (5 : Nat) b1ban b1ban fun (i : Nat) =>
    AV.cons (1 : Nat)
    (AV.vec false (1 : Nat) (b7fan (plus (0 : Nat) i)) (b7fan (plus (0 : Nat) i)) fun (i1 : Nat) =>
    AV.sc (Value.int IntKind.i64 (b7faf (plus (0 : Nat) i) i1)))
    (AV.cons (1 : Nat) (AV.sc (Value.int IntKind.i64 (b7fba (plus (0 : Nat) i))))
    (AV.cons (1 : Nat) (AV.sc (Value.int IntKind.i64 (b7fbba (plus (0 : Nat) i))))
    (AV.cons (1 : Nat) (AV.sc (Value.bool (b7fbbba (plus (0 : Nat) i))))
    (AV.cons (1 : Nat) (AV.sc (Value.int IntKind.i64 (b7fbbbba (plus (0 : Nat) i)))) AV.nil)))))
    (AV.cons (1 : Nat)
    (AV.vec false (1 : Nat) b1bban b1bban fun (i : Nat) => AV.sc (Value.int IntKind.i64 (b8f (plus (0 : Nat) i))))
    (AV.cons (1 : Nat)
    (AV.vec false (3 : Nat) (b1bbban + r.fst) (b1bbban + r.fst) fun (i : Nat) =>
    AV.cons (1 : Nat)
    (AV.sc
    (Value.int IntKind.i64
    (bif (plus (0 : Nat) i).blt b1bbban then b9fa (plus (0 : Nat) i)
    else r.snd.fst (plus (0 : Nat) i - b1bbban))))
    (AV.cons (1 : Nat)
    (AV.sc
    (Value.int IntKind.i64
    (bif (plus (0 : Nat) i).blt b1bbban then b9fba (plus (0 : Nat) i)
    else r.snd.snd.fst (plus (0 : Nat) i - b1bbban))))
    (AV.cons (1 : Nat)
    (AV.sc
    (Value.int IntKind.i64
    (bif (plus (0 : Nat) i).blt b1bbban then b9fbba (plus (0 : Nat) i)
    else r.snd.snd.snd (plus (0 : Nat) i - b1bbban))))
    AV.nil)))
    AV.nil))))
    (AV.cons (1 : Nat) (AV.sc (Value.int IntKind.i64 (0 : Int))) AV.nil)).tup ∧
    True) ∧
    True) ∧
    Sub
    (AV.cons (1 : Nat)
    (AV.cons (1 : Nat)
    (AV.vec false (3 : Nat) b1an b1an fun (i0 : Nat) =>
    AV.cons (1 : Nat) (AV.sc (Value.int IntKind.i64 (b1afa i0)))
    (AV.cons (1 : Nat) (AV.sc (Value.int IntKind.i64 (b1afba i0)))
    (AV.cons (1 : Nat) (AV.sc (Value.int IntKind.i64 (b1afbba i0))) AV.nil)))
    (AV.cons (1 : Nat)
    (AV.vec false (5 : Nat) b1ban b1ban fun (i : Nat) =>
    AV.cons (1 : Nat)
    (AV.vec false (1 : Nat) (b7fan (plus (0 : Nat) i)) (b7fan (plus (0 : Nat) i)) fun (i1 : Nat) =>
    AV.sc (Value.int IntKind.i64 (b7faf (plus (0 : Nat) i) i1)))
    (AV.cons (1 : Nat) (AV.sc (Value.int IntKind.i64 (b7fba (plus (0 : Nat) i))))
    (AV.cons (1 : Nat) (AV.sc (Value.int IntKind.i64 (b7fbba (plus (0 : Nat) i))))
    (AV.cons (1 : Nat) (AV.sc (Value.bool (b7fbbba (plus (0 : Nat) i))))
    (AV.cons (1 : Nat) (AV.sc (Value.int IntKind.i64 (b7fbbbba (plus (0 : Nat) i)))) AV.nil)))))
    (AV.cons (1 : Nat)
    (AV.vec false (1 : Nat) b1bban b1bban fun (i : Nat) => AV.sc (Value.int IntKind.i64 (b8f (plus (0 : Nat) i))))
    (AV.cons (1 : Nat)
    (AV.vec false (3 : Nat) (b1bbban + r.fst) (b1bbban + r.fst) fun (i : Nat) =>
    AV.cons (1 : Nat)
    (AV.sc
    (Value.int IntKind.i64
    (bif (plus (0 : Nat) i).blt b1bbban then b9fa (plus (0 : Nat) i)
    else r.snd.fst (plus (0 : Nat) i - b1bbban))))
    (AV.cons (1 : Nat)
    (AV.sc
    (Value.int IntKind.i64
    (bif (plus (0 : Nat) i).blt b1bbban then b9fba (plus (0 : Nat) i)
    else r.snd.snd.fst (plus (0 : Nat) i - b1bbban))))
    (AV.cons (1 : Nat)
    (AV.sc
    (Value.int IntKind.i64
    (bif (plus (0 : Nat) i).blt b1bbban then b9fbba (plus (0 : Nat) i)
    else r.snd.snd.snd (plus (0 : Nat) i - b1bbban))))
    AV.nil)))
    AV.nil))))
    (AV.cons (1 : Nat) (AV.sc (Value.int IntKind.i64 (0 : Int))) AV.nil)).tup
    res ∧
    SubOut [] []) from
    ⟨trivial, (And.elim (fun h1 k1 => ⟨(fun x2 => (fun h2 => (And.elim (fun h3 k3 => ⟨(And.elim (fun h4 k4 => ⟨h4, k4⟩) h3), ⟨trivial, ⟨trivial, ⟨⟨rfl, trivial⟩, ⟨trivial, ⟨⟨rfl, trivial⟩, ⟨trivial, ⟨trivial, ⟨⟨rfl, trivial⟩, (And.elim (fun h12 k12 => ⟨(And.elim (fun h13 k13 => ⟨h13, (And.elim (fun h14 k14 => ⟨h14, k14⟩) k13)⟩) h12), ⟨⟨rfl, trivial⟩, (Exists.elim k12 fun x14 h14 => ⟨x14, (And.elim (fun h15 k15 => ⟨(And.elim (fun h16 k16 => ⟨((fun h17 => ⟨((fun h18 => ⟨h18, ⟨trivial, ⟨trivial, ⟨trivial, ⟨trivial, trivial⟩⟩⟩⟩⟩) h17), ⟨trivial, ⟨⟨trivial, ⟨trivial, ⟨trivial, trivial⟩⟩⟩, trivial⟩⟩⟩) h16), ⟨trivial, k16⟩⟩) h15), ⟨trivial, ⟨trivial, ⟨trivial, ⟨⟨rfl, trivial⟩, ⟨trivial, ⟨trivial, ⟨trivial, ⟨⟨rfl, trivial⟩, (And.elim (fun h24 k24 => ⟨(And.elim (fun h25 k25 => ⟨h25, (And.elim (fun h26 k26 => ⟨h26, k26⟩) k25)⟩) h24), ⟨trivial, ⟨trivial, ⟨⟨rfl, trivial⟩, ⟨trivial, (And.elim (fun h29 k29 => ⟨(And.elim (fun h30 k30 => ⟨h30, (And.elim (fun h31 k31 => ⟨((fun h32 => ⟨h32, rfl⟩) h31), (And.elim (fun h32 k32 => ⟨h32, k32⟩) k31)⟩) k30)⟩) h29), ⟨trivial, ⟨⟨rfl, trivial⟩, ⟨trivial, ⟨⟨rfl, trivial⟩, ⟨trivial, ⟨⟨rfl, trivial⟩, ⟨trivial, ⟨⟨⟨trivial, trivial⟩, trivial⟩, (And.elim (fun h38 k38 => ⟨(And.elim (fun h39 k39 => ⟨h39, (And.elim (fun h40 k40 => ⟨((fun h41 => ⟨h41, rfl⟩) h40), (And.elim (fun h41 k41 => ⟨h41, k41⟩) k40)⟩) k39)⟩) h38), ⟨trivial, ⟨⟨rfl, trivial⟩, ⟨⟨rfl, trivial⟩, ⟨trivial, ⟨⟨rfl, trivial⟩, ⟨trivial, ⟨⟨rfl, trivial⟩, (Exists.elim k38 fun x46 h46 => ⟨x46, (And.elim (fun h47 k47 => ⟨(And.elim (fun h48 k48 => ⟨((fun h49 => ⟨h49, trivial⟩) h48), ⟨trivial, k48⟩⟩) h47), ⟨trivial, ⟨⟨rfl, trivial⟩, ⟨trivial, ⟨⟨rfl, trivial⟩, ⟨⟨rfl, trivial⟩, (And.elim (fun h53 k53 => ⟨((fun h54 => ⟨((fun h55 => ⟨((fun h56 => ⟨h56, ⟨trivial, ⟨trivial, ⟨trivial, ⟨trivial, trivial⟩⟩⟩⟩⟩) h55), trivial⟩) h54), trivial⟩) h53), (And.elim (fun h54 k54 => ⟨(And.elim (fun h55 k55 => ⟨h55, (And.elim (fun h56 k56 => ⟨((fun h57 => ⟨h57, rfl⟩) h56), (And.elim (fun h57 k57 => ⟨h57, k57⟩) k56)⟩) k55)⟩) h54), ⟨trivial, ⟨⟨rfl, trivial⟩, ⟨trivial, ⟨trivial, (And.elim (fun h59 k59 => ⟨⟨⟨trivial, ⟨Sub.refl _, ⟨trivial, ⟨Sub.refl _, ⟨trivial, ⟨Sub.refl _, ⟨trivial, ⟨Sub.refl _, ⟨trivial, ⟨Sub.refl _, ⟨trivial, ⟨Sub.refl _, ⟨trivial, ⟨Sub.refl _, trivial⟩⟩⟩⟩⟩⟩⟩⟩⟩⟩⟩⟩⟩⟩, ⟨⟨trivial, ⟨trivial, ⟨trivial, ⟨trivial, trivial⟩⟩⟩⟩, ⟨SubB.refl _, ⟨⟨trivial, ⟨trivial, ⟨trivial, ⟨trivial, trivial⟩⟩⟩⟩, ⟨SubB.refl _, ⟨⟨trivial, ⟨trivial, ⟨trivial, ⟨trivial, ⟨trivial, trivial⟩⟩⟩⟩⟩, ⟨SubB.refl _, ⟨trivial, ((fun h68 => ⟨h68, ⟨trivial, ⟨SubB.refl _, ⟨trivial, ⟨SubB.refl _, ⟨trivial, ⟨SubB.refl _, trivial⟩⟩⟩⟩⟩⟩⟩) h59)⟩⟩⟩⟩⟩⟩⟩⟩, k59⟩) k54)⟩⟩⟩⟩⟩) k53)⟩) k47)⟩⟩⟩⟩⟩⟩) h46)⟩)⟩⟩⟩⟩⟩⟩⟩⟩) k29)⟩⟩⟩⟩⟩⟩⟩⟩⟩) k24)⟩⟩⟩⟩⟩) k15)⟩⟩⟩⟩⟩⟩⟩⟩⟩) h14)⟩)⟩⟩) k3)⟩⟩⟩⟩⟩⟩⟩⟩⟩) h2)) (h1 x2)), (fun x2 => (fun h2 => ⟨trivial, ⟨⟨rfl, trivial⟩, ⟨⟨rfl, trivial⟩, (Exists.elim h2 fun x6 h6 => ⟨x6, (And.elim (fun h7 k7 => ⟨(And.elim (fun h8 k8 => ⟨((fun h9 => ⟨((fun h10 => ⟨h10, ⟨trivial, ⟨trivial, ⟨trivial, ⟨trivial, trivial⟩⟩⟩⟩⟩) h9), trivial⟩) h8), ⟨trivial, k8⟩⟩) h7), (And.elim (fun h8 k8 => ⟨(And.elim (fun h9 k9 => ⟨h9, ⟨trivial, (And.elim (fun h11 k11 => ⟨h11, k11⟩) k9)⟩⟩) h8), ⟨trivial, ⟨⟨rfl, trivial⟩, ⟨⟨rfl, trivial⟩, ⟨⟨rfl, trivial⟩, ⟨trivial, ⟨⟨⟨rfl, trivial⟩, ⟨trivial, trivial⟩⟩, (And.elim (fun h15 k15 => ⟨((fun h16 => ⟨(And.elim (fun h17 k17 => ⟨((fun h18 => ⟨⟨trivial, (And.elim (fun h20 k20 => ⟨h20, (And.elim (fun h21 k21 => ⟨h21, ((fun h22 => ⟨h22, trivial⟩) k21)⟩) k20)⟩) h18)⟩, ⟨trivial, trivial⟩⟩) h17), ((fun h18 => ⟨h18, trivial⟩) k17)⟩) h16), trivial⟩) h15), ((fun h16 => ⟨h16, trivial⟩) k15)⟩) k8)⟩⟩⟩⟩⟩⟩⟩) k7)⟩) h6)⟩)⟩⟩⟩) (k1 x2))⟩) h)⟩)
end Go.Am.Seat
