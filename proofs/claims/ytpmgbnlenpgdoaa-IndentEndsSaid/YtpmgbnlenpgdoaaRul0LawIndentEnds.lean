/- The rules of 14 functions: from what is owed at each place of a function the function goes on as it is told there. Printed by a program of this seat; Lean checks each. -/
import Derived.Test.YtpmgbnlenpgdoaaAmLawIndentEnds2
import Derived.Test.YtpmgbnlenpgdoaaTab
open Go Go.Am Go.Am.Seat
namespace Go.Am.Seat
set_option linter.unusedVariables false
set_option maxRecDepth 100000
theorem hf8 : Go.Proofs.Try.prog.funcs[8]? = some Go.Proofs.Try.f8 := by kernel_rfl
abbrev s8_e (man : Nat) (maf : Nat → Int) (mba : Int) (mbba : Int) (mbbba : Bool) (mbbbba : Int) : List (Nat × AV) := [(0, (.cons 1 (.vec true 1 man man (fun i0 => (.sc (.int .i64 (maf i0))))) (.cons 1 (.sc (.int .i64 mba)) (.cons 1 (.sc (.int .i64 mbba)) (.cons 1 (.sc (.bool mbbba)) (.cons 1 (.sc (.int .i64 mbbbba)) .nil))))))]
abbrev m8_e (man : Nat) (maf : Nat → Int) (mba : Int) (mbba : Int) (mbbba : Bool) (mbbbba : Int) : List (Nat × Nat × AV) := []
def L8_e (man : Nat) (maf : Nat → Int) (mba : Int) (mbba : Int) (mbbba : Bool) (mbbbba : Int) (res : AV) : Prop := Goes ⟨Go.Proofs.Try.prog, 8, [], res, []⟩ (place Go.Proofs.Try.f8 []) (s8_e man maf mba mbba mbbba mbbbba) (m8_e man maf mba mbba mbbba mbbbba)
theorem o8 (man : Nat) (maf : Nat → Int) (mba : Int) (mbba : Int) (mbbba : Bool) (mbbbba : Int) (res : AV) (hnew : newOnly res) (h : L8_e man maf mba mbba mbbba mbbbba res) : Ok Go.Proofs.Try.prog 8 [(.cons 1 (.vec true 1 man man (fun i0 => (.sc (.int .i64 (maf i0))))) (.cons 1 (.sc (.int .i64 mba)) (.cons 1 (.sc (.int .i64 mbba)) (.cons 1 (.sc (.bool mbbba)) (.cons 1 (.sc (.int .i64 mbbbba)) .nil)))))] [] res [] :=
  okRule2 8 Go.Proofs.Try.f8 hf8 [(.cons 1 (.vec true 1 man man (fun i0 => (.sc (.int .i64 (maf i0))))) (.cons 1 (.sc (.int .i64 mba)) (.cons 1 (.sc (.int .i64 mbba)) (.cons 1 (.sc (.bool mbbba)) (.cons 1 (.sc (.int .i64 mbbbba)) .nil)))))] [] res [] [] rfl (by kernel_rfl) (by kernel_rfl) (by kernel_rfl) ⟨hnew, by simp⟩ (L8_e man maf mba mbba mbbba mbbbba res) (by kernel_rfl) h
theorem r8_e (man : Nat) (maf : Nat → Int) (mba : Int) (mbba : Int) (mbbba : Bool) (mbbbba : Int) (res : AV)
    (h : (decide ((↑man : Int) > (10000 : Int)) = true → Sub (AV.sc (Value.bool true)) res) ∧
  (decide ((↑man : Int) > (10000 : Int)) = false →
    ∃ (r : Nat × Nat × (Nat → Int) × Int × Int × Bool × Int),
    Ok Proofs.Try.prog (30 : Nat)
    [AV.cons (1 : Nat) (AV.vec true (1 : Nat) man man fun (i : Nat) => AV.sc (Value.int IntKind.i64 (maf i)))
    (AV.cons (1 : Nat) (AV.sc (Value.int IntKind.i64 mba))
    (AV.cons (1 : Nat) (AV.sc (Value.int IntKind.i64 mbba))
    (AV.cons (1 : Nat) (AV.sc (Value.bool mbbba)) (AV.cons (1 : Nat) (AV.sc (Value.int IntKind.i64 mbbbba)) AV.nil))))]
    []
    (AV.cons (1 : Nat) (AV.vec false (1 : Nat) r.fst r.snd.fst fun (i0 : Nat) => AV.sc (Value.int IntKind.i64 (r.snd.snd.fst i0)))
    (AV.cons (1 : Nat) (AV.sc (Value.int IntKind.i64 r.snd.snd.snd.fst))
    (AV.cons (1 : Nat) (AV.sc (Value.int IntKind.i64 r.snd.snd.snd.snd.fst))
    (AV.cons (1 : Nat) (AV.sc (Value.bool r.snd.snd.snd.snd.snd.fst))
    (AV.cons (1 : Nat) (AV.sc (Value.int IntKind.i64 r.snd.snd.snd.snd.snd.snd)) AV.nil)))))
    [] ∧
    ∃ (r_1 : Nat × Int × Int × Bool × Int × Nat × (Nat → Int)),
    Ok Proofs.Try.prog (31 : Nat) [] []
    (AV.cons (1 : Nat) (AV.rf (1000 : Nat) (1 : Nat) (0 : Nat) r_1.fst)
    (AV.cons (1 : Nat) (AV.sc (Value.int IntKind.i64 r_1.snd.fst))
    (AV.cons (1 : Nat) (AV.sc (Value.int IntKind.i64 r_1.snd.snd.fst))
    (AV.cons (1 : Nat) (AV.sc (Value.bool r_1.snd.snd.snd.fst))
    (AV.cons (1 : Nat) (AV.sc (Value.int IntKind.i64 r_1.snd.snd.snd.snd.fst)) AV.nil)))))
    [((1000 : Nat), (3 : Nat),
    AV.ar r_1.snd.snd.snd.snd.snd.fst (1 : Nat) fun (i0 : Nat) => AV.sc (Value.int IntKind.i64 (r_1.snd.snd.snd.snd.snd.snd i0)))] ∧
    ∃ (r_2 : Nat × (Nat → Int) × Int × Int × Bool × Int),
    Ok Proofs.Try.prog (33 : Nat) [] []
    (AV.cons (1 : Nat) (AV.vec false (1 : Nat) r_2.fst r_2.fst fun (i0 : Nat) => AV.sc (Value.int IntKind.i64 (r_2.snd.fst i0)))
    (AV.cons (1 : Nat) (AV.sc (Value.int IntKind.i64 r_2.snd.snd.fst))
    (AV.cons (1 : Nat) (AV.sc (Value.int IntKind.i64 r_2.snd.snd.snd.fst))
    (AV.cons (1 : Nat) (AV.sc (Value.bool r_2.snd.snd.snd.snd.fst))
    (AV.cons (1 : Nat) (AV.sc (Value.int IntKind.i64 r_2.snd.snd.snd.snd.snd)) AV.nil)))))
    [] ∧
    ∃ (r_3 : Bool),
    ((0 : Nat) + r_1.fst ≤ r_1.snd.snd.snd.snd.snd.fst ∧
    Ok Proofs.Try.prog (32 : Nat)
    [AV.cons (1 : Nat)
    (AV.vec true (1 : Nat) r_1.fst (r_1.snd.snd.snd.snd.snd.fst - (0 : Nat)) fun (i : Nat) =>
    AV.sc (Value.int IntKind.i64 (r_1.snd.snd.snd.snd.snd.snd (plus (0 : Nat) i))))
    (AV.cons (1 : Nat) (AV.sc (Value.int IntKind.i64 r_1.snd.fst))
    (AV.cons (1 : Nat) (AV.sc (Value.int IntKind.i64 r_1.snd.snd.fst))
    (AV.cons (1 : Nat) (AV.sc (Value.bool r_1.snd.snd.snd.fst))
    (AV.cons (1 : Nat) (AV.sc (Value.int IntKind.i64 r_1.snd.snd.snd.snd.fst)) AV.nil)))),
    AV.cons (1 : Nat) (AV.vec true (1 : Nat) r_2.fst r_2.fst fun (i : Nat) => AV.sc (Value.int IntKind.i64 (r_2.snd.fst i)))
    (AV.cons (1 : Nat) (AV.sc (Value.int IntKind.i64 r_2.snd.snd.fst))
    (AV.cons (1 : Nat) (AV.sc (Value.int IntKind.i64 r_2.snd.snd.snd.fst))
    (AV.cons (1 : Nat) (AV.sc (Value.bool r_2.snd.snd.snd.snd.fst))
    (AV.cons (1 : Nat) (AV.sc (Value.int IntKind.i64 r_2.snd.snd.snd.snd.snd)) AV.nil))))]
    [] (AV.sc (Value.bool r_3)) []) ∧
    ((!r_3) = true → Sub (AV.sc (Value.bool false)) res) ∧
    ((!r_3) = false →
    ∃ (r_4 : Int × Nat × (Nat → Int)),
    Ok Proofs.Try.prog (34 : Nat) [AV.rf (2000 : Nat) (1 : Nat) (0 : Nat) r_1.fst, AV.sc (Value.int IntKind.i64 (0 : Int))]
    [((2000 : Nat), (3 : Nat),
    AV.ar r_1.snd.snd.snd.snd.snd.fst (1 : Nat) fun (i : Nat) => AV.sc (Value.int IntKind.i64 (r_1.snd.snd.snd.snd.snd.snd i)))]
    (AV.sc (Value.int IntKind.i64 r_4.fst))
    [((2000 : Nat), (3 : Nat), AV.ar r_4.snd.fst (1 : Nat) fun (i0 : Nat) => AV.sc (Value.int IntKind.i64 (r_4.snd.snd i0)))] ∧
    ∃ (r_5 : Nat × (Nat → Int) × (Nat → Int) × (Nat → Int)),
    Ok Proofs.Try.prog (36 : Nat)
    [AV.cons (1 : Nat) (AV.vec true (1 : Nat) r.fst r.snd.fst fun (i : Nat) => AV.sc (Value.int IntKind.i64 (r.snd.snd.fst i)))
    (AV.cons (1 : Nat) (AV.sc (Value.int IntKind.i64 r.snd.snd.snd.fst))
    (AV.cons (1 : Nat) (AV.sc (Value.int IntKind.i64 r.snd.snd.snd.snd.fst))
    (AV.cons (1 : Nat) (AV.sc (Value.bool r.snd.snd.snd.snd.snd.fst))
    (AV.cons (1 : Nat) (AV.sc (Value.int IntKind.i64 r.snd.snd.snd.snd.snd.snd)) AV.nil))))]
    []
    (AV.vec false (3 : Nat) r_5.fst r_5.fst fun (i0 : Nat) =>
    AV.cons (1 : Nat) (AV.sc (Value.int IntKind.i64 (r_5.snd.fst i0)))
    (AV.cons (1 : Nat) (AV.sc (Value.int IntKind.i64 (r_5.snd.snd.fst i0)))
    (AV.cons (1 : Nat) (AV.sc (Value.int IntKind.i64 (r_5.snd.snd.snd i0))) AV.nil)))
    [] ∧
    ∃ (r_6 : Nat × (Nat → Int) × (Nat → Int) × (Nat → Int)),
    Ok Proofs.Try.prog (37 : Nat)
    [AV.cons (1 : Nat) (AV.vec true (1 : Nat) man man fun (i : Nat) => AV.sc (Value.int IntKind.i64 (maf i)))
    (AV.cons (1 : Nat) (AV.sc (Value.int IntKind.i64 mba))
    (AV.cons (1 : Nat) (AV.sc (Value.int IntKind.i64 mbba))
    (AV.cons (1 : Nat) (AV.sc (Value.bool mbbba))
    (AV.cons (1 : Nat) (AV.sc (Value.int IntKind.i64 mbbbba)) AV.nil))))]
    []
    (AV.vec false (3 : Nat) r_6.fst r_6.fst fun (i0 : Nat) =>
    AV.cons (1 : Nat) (AV.sc (Value.int IntKind.i64 (r_6.snd.fst i0)))
    (AV.cons (1 : Nat) (AV.sc (Value.int IntKind.i64 (r_6.snd.snd.fst i0)))
    (AV.cons (1 : Nat) (AV.sc (Value.int IntKind.i64 (r_6.snd.snd.snd i0))) AV.nil)))
    [] ∧
    ∃ (r_7 : Bool),
    Ok Proofs.Try.prog (35 : Nat)
    [AV.vec true (3 : Nat) r_5.fst r_5.fst fun (i : Nat) =>
    AV.cons (1 : Nat) (AV.sc (Value.int IntKind.i64 (r_5.snd.fst i)))
    (AV.cons (1 : Nat) (AV.sc (Value.int IntKind.i64 (r_5.snd.snd.fst i)))
    (AV.cons (1 : Nat) (AV.sc (Value.int IntKind.i64 (r_5.snd.snd.snd i))) AV.nil)),
    AV.vec true (3 : Nat) r_6.fst r_6.fst fun (i : Nat) =>
    AV.cons (1 : Nat) (AV.sc (Value.int IntKind.i64 (r_6.snd.fst i)))
    (AV.cons (1 : Nat) (AV.sc (Value.int IntKind.i64 (r_6.snd.snd.fst i)))
    (AV.cons (1 : Nat) (AV.sc (Value.int IntKind.i64 (r_6.snd.snd.snd i))) AV.nil))]
    [] (AV.sc (Value.bool r_7)) [] ∧
    (r_7 = true →
    ∃ (r_8 : Bool),
    Ok Proofs.Try.prog (38 : Nat)
    [AV.cons (1 : Nat)
    (AV.vec true (1 : Nat) r.fst r.snd.fst fun (i : Nat) => AV.sc (Value.int IntKind.i64 (r.snd.snd.fst i)))
    (AV.cons (1 : Nat) (AV.sc (Value.int IntKind.i64 r.snd.snd.snd.fst))
    (AV.cons (1 : Nat) (AV.sc (Value.int IntKind.i64 r.snd.snd.snd.snd.fst))
    (AV.cons (1 : Nat) (AV.sc (Value.bool r.snd.snd.snd.snd.snd.fst))
    (AV.cons (1 : Nat) (AV.sc (Value.int IntKind.i64 r.snd.snd.snd.snd.snd.snd)) AV.nil)))),
    AV.cons (1 : Nat) (AV.vec true (1 : Nat) man man fun (i : Nat) => AV.sc (Value.int IntKind.i64 (maf i)))
    (AV.cons (1 : Nat) (AV.sc (Value.int IntKind.i64 mba))
    (AV.cons (1 : Nat) (AV.sc (Value.int IntKind.i64 mbba))
    (AV.cons (1 : Nat) (AV.sc (Value.bool mbbba))
    (AV.cons (1 : Nat) (AV.sc (Value.int IntKind.i64 mbbbba)) AV.nil))))]
    [] (AV.sc (Value.bool r_8)) [] ∧
    (r_8 = true →
    ∃ (r : Nat × Int × Int × Bool × Int × Nat × (Nat → Int)),
    Ok Proofs.Try.prog (31 : Nat) [] []
    (AV.cons (1 : Nat) (AV.rf (1000 : Nat) (1 : Nat) (0 : Nat) r.fst)
    (AV.cons (1 : Nat) (AV.sc (Value.int IntKind.i64 r.snd.fst))
    (AV.cons (1 : Nat) (AV.sc (Value.int IntKind.i64 r.snd.snd.fst))
    (AV.cons (1 : Nat) (AV.sc (Value.bool r.snd.snd.snd.fst))
    (AV.cons (1 : Nat) (AV.sc (Value.int IntKind.i64 r.snd.snd.snd.snd.fst)) AV.nil)))))
    [((1000 : Nat), (3 : Nat),
    AV.ar r.snd.snd.snd.snd.snd.fst (1 : Nat) fun (i0 : Nat) =>
    AV.sc (Value.int IntKind.i64 (r.snd.snd.snd.snd.snd.snd i0)))] ∧
    ∃ (r_9 : Nat × (Nat → Int) × Int × Int × Bool × Int),
    Ok Proofs.Try.prog (33 : Nat) [] []
    (AV.cons (1 : Nat)
    (AV.vec false (1 : Nat) r_9.fst r_9.fst fun (i0 : Nat) =>
    AV.sc (Value.int IntKind.i64 (r_9.snd.fst i0)))
    (AV.cons (1 : Nat) (AV.sc (Value.int IntKind.i64 r_9.snd.snd.fst))
    (AV.cons (1 : Nat) (AV.sc (Value.int IntKind.i64 r_9.snd.snd.snd.fst))
    (AV.cons (1 : Nat) (AV.sc (Value.bool r_9.snd.snd.snd.snd.fst))
    (AV.cons (1 : Nat) (AV.sc (Value.int IntKind.i64 r_9.snd.snd.snd.snd.snd)) AV.nil)))))
    [] ∧
    ∃ (r_10 : Bool),
    ((0 : Nat) + r.fst ≤ r.snd.snd.snd.snd.snd.fst ∧
    Ok Proofs.Try.prog (32 : Nat)
    [AV.cons (1 : Nat)
    (AV.vec true (1 : Nat) r.fst (r.snd.snd.snd.snd.snd.fst - (0 : Nat)) fun (i : Nat) =>
    AV.sc (Value.int IntKind.i64 (r.snd.snd.snd.snd.snd.snd (plus (0 : Nat) i))))
    (AV.cons (1 : Nat) (AV.sc (Value.int IntKind.i64 r.snd.fst))
    (AV.cons (1 : Nat) (AV.sc (Value.int IntKind.i64 r.snd.snd.fst))
    (AV.cons (1 : Nat) (AV.sc (Value.bool r.snd.snd.snd.fst))
    (AV.cons (1 : Nat) (AV.sc (Value.int IntKind.i64 r.snd.snd.snd.snd.fst))
    AV.nil)))),
    AV.cons (1 : Nat)
    (AV.vec true (1 : Nat) r_9.fst r_9.fst fun (i : Nat) =>
    AV.sc (Value.int IntKind.i64 (r_9.snd.fst i)))
    (AV.cons (1 : Nat) (AV.sc (Value.int IntKind.i64 r_9.snd.snd.fst))
    (AV.cons (1 : Nat) (AV.sc (Value.int IntKind.i64 r_9.snd.snd.snd.fst))
    (AV.cons (1 : Nat) (AV.sc (Value.bool r_9.snd.snd.snd.snd.fst))
    (AV.cons (1 : Nat) (AV.sc (Value.int IntKind.i64 r_9.snd.snd.snd.snd.snd))
    AV.nil))))]
    [] (AV.sc (Value.bool r_10)) []) ∧
    (r_10 = true →
    ∃ (r : Bool),
    Ok Proofs.Try.prog (39 : Nat) [] [] (AV.sc (Value.bool r)) [] ∧
    Sub (AV.sc (Value.bool r)) res) ∧
    (r_10 = !true → Sub (AV.sc (Value.bool false)) res)) ∧
    (r_8 = !true → Sub (AV.sc (Value.bool false)) res)) ∧
    (r_7 = !true → Sub (AV.sc (Value.bool false)) res)))) :
    L8_e man maf mba mbba mbbba mbbbba res :=
  rule Go.Am.Seat.tabOk 8 [] Go.Proofs.Try.f8 hf8 [] (s8_e man maf mba mbba mbbba mbbbba) (m8_e man maf mba mbba mbbba mbbbba) res [] 400
    ((Orc.fin (AV.sc (Value.bool true)) [] []).br
  (Orc.call [] []
    (fun (r30 : Nat × Nat × (Nat → Int) × Int × Int × Bool × Int) =>
    AV.cons (1 : Nat) (AV.vec false (1 : Nat) r30.fst r30.snd.fst fun (i0 : Nat) => AV.sc (Value.int IntKind.i64 (r30.snd.snd.fst i0)))
    (AV.cons (1 : Nat) (AV.sc (Value.int IntKind.i64 r30.snd.snd.snd.fst))
    (AV.cons (1 : Nat) (AV.sc (Value.int IntKind.i64 r30.snd.snd.snd.snd.fst))
    (AV.cons (1 : Nat) (AV.sc (Value.bool r30.snd.snd.snd.snd.snd.fst))
    (AV.cons (1 : Nat) (AV.sc (Value.int IntKind.i64 r30.snd.snd.snd.snd.snd.snd)) AV.nil)))))
    (fun (r30 : Nat × Nat × (Nat → Int) × Int × Int × Bool × Int) => []) fun (r30 : Nat × Nat × (Nat → Int) × Int × Int × Bool × Int) =>
    Orc.call [] [((100110 : Nat), (1000 : Nat))]
    (fun (r31 : Nat × Int × Int × Bool × Int × Nat × (Nat → Int)) =>
    AV.cons (1 : Nat) (AV.rf (1000 : Nat) (1 : Nat) (0 : Nat) r31.fst)
    (AV.cons (1 : Nat) (AV.sc (Value.int IntKind.i64 r31.snd.fst))
    (AV.cons (1 : Nat) (AV.sc (Value.int IntKind.i64 r31.snd.snd.fst))
    (AV.cons (1 : Nat) (AV.sc (Value.bool r31.snd.snd.snd.fst)) (AV.cons (1 : Nat) (AV.sc (Value.int IntKind.i64 r31.snd.snd.snd.snd.fst)) AV.nil)))))
    (fun (r31 : Nat × Int × Int × Bool × Int × Nat × (Nat → Int)) =>
    [((1000 : Nat), (3 : Nat),
    AV.ar r31.snd.snd.snd.snd.snd.fst (1 : Nat) fun (i0 : Nat) => AV.sc (Value.int IntKind.i64 (r31.snd.snd.snd.snd.snd.snd i0)))])
    fun (r31 : Nat × Int × Int × Bool × Int × Nat × (Nat → Int)) =>
    Orc.call [] []
    (fun (r33 : Nat × (Nat → Int) × Int × Int × Bool × Int) =>
    AV.cons (1 : Nat) (AV.vec false (1 : Nat) r33.fst r33.fst fun (i0 : Nat) => AV.sc (Value.int IntKind.i64 (r33.snd.fst i0)))
    (AV.cons (1 : Nat) (AV.sc (Value.int IntKind.i64 r33.snd.snd.fst))
    (AV.cons (1 : Nat) (AV.sc (Value.int IntKind.i64 r33.snd.snd.snd.fst))
    (AV.cons (1 : Nat) (AV.sc (Value.bool r33.snd.snd.snd.snd.fst))
    (AV.cons (1 : Nat) (AV.sc (Value.int IntKind.i64 r33.snd.snd.snd.snd.snd)) AV.nil)))))
    (fun (r33 : Nat × (Nat → Int) × Int × Int × Bool × Int) => []) fun (r33 : Nat × (Nat → Int) × Int × Int × Bool × Int) =>
    Orc.call [] [] (fun (r32 : Bool) => AV.sc (Value.bool r32)) (fun (r32 : Bool) => []) fun (r32 : Bool) =>
    (Orc.fin (AV.sc (Value.bool false)) [] []).br
    (Orc.call [((100110 : Nat), (2000 : Nat))] [] (fun (r34 : Int × Nat × (Nat → Int)) => AV.sc (Value.int IntKind.i64 r34.fst))
    (fun (r34 : Int × Nat × (Nat → Int)) =>
    [((2000 : Nat), (3 : Nat), AV.ar r34.snd.fst (1 : Nat) fun (i0 : Nat) => AV.sc (Value.int IntKind.i64 (r34.snd.snd i0)))])
    fun (r34 : Int × Nat × (Nat → Int)) =>
    Orc.call [] []
    (fun (r36 : Nat × (Nat → Int) × (Nat → Int) × (Nat → Int)) =>
    AV.vec false (3 : Nat) r36.fst r36.fst fun (i0 : Nat) =>
    AV.cons (1 : Nat) (AV.sc (Value.int IntKind.i64 (r36.snd.fst i0)))
    (AV.cons (1 : Nat) (AV.sc (Value.int IntKind.i64 (r36.snd.snd.fst i0)))
    (AV.cons (1 : Nat) (AV.sc (Value.int IntKind.i64 (r36.snd.snd.snd i0))) AV.nil)))
    (fun (r36 : Nat × (Nat → Int) × (Nat → Int) × (Nat → Int)) => []) fun (r36 : Nat × (Nat → Int) × (Nat → Int) × (Nat → Int)) =>
    Orc.call [] []
    (fun (r37 : Nat × (Nat → Int) × (Nat → Int) × (Nat → Int)) =>
    AV.vec false (3 : Nat) r37.fst r37.fst fun (i0 : Nat) =>
    AV.cons (1 : Nat) (AV.sc (Value.int IntKind.i64 (r37.snd.fst i0)))
    (AV.cons (1 : Nat) (AV.sc (Value.int IntKind.i64 (r37.snd.snd.fst i0)))
    (AV.cons (1 : Nat) (AV.sc (Value.int IntKind.i64 (r37.snd.snd.snd i0))) AV.nil)))
    (fun (r37 : Nat × (Nat → Int) × (Nat → Int) × (Nat → Int)) => []) fun (r37 : Nat × (Nat → Int) × (Nat → Int) × (Nat → Int)) =>
    Orc.call [] [] (fun (r35 : Bool) => AV.sc (Value.bool r35)) (fun (r35 : Bool) => []) fun (r35 : Bool) =>
    (Orc.call [] [] (fun (r38 : Bool) => AV.sc (Value.bool r38)) (fun (r38 : Bool) => []) fun (r38 : Bool) =>
    Orc.ch (Ch.p true)
    ((Orc.call [] [((100300 : Nat), (1000 : Nat))]
    (fun (r31 : Nat × Int × Int × Bool × Int × Nat × (Nat → Int)) =>
    AV.cons (1 : Nat) (AV.rf (1000 : Nat) (1 : Nat) (0 : Nat) r31.fst)
    (AV.cons (1 : Nat) (AV.sc (Value.int IntKind.i64 r31.snd.fst))
    (AV.cons (1 : Nat) (AV.sc (Value.int IntKind.i64 r31.snd.snd.fst))
    (AV.cons (1 : Nat) (AV.sc (Value.bool r31.snd.snd.snd.fst))
    (AV.cons (1 : Nat) (AV.sc (Value.int IntKind.i64 r31.snd.snd.snd.snd.fst)) AV.nil)))))
    (fun (r31 : Nat × Int × Int × Bool × Int × Nat × (Nat → Int)) =>
    [((1000 : Nat), (3 : Nat),
    AV.ar r31.snd.snd.snd.snd.snd.fst (1 : Nat) fun (i0 : Nat) =>
    AV.sc (Value.int IntKind.i64 (r31.snd.snd.snd.snd.snd.snd i0)))])
    fun (r31 : Nat × Int × Int × Bool × Int × Nat × (Nat → Int)) =>
    (Orc.call [] []
    (fun (r33 : Nat × (Nat → Int) × Int × Int × Bool × Int) =>
    AV.cons (1 : Nat)
    (AV.vec false (1 : Nat) r33.fst r33.fst fun (i0 : Nat) => AV.sc (Value.int IntKind.i64 (r33.snd.fst i0)))
    (AV.cons (1 : Nat) (AV.sc (Value.int IntKind.i64 r33.snd.snd.fst))
    (AV.cons (1 : Nat) (AV.sc (Value.int IntKind.i64 r33.snd.snd.snd.fst))
    (AV.cons (1 : Nat) (AV.sc (Value.bool r33.snd.snd.snd.snd.fst))
    (AV.cons (1 : Nat) (AV.sc (Value.int IntKind.i64 r33.snd.snd.snd.snd.snd)) AV.nil)))))
    (fun (r33 : Nat × (Nat → Int) × Int × Int × Bool × Int) => [])
    fun (r33 : Nat × (Nat → Int) × Int × Int × Bool × Int) =>
    (Orc.call [] [] (fun (r32 : Bool) => AV.sc (Value.bool r32)) (fun (r32 : Bool) => []) fun (r32 : Bool) =>
    Orc.ch (Ch.p true)
    ((Orc.call [] [] (fun (r39 : Bool) => AV.sc (Value.bool r39)) (fun (r39 : Bool) => []) fun (r39 : Bool) =>
    Orc.ch (Ch.p true) (Orc.fin (AV.sc (Value.bool r39)) [] [])).br
    (Orc.ch (Ch.p false) (Orc.fin (AV.sc (Value.bool false)) [] [])))).yes).yes).br
    (Orc.ch (Ch.p false) (Orc.ch (Ch.p false) (Orc.fin (AV.sc (Value.bool false)) [] [])).no).no.no)).yes.yes.br
    (Orc.ch (Ch.p false) (Orc.ch (Ch.p false) (Orc.ch (Ch.p false) (Orc.fin (AV.sc (Value.bool false)) [] [])).no).no.no.no).no.no))) _ _ (by kernel_rfl) (by kernel_rfl) (show True ∧
  True ∧
    True ∧
    ((0 : Nat) = plus (0 : Nat) (0 : Nat) ∧ True) ∧
    True ∧
    True ∧
    (decide ((↑man : Int) > (10000 : Int)) = true →
    True ∧
    True ∧ ((True ∧ Sub (AV.sc (Value.bool true)) (AV.sc (Value.bool true)) ∧ True) ∧ True) ∧ Sub (AV.sc (Value.bool true)) res ∧ SubOut [] []) ∧
    (decide ((↑man : Int) > (10000 : Int)) = false →
    ((0 : Nat) = (0 : Nat) ∧ True) ∧
    ∃ (r : Nat × Nat × (Nat → Int) × Int × Int × Bool × Int),
    (((True ∧ True ∧ True ∧ True ∧ True ∧ True) ∧ True) ∧
    True ∧
    Ok Proofs.Try.prog (30 : Nat)
    [AV.cons (1 : Nat) (AV.vec true (1 : Nat) man man fun (i : Nat) => AV.sc (Value.int IntKind.i64 (maf i)))
    (AV.cons (1 : Nat) (AV.sc (Value.int IntKind.i64 mba))
    (AV.cons (1 : Nat) (AV.sc (Value.int IntKind.i64 mbba))
    (AV.cons (1 : Nat) (AV.sc (Value.bool mbbba)) (AV.cons (1 : Nat) (AV.sc (Value.int IntKind.i64 mbbbba)) AV.nil))))]
    []
    (AV.cons (1 : Nat) (AV.vec false (1 : Nat) r.fst r.snd.fst fun (i0 : Nat) => AV.sc (Value.int IntKind.i64 (r.snd.snd.fst i0)))
    (AV.cons (1 : Nat) (AV.sc (Value.int IntKind.i64 r.snd.snd.snd.fst))
    (AV.cons (1 : Nat) (AV.sc (Value.int IntKind.i64 r.snd.snd.snd.snd.fst))
    (AV.cons (1 : Nat) (AV.sc (Value.bool r.snd.snd.snd.snd.snd.fst))
    (AV.cons (1 : Nat) (AV.sc (Value.int IntKind.i64 r.snd.snd.snd.snd.snd.snd)) AV.nil)))))
    []) ∧
    True ∧
    ((0 : Nat) = (0 : Nat) ∧ True) ∧
    ∃ (r_1 : Nat × Int × Int × Bool × Int × Nat × (Nat → Int)),
    (True ∧
    True ∧
    Ok Proofs.Try.prog (31 : Nat) [] []
    (AV.cons (1 : Nat) (AV.rf (1000 : Nat) (1 : Nat) (0 : Nat) r_1.fst)
    (AV.cons (1 : Nat) (AV.sc (Value.int IntKind.i64 r_1.snd.fst))
    (AV.cons (1 : Nat) (AV.sc (Value.int IntKind.i64 r_1.snd.snd.fst))
    (AV.cons (1 : Nat) (AV.sc (Value.bool r_1.snd.snd.snd.fst))
    (AV.cons (1 : Nat) (AV.sc (Value.int IntKind.i64 r_1.snd.snd.snd.snd.fst)) AV.nil)))))
    [((1000 : Nat), (3 : Nat),
    AV.ar r_1.snd.snd.snd.snd.snd.fst (1 : Nat) fun (i0 : Nat) =>
    AV.sc (Value.int IntKind.i64 (r_1.snd.snd.snd.snd.snd.snd i0)))]) ∧
    True ∧
    ((0 : Nat) = (0 : Nat) ∧ True) ∧
    ((0 : Nat) = (0 : Nat) ∧ True) ∧
    ∃ (r_2 : Nat × (Nat → Int) × Int × Int × Bool × Int),
    (True ∧
    True ∧
    Ok Proofs.Try.prog (33 : Nat) [] []
    (AV.cons (1 : Nat)
    (AV.vec false (1 : Nat) r_2.fst r_2.fst fun (i0 : Nat) => AV.sc (Value.int IntKind.i64 (r_2.snd.fst i0)))
    (AV.cons (1 : Nat) (AV.sc (Value.int IntKind.i64 r_2.snd.snd.fst))
    (AV.cons (1 : Nat) (AV.sc (Value.int IntKind.i64 r_2.snd.snd.snd.fst))
    (AV.cons (1 : Nat) (AV.sc (Value.bool r_2.snd.snd.snd.snd.fst))
    (AV.cons (1 : Nat) (AV.sc (Value.int IntKind.i64 r_2.snd.snd.snd.snd.snd)) AV.nil)))))
    []) ∧
    ∃ (r_3 : Bool),
    ((((0 : Nat) + r_1.fst ≤ r_1.snd.snd.snd.snd.snd.fst ∧ True ∧ True ∧ True ∧ True ∧ True) ∧
    (True ∧ True ∧ True ∧ True ∧ True ∧ True) ∧ True) ∧
    True ∧
    Ok Proofs.Try.prog (32 : Nat)
    [AV.cons (1 : Nat)
    (AV.vec true (1 : Nat) r_1.fst (r_1.snd.snd.snd.snd.snd.fst - (0 : Nat)) fun (i : Nat) =>
    AV.sc (Value.int IntKind.i64 (r_1.snd.snd.snd.snd.snd.snd (plus (0 : Nat) i))))
    (AV.cons (1 : Nat) (AV.sc (Value.int IntKind.i64 r_1.snd.fst))
    (AV.cons (1 : Nat) (AV.sc (Value.int IntKind.i64 r_1.snd.snd.fst))
    (AV.cons (1 : Nat) (AV.sc (Value.bool r_1.snd.snd.snd.fst))
    (AV.cons (1 : Nat) (AV.sc (Value.int IntKind.i64 r_1.snd.snd.snd.snd.fst)) AV.nil)))),
    AV.cons (1 : Nat)
    (AV.vec true (1 : Nat) r_2.fst r_2.fst fun (i : Nat) => AV.sc (Value.int IntKind.i64 (r_2.snd.fst i)))
    (AV.cons (1 : Nat) (AV.sc (Value.int IntKind.i64 r_2.snd.snd.fst))
    (AV.cons (1 : Nat) (AV.sc (Value.int IntKind.i64 r_2.snd.snd.snd.fst))
    (AV.cons (1 : Nat) (AV.sc (Value.bool r_2.snd.snd.snd.snd.fst))
    (AV.cons (1 : Nat) (AV.sc (Value.int IntKind.i64 r_2.snd.snd.snd.snd.snd)) AV.nil))))]
    [] (AV.sc (Value.bool r_3)) []) ∧
    True ∧
    ((!r_3) = true →
    True ∧
    True ∧
    ((True ∧ Sub (AV.sc (Value.bool false)) (AV.sc (Value.bool false)) ∧ True) ∧ True) ∧
    Sub (AV.sc (Value.bool false)) res ∧ SubOut [] []) ∧
    ((!r_3) = false →
    True ∧
    ((0 : Nat) = plus (0 : Nat) (0 : Nat) ∧ True) ∧
    ∃ (r_4 : Int × Nat × (Nat → Int)),
    ((True ∧ True ∧ True) ∧
    (True ∧ True) ∧
    Ok Proofs.Try.prog (34 : Nat)
    [AV.rf (2000 : Nat) (1 : Nat) (0 : Nat) r_1.fst, AV.sc (Value.int IntKind.i64 (0 : Int))]
    [((2000 : Nat), (3 : Nat),
    AV.ar r_1.snd.snd.snd.snd.snd.fst (1 : Nat) fun (i : Nat) =>
    AV.sc (Value.int IntKind.i64 (r_1.snd.snd.snd.snd.snd.snd i)))]
    (AV.sc (Value.int IntKind.i64 r_4.fst))
    [((2000 : Nat), (3 : Nat),
    AV.ar r_4.snd.fst (1 : Nat) fun (i0 : Nat) =>
    AV.sc (Value.int IntKind.i64 (r_4.snd.snd i0)))]) ∧
    ((0 : Nat) = (0 : Nat) ∧ True) ∧
    ∃ (r_5 : Nat × (Nat → Int) × (Nat → Int) × (Nat → Int)),
    (((True ∧ True ∧ True ∧ True ∧ True ∧ True) ∧ True) ∧
    True ∧
    Ok Proofs.Try.prog (36 : Nat)
    [AV.cons (1 : Nat)
    (AV.vec true (1 : Nat) r.fst r.snd.fst fun (i : Nat) =>
    AV.sc (Value.int IntKind.i64 (r.snd.snd.fst i)))
    (AV.cons (1 : Nat) (AV.sc (Value.int IntKind.i64 r.snd.snd.snd.fst))
    (AV.cons (1 : Nat) (AV.sc (Value.int IntKind.i64 r.snd.snd.snd.snd.fst))
    (AV.cons (1 : Nat) (AV.sc (Value.bool r.snd.snd.snd.snd.snd.fst))
    (AV.cons (1 : Nat) (AV.sc (Value.int IntKind.i64 r.snd.snd.snd.snd.snd.snd))
    AV.nil))))]
    []
    (AV.vec false (3 : Nat) r_5.fst r_5.fst fun (i0 : Nat) =>
    AV.cons (1 : Nat) (AV.sc (Value.int IntKind.i64 (r_5.snd.fst i0)))
    (AV.cons (1 : Nat) (AV.sc (Value.int IntKind.i64 (r_5.snd.snd.fst i0)))
    (AV.cons (1 : Nat) (AV.sc (Value.int IntKind.i64 (r_5.snd.snd.snd i0))) AV.nil)))
    []) ∧
    ((0 : Nat) = (0 : Nat) ∧ True) ∧
    ∃ (r_6 : Nat × (Nat → Int) × (Nat → Int) × (Nat → Int)),
    (((True ∧ True ∧ True ∧ True ∧ True ∧ True) ∧ True) ∧
    True ∧
    Ok Proofs.Try.prog (37 : Nat)
    [AV.cons (1 : Nat)
    (AV.vec true (1 : Nat) man man fun (i : Nat) =>
    AV.sc (Value.int IntKind.i64 (maf i)))
    (AV.cons (1 : Nat) (AV.sc (Value.int IntKind.i64 mba))
    (AV.cons (1 : Nat) (AV.sc (Value.int IntKind.i64 mbba))
    (AV.cons (1 : Nat) (AV.sc (Value.bool mbbba))
    (AV.cons (1 : Nat) (AV.sc (Value.int IntKind.i64 mbbbba)) AV.nil))))]
    []
    (AV.vec false (3 : Nat) r_6.fst r_6.fst fun (i0 : Nat) =>
    AV.cons (1 : Nat) (AV.sc (Value.int IntKind.i64 (r_6.snd.fst i0)))
    (AV.cons (1 : Nat) (AV.sc (Value.int IntKind.i64 (r_6.snd.snd.fst i0)))
    (AV.cons (1 : Nat) (AV.sc (Value.int IntKind.i64 (r_6.snd.snd.snd i0)))
    AV.nil)))
    []) ∧
    ∃ (r_7 : Bool),
    ((True ∧ True ∧ True) ∧
    True ∧
    Ok Proofs.Try.prog (35 : Nat)
    [AV.vec true (3 : Nat) r_5.fst r_5.fst fun (i : Nat) =>
    AV.cons (1 : Nat) (AV.sc (Value.int IntKind.i64 (r_5.snd.fst i)))
    (AV.cons (1 : Nat) (AV.sc (Value.int IntKind.i64 (r_5.snd.snd.fst i)))
    (AV.cons (1 : Nat) (AV.sc (Value.int IntKind.i64 (r_5.snd.snd.snd i)))
    AV.nil)),
    AV.vec true (3 : Nat) r_6.fst r_6.fst fun (i : Nat) =>
    AV.cons (1 : Nat) (AV.sc (Value.int IntKind.i64 (r_6.snd.fst i)))
    (AV.cons (1 : Nat) (AV.sc (Value.int IntKind.i64 (r_6.snd.snd.fst i)))
    (AV.cons (1 : Nat) (AV.sc (Value.int IntKind.i64 (r_6.snd.snd.snd i)))
    AV.nil))]
    [] (AV.sc (Value.bool r_7)) []) ∧
    True ∧
    (r_7 = true →
    ((0 : Nat) = (0 : Nat) ∧ True) ∧
    r_7 = true ∧
    ((0 : Nat) = (0 : Nat) ∧ True) ∧
    r_7 = true ∧
    ∃ (r_8 : Bool),
    (((True ∧ True ∧ True ∧ True ∧ True ∧ True) ∧
    (True ∧ True ∧ True ∧ True ∧ True ∧ True) ∧ True) ∧
    True ∧
    Ok Proofs.Try.prog (38 : Nat)
    [AV.cons (1 : Nat)
    (AV.vec true (1 : Nat) r.fst r.snd.fst fun (i : Nat) =>
    AV.sc (Value.int IntKind.i64 (r.snd.snd.fst i)))
    (AV.cons (1 : Nat)
    (AV.sc (Value.int IntKind.i64 r.snd.snd.snd.fst))
    (AV.cons (1 : Nat)
    (AV.sc (Value.int IntKind.i64 r.snd.snd.snd.snd.fst))
    (AV.cons (1 : Nat)
    (AV.sc (Value.bool r.snd.snd.snd.snd.snd.fst))
    (AV.cons (1 : Nat)
    (AV.sc
    (Value.int IntKind.i64
    r.snd.snd.snd.snd.snd.snd))
    AV.nil)))),
    AV.cons (1 : Nat)
    (AV.vec true (1 : Nat) man man fun (i : Nat) =>
    AV.sc (Value.int IntKind.i64 (maf i)))
    (AV.cons (1 : Nat) (AV.sc (Value.int IntKind.i64 mba))
    (AV.cons (1 : Nat) (AV.sc (Value.int IntKind.i64 mbba))
    (AV.cons (1 : Nat) (AV.sc (Value.bool mbbba))
    (AV.cons (1 : Nat)
    (AV.sc (Value.int IntKind.i64 mbbbba)) AV.nil))))]
    [] (AV.sc (Value.bool r_8)) []) ∧
    r_7 = true ∧
    True ∧
    (r_8 = true →
    ∃ (r : Nat × Int × Int × Bool × Int × Nat × (Nat → Int)),
    (True ∧
    True ∧
    Ok Proofs.Try.prog (31 : Nat) [] []
    (AV.cons (1 : Nat)
    (AV.rf (1000 : Nat) (1 : Nat) (0 : Nat) r.fst)
    (AV.cons (1 : Nat)
    (AV.sc (Value.int IntKind.i64 r.snd.fst))
    (AV.cons (1 : Nat)
    (AV.sc
    (Value.int IntKind.i64 r.snd.snd.fst))
    (AV.cons (1 : Nat)
    (AV.sc (Value.bool r.snd.snd.snd.fst))
    (AV.cons (1 : Nat)
    (AV.sc
    (Value.int IntKind.i64
    r.snd.snd.snd.snd.fst))
    AV.nil)))))
    [((1000 : Nat), (3 : Nat),
    AV.ar r.snd.snd.snd.snd.snd.fst (1 : Nat)
    fun (i0 : Nat) =>
    AV.sc
    (Value.int IntKind.i64
    (r.snd.snd.snd.snd.snd.snd i0)))]) ∧
    r_8 = true ∧
    ∃ (r_9 : Nat × (Nat → Int) × Int × Int × Bool × Int),
    (True ∧
    True ∧
    Ok Proofs.Try.prog (33 : Nat) [] []
    (AV.cons (1 : Nat)
    (AV.vec false (1 : Nat) r_9.fst r_9.fst
    fun (i0 : Nat) =>
    AV.sc
    (Value.int IntKind.i64
    (r_9.snd.fst i0)))
    (AV.cons (1 : Nat)
    (AV.sc
    (Value.int IntKind.i64
    r_9.snd.snd.fst))
    (AV.cons (1 : Nat)
    (AV.sc
    (Value.int IntKind.i64
    r_9.snd.snd.snd.fst))
    (AV.cons (1 : Nat)
    (AV.sc
    (Value.bool
    r_9.snd.snd.snd.snd.fst))
    (AV.cons (1 : Nat)
    (AV.sc
    (Value.int IntKind.i64
    r_9.snd.snd.snd.snd.snd))
    AV.nil)))))
    []) ∧
    r_8 = true ∧
    ∃ (r_10 : Bool),
    ((((0 : Nat) + r.fst ≤
    r.snd.snd.snd.snd.snd.fst ∧
    True ∧ True ∧ True ∧ True ∧ True) ∧
    (True ∧
    True ∧ True ∧ True ∧ True ∧ True) ∧
    True) ∧
    True ∧
    Ok Proofs.Try.prog (32 : Nat)
    [AV.cons (1 : Nat)
    (AV.vec true (1 : Nat) r.fst
    (r.snd.snd.snd.snd.snd.fst -
    (0 : Nat))
    fun (i : Nat) =>
    AV.sc
    (Value.int IntKind.i64
    (r.snd.snd.snd.snd.snd.snd
    (plus (0 : Nat) i))))
    (AV.cons (1 : Nat)
    (AV.sc
    (Value.int IntKind.i64
    r.snd.fst))
    (AV.cons (1 : Nat)
    (AV.sc
    (Value.int IntKind.i64
    r.snd.snd.fst))
    (AV.cons (1 : Nat)
    (AV.sc
    (Value.bool
    r.snd.snd.snd.fst))
    (AV.cons (1 : Nat)
    (AV.sc
    (Value.int IntKind.i64
    r.snd.snd.snd.snd.fst))
    AV.nil)))),
    AV.cons (1 : Nat)
    (AV.vec true (1 : Nat) r_9.fst
    r_9.fst fun (i : Nat) =>
    AV.sc
    (Value.int IntKind.i64
    (r_9.snd.fst i)))
    (AV.cons (1 : Nat)
    (AV.sc
    (Value.int IntKind.i64
    r_9.snd.snd.fst))
    (AV.cons (1 : Nat)
    (AV.sc
    (Value.int IntKind.i64
    r_9.snd.snd.snd.fst))
    (AV.cons (1 : Nat)
    (AV.sc
    (Value.bool
    r_9.snd.snd.snd.snd.fst))
    (AV.cons (1 : Nat)
    (AV.sc
    (Value.int IntKind.i64
    r_9.snd.snd.snd.snd.snd))
    AV.nil))))]
    [] (AV.sc (Value.bool r_10)) []) ∧
    r_8 = true ∧
    True ∧
    (r_10 = true →
    ∃ (r : Bool),
    (True ∧
    True ∧
    Ok Proofs.Try.prog
    (39 : Nat) [] []
    (AV.sc (Value.bool r))
    []) ∧
    r_10 = true ∧
    True ∧
    True ∧
    ((True ∧
    Sub
    (AV.sc
    (Value.bool
    r))
    (AV.sc
    (Value.bool
    r)) ∧
    True) ∧
    True) ∧
    Sub
    (AV.sc
    (Value.bool r))
    res ∧
    SubOut [] []) ∧
    (r_10 = !true →
    true = true ∧
    r_10 = false ∧
    True ∧
    True ∧
    ((True ∧
    Sub
    (AV.sc
    (Value.bool
    false))
    (AV.sc
    (Value.bool
    false)) ∧
    True) ∧
    True) ∧
    Sub
    (AV.sc
    (Value.bool false))
    res ∧
    SubOut [] [])) ∧
    (r_8 = !true →
    true = true ∧
    r_8 = !true ∧
    true = true ∧
    r_8 = !true ∧
    true = true ∧
    r_8 = false ∧
    True ∧
    false = !true ∧
    true = true ∧
    false = false ∧
    True ∧
    True ∧
    ((True ∧
    Sub (AV.sc (Value.bool false))
    (AV.sc
    (Value.bool false)) ∧
    True) ∧
    True) ∧
    Sub (AV.sc (Value.bool false))
    res ∧
    SubOut [] [])) ∧
    (r_7 = !true →
    true = true ∧
    r_7 = !true ∧
    true = true ∧
    r_7 = !true ∧
    true = true ∧
    r_7 = false ∧
    True ∧
    false = !true ∧
    true = true ∧
    false = !true ∧
    true = true ∧
    false = !true ∧
    true = true ∧
    false = false ∧
    True ∧
    false = !true ∧
    true = true ∧
    false = false ∧
    True ∧
    True ∧
    ((True ∧
    Sub (AV.sc (Value.bool false))
    (AV.sc (Value.bool false)) ∧
    True) ∧
    True) ∧
    Sub (AV.sc (Value.bool false)) res ∧
    SubOut [] []))) from
    ⟨trivial, ⟨trivial, ⟨trivial, ⟨⟨rfl, trivial⟩, ⟨trivial, ⟨trivial, (And.elim (fun h6 k6 => ⟨(fun x7 => (fun h7 => ⟨trivial, ⟨trivial, ⟨⟨⟨trivial, ⟨Sub.refl _, trivial⟩⟩, trivial⟩, ((fun h11 => ⟨h11, trivial⟩) h7)⟩⟩⟩) (h6 x7)), (fun x7 => (fun h7 => ⟨⟨rfl, trivial⟩, (Exists.elim h7 fun x9 h9 => ⟨x9, (And.elim (fun h10 k10 => ⟨⟨⟨⟨trivial, ⟨trivial, ⟨trivial, ⟨trivial, ⟨trivial, trivial⟩⟩⟩⟩⟩, trivial⟩, ⟨trivial, h10⟩⟩, ⟨trivial, ⟨⟨rfl, trivial⟩, (Exists.elim k10 fun x13 h13 => ⟨x13, (And.elim (fun h14 k14 => ⟨⟨trivial, ⟨trivial, h14⟩⟩, ⟨trivial, ⟨⟨rfl, trivial⟩, ⟨⟨rfl, trivial⟩, (Exists.elim k14 fun x18 h18 => ⟨x18, (And.elim (fun h19 k19 => ⟨⟨trivial, ⟨trivial, h19⟩⟩, (Exists.elim k19 fun x20 h20 => ⟨x20, (And.elim (fun h21 k21 => ⟨(And.elim (fun h22 k22 => ⟨((fun h23 => ⟨((fun h24 => ⟨h24, ⟨trivial, ⟨trivial, ⟨trivial, ⟨trivial, trivial⟩⟩⟩⟩⟩) h23), ⟨⟨trivial, ⟨trivial, ⟨trivial, ⟨trivial, ⟨trivial, trivial⟩⟩⟩⟩⟩, trivial⟩⟩) h22), ⟨trivial, k22⟩⟩) h21), ⟨trivial, (And.elim (fun h23 k23 => ⟨(fun x24 => (fun h24 => ⟨trivial, ⟨trivial, ⟨⟨⟨trivial, ⟨Sub.refl _, trivial⟩⟩, trivial⟩, ((fun h28 => ⟨h28, trivial⟩) h24)⟩⟩⟩) (h23 x24)), (fun x24 => (fun h24 => ⟨trivial, ⟨⟨rfl, trivial⟩, (Exists.elim h24 fun x27 h27 => ⟨x27, (And.elim (fun h28 k28 => ⟨⟨⟨trivial, ⟨trivial, trivial⟩⟩, ⟨⟨trivial, trivial⟩, h28⟩⟩, ⟨⟨rfl, trivial⟩, (Exists.elim k28 fun x30 h30 => ⟨x30, (And.elim (fun h31 k31 => ⟨⟨⟨⟨trivial, ⟨trivial, ⟨trivial, ⟨trivial, ⟨trivial, trivial⟩⟩⟩⟩⟩, trivial⟩, ⟨trivial, h31⟩⟩, ⟨⟨rfl, trivial⟩, (Exists.elim k31 fun x33 h33 => ⟨x33, (And.elim (fun h34 k34 => ⟨⟨⟨⟨trivial, ⟨trivial, ⟨trivial, ⟨trivial, ⟨trivial, trivial⟩⟩⟩⟩⟩, trivial⟩, ⟨trivial, h34⟩⟩, (Exists.elim k34 fun x35 h35 => ⟨x35, (And.elim (fun h36 k36 => ⟨⟨⟨trivial, ⟨trivial, trivial⟩⟩, ⟨trivial, h36⟩⟩, ⟨trivial, (And.elim (fun h38 k38 => ⟨(fun x39 => (fun h39 => ⟨⟨rfl, trivial⟩, ⟨x39, ⟨⟨rfl, trivial⟩, ⟨x39, (Exists.elim h39 fun x44 h44 => ⟨x44, (And.elim (fun h45 k45 => ⟨⟨⟨⟨trivial, ⟨trivial, ⟨trivial, ⟨trivial, ⟨trivial, trivial⟩⟩⟩⟩⟩, ⟨⟨trivial, ⟨trivial, ⟨trivial, ⟨trivial, ⟨trivial, trivial⟩⟩⟩⟩⟩, trivial⟩⟩, ⟨trivial, h45⟩⟩, ⟨x39, ⟨trivial, (And.elim (fun h48 k48 => ⟨(fun x49 => (fun h49 => (Exists.elim h49 fun x50 h50 => ⟨x50, (And.elim (fun h51 k51 => ⟨⟨trivial, ⟨trivial, h51⟩⟩, ⟨x49, (Exists.elim k51 fun x53 h53 => ⟨x53, (And.elim (fun h54 k54 => ⟨⟨trivial, ⟨trivial, h54⟩⟩, ⟨x49, (Exists.elim k54 fun x56 h56 => ⟨x56, (And.elim (fun h57 k57 => ⟨(And.elim (fun h58 k58 => ⟨((fun h59 => ⟨((fun h60 => ⟨h60, ⟨trivial, ⟨trivial, ⟨trivial, ⟨trivial, trivial⟩⟩⟩⟩⟩) h59), ⟨⟨trivial, ⟨trivial, ⟨trivial, ⟨trivial, ⟨trivial, trivial⟩⟩⟩⟩⟩, trivial⟩⟩) h58), ⟨trivial, k58⟩⟩) h57), ⟨x49, ⟨trivial, (And.elim (fun h60 k60 => ⟨(fun x61 => (fun h61 => (Exists.elim h61 fun x62 h62 => ⟨x62, (And.elim (fun h63 k63 => ⟨⟨trivial, ⟨trivial, h63⟩⟩, ⟨x61, ⟨trivial, ⟨trivial, ⟨⟨⟨trivial, ⟨Sub.refl _, trivial⟩⟩, trivial⟩, ((fun h68 => ⟨h68, trivial⟩) k63)⟩⟩⟩⟩⟩) h62)⟩)) (h60 x61)), (fun x61 => (fun h61 => ⟨rfl, ⟨x61, ⟨trivial, ⟨trivial, ⟨⟨⟨trivial, ⟨Sub.refl _, trivial⟩⟩, trivial⟩, ((fun h67 => ⟨h67, trivial⟩) h61)⟩⟩⟩⟩⟩) (k60 x61))⟩) k57)⟩⟩⟩) h56)⟩)⟩⟩) h53)⟩)⟩⟩) h50)⟩)) (h48 x49)), (fun x49 => (fun h49 => ⟨rfl, ⟨x49, ⟨rfl, ⟨x49, ⟨rfl, ⟨x49, ⟨trivial, ⟨rfl, ⟨rfl, ⟨rfl, ⟨trivial, ⟨trivial, ⟨⟨⟨trivial, ⟨Sub.refl _, trivial⟩⟩, trivial⟩, ((fun h63 => ⟨h63, trivial⟩) h49)⟩⟩⟩⟩⟩⟩⟩⟩⟩⟩⟩⟩⟩) (k48 x49))⟩) k45)⟩⟩⟩) h44)⟩)⟩⟩⟩⟩) (h38 x39)), (fun x39 => (fun h39 => ⟨rfl, ⟨x39, ⟨rfl, ⟨x39, ⟨rfl, ⟨x39, ⟨trivial, ⟨rfl, ⟨rfl, ⟨rfl, ⟨rfl, ⟨rfl, ⟨rfl, ⟨rfl, ⟨trivial, ⟨rfl, ⟨rfl, ⟨rfl, ⟨trivial, ⟨trivial, ⟨⟨⟨trivial, ⟨Sub.refl _, trivial⟩⟩, trivial⟩, ((fun h61 => ⟨h61, trivial⟩) h39)⟩⟩⟩⟩⟩⟩⟩⟩⟩⟩⟩⟩⟩⟩⟩⟩⟩⟩⟩⟩⟩) (k38 x39))⟩) k36)⟩⟩) h35)⟩)⟩) h33)⟩)⟩⟩) h30)⟩)⟩⟩) h27)⟩)⟩⟩) (k23 x24))⟩) k21)⟩⟩) h20)⟩)⟩) h18)⟩)⟩⟩⟩⟩) h13)⟩)⟩⟩⟩) h9)⟩)⟩) (k6 x7))⟩) h)⟩⟩⟩⟩⟩⟩)
theorem hf30 : Go.Proofs.Try.prog.funcs[30]? = some Go.Proofs.Try.f30 := by kernel_rfl
abbrev s30_e (man : Nat) (maf : Nat → Int) (mba : Int) (mbba : Int) (mbbba : Bool) (mbbbba : Int) : List (Nat × AV) := [(0, (.cons 1 (.vec true 1 man man (fun i0 => (.sc (.int .i64 (maf i0))))) (.cons 1 (.sc (.int .i64 mba)) (.cons 1 (.sc (.int .i64 mbba)) (.cons 1 (.sc (.bool mbbba)) (.cons 1 (.sc (.int .i64 mbbbba)) .nil))))))]
abbrev m30_e (man : Nat) (maf : Nat → Int) (mba : Int) (mbba : Int) (mbbba : Bool) (mbbbba : Int) : List (Nat × Nat × AV) := []
def L30_e (man : Nat) (maf : Nat → Int) (mba : Int) (mbba : Int) (mbbba : Bool) (mbbbba : Int) (res : AV) : Prop := Goes ⟨Go.Proofs.Try.prog, 30, [], res, []⟩ (place Go.Proofs.Try.f30 []) (s30_e man maf mba mbba mbbba mbbbba) (m30_e man maf mba mbba mbbba mbbbba)
theorem o30 (man : Nat) (maf : Nat → Int) (mba : Int) (mbba : Int) (mbbba : Bool) (mbbbba : Int) (res : AV) (hnew : newOnly res) (h : L30_e man maf mba mbba mbbba mbbbba res) : Ok Go.Proofs.Try.prog 30 [(.cons 1 (.vec true 1 man man (fun i0 => (.sc (.int .i64 (maf i0))))) (.cons 1 (.sc (.int .i64 mba)) (.cons 1 (.sc (.int .i64 mbba)) (.cons 1 (.sc (.bool mbbba)) (.cons 1 (.sc (.int .i64 mbbbba)) .nil)))))] [] res [] :=
  okRule2 30 Go.Proofs.Try.f30 hf30 [(.cons 1 (.vec true 1 man man (fun i0 => (.sc (.int .i64 (maf i0))))) (.cons 1 (.sc (.int .i64 mba)) (.cons 1 (.sc (.int .i64 mbba)) (.cons 1 (.sc (.bool mbbba)) (.cons 1 (.sc (.int .i64 mbbbba)) .nil)))))] [] res [] [] rfl (by kernel_rfl) (by kernel_rfl) (by kernel_rfl) ⟨hnew, by simp⟩ (L30_e man maf mba mbba mbbba mbbbba res) (by kernel_rfl) h
theorem r30_e (man : Nat) (maf : Nat → Int) (mba : Int) (mbba : Int) (mbbba : Bool) (mbbbba : Int) (res : AV)
    (h : ∃ (r : Nat × Nat × (Nat → Int)),
  Ok Proofs.Try.prog (53 : Nat) [AV.vec true (1 : Nat) man man fun (i : Nat) => AV.sc (Value.int IntKind.i64 (maf i))] []
    (AV.vec false (1 : Nat) r.fst r.snd.fst fun (i0 : Nat) => AV.sc (Value.int IntKind.i64 (r.snd.snd i0))) [] ∧
    Sub
    (AV.cons (1 : Nat) (AV.vec false (1 : Nat) r.fst r.snd.fst fun (i0 : Nat) => AV.sc (Value.int IntKind.i64 (r.snd.snd i0)))
    (AV.cons (1 : Nat) (AV.sc (Value.int IntKind.i64 mba))
    (AV.cons (1 : Nat) (AV.sc (Value.int IntKind.i64 mbba))
    (AV.cons (1 : Nat) (AV.sc (Value.bool mbbba)) (AV.cons (1 : Nat) (AV.sc (Value.int IntKind.i64 mbbbba)) AV.nil)))))
    res) :
    L30_e man maf mba mbba mbbba mbbbba res :=
  rule Go.Am.Seat.tabOk 30 [] Go.Proofs.Try.f30 hf30 [] (s30_e man maf mba mbba mbbba mbbbba) (m30_e man maf mba mbba mbbba mbbbba) res [] 400
    (Orc.call [] []
  (fun (r53 : Nat × Nat × (Nat → Int)) => AV.vec false (1 : Nat) r53.fst r53.snd.fst fun (i0 : Nat) => AV.sc (Value.int IntKind.i64 (r53.snd.snd i0)))
  (fun (r53 : Nat × Nat × (Nat → Int)) => []) fun (r53 : Nat × Nat × (Nat → Int)) =>
  Orc.fin
    (AV.cons (1 : Nat) (AV.vec false (1 : Nat) r53.fst r53.snd.fst fun (i0 : Nat) => AV.sc (Value.int IntKind.i64 (r53.snd.snd i0)))
    (AV.cons (1 : Nat) (AV.sc (Value.int IntKind.i64 mba))
    (AV.cons (1 : Nat) (AV.sc (Value.int IntKind.i64 mbba))
    (AV.cons (1 : Nat) (AV.sc (Value.bool mbbba)) (AV.cons (1 : Nat) (AV.sc (Value.int IntKind.i64 mbbbba)) AV.nil)))))
    [] []) _ _ (by kernel_rfl) (by kernel_rfl) (show True ∧
  True ∧
    True ∧
    ((0 : Nat) = plus (0 : Nat) (0 : Nat) ∧ True) ∧
    ∃ (r : Nat × Nat × (Nat → Int)),
    ((True ∧ True) ∧
    True ∧
    Ok Proofs.Try.prog (53 : Nat) [AV.vec true (1 : Nat) man man fun (i : Nat) => AV.sc (Value.int IntKind.i64 (maf i))] []
    (AV.vec false (1 : Nat) r.fst r.snd.fst fun (i0 : Nat) => AV.sc (Value.int IntKind.i64 (r.snd.snd i0))) []) ∧
    True ∧
    ((0 : Nat) = plus (0 : Nat) (0 : Nat) ∧ True) ∧
    ((0 : Nat) = (0 : Nat) ∧ True) ∧
    ((0 : Nat) = (0 : Nat) ∧ True) ∧
    ((0 : Nat) = (0 : Nat) ∧ True) ∧
    (((True ∧ True ∧ True ∧ True ∧ True ∧ True) ∧
    Sub
    (AV.cons (1 : Nat) (AV.vec false (1 : Nat) r.fst r.snd.fst fun (i0 : Nat) => AV.sc (Value.int IntKind.i64 (r.snd.snd i0)))
    (AV.cons (1 : Nat) (AV.sc (Value.int IntKind.i64 mba))
    (AV.cons (1 : Nat) (AV.sc (Value.int IntKind.i64 mbba))
    (AV.cons (1 : Nat) (AV.sc (Value.bool mbbba)) (AV.cons (1 : Nat) (AV.sc (Value.int IntKind.i64 mbbbba)) AV.nil)))))
    (AV.cons (1 : Nat) (AV.vec false (1 : Nat) r.fst r.snd.fst fun (i0 : Nat) => AV.sc (Value.int IntKind.i64 (r.snd.snd i0)))
    (AV.cons (1 : Nat) (AV.sc (Value.int IntKind.i64 mba))
    (AV.cons (1 : Nat) (AV.sc (Value.int IntKind.i64 mbba))
    (AV.cons (1 : Nat) (AV.sc (Value.bool mbbba)) (AV.cons (1 : Nat) (AV.sc (Value.int IntKind.i64 mbbbba)) AV.nil))))) ∧
    True) ∧
    True) ∧
    Sub
    (AV.cons (1 : Nat) (AV.vec false (1 : Nat) r.fst r.snd.fst fun (i0 : Nat) => AV.sc (Value.int IntKind.i64 (r.snd.snd i0)))
    (AV.cons (1 : Nat) (AV.sc (Value.int IntKind.i64 mba))
    (AV.cons (1 : Nat) (AV.sc (Value.int IntKind.i64 mbba))
    (AV.cons (1 : Nat) (AV.sc (Value.bool mbbba)) (AV.cons (1 : Nat) (AV.sc (Value.int IntKind.i64 mbbbba)) AV.nil)))))
    res ∧
    SubOut [] [] from
    ⟨trivial, ⟨trivial, ⟨trivial, ⟨⟨rfl, trivial⟩, (Exists.elim h fun x4 h4 => ⟨x4, (And.elim (fun h5 k5 => ⟨⟨⟨trivial, trivial⟩, ⟨trivial, h5⟩⟩, ⟨trivial, ⟨⟨rfl, trivial⟩, ⟨⟨rfl, trivial⟩, ⟨⟨rfl, trivial⟩, ⟨⟨rfl, trivial⟩, ⟨⟨⟨⟨trivial, ⟨trivial, ⟨trivial, ⟨trivial, ⟨trivial, trivial⟩⟩⟩⟩⟩, ⟨Sub.refl _, trivial⟩⟩, trivial⟩, ((fun h12 => ⟨h12, trivial⟩) k5)⟩⟩⟩⟩⟩⟩⟩) h4)⟩)⟩⟩⟩⟩)
theorem hf31 : Go.Proofs.Try.prog.funcs[31]? = some Go.Proofs.Try.f31 := by kernel_rfl
abbrev s31_e : List (Nat × AV) := []
abbrev m31_e : List (Nat × Nat × AV) := []
def L31_e (res : AV) (out : List (Nat × Nat × AV)) : Prop := Goes ⟨Go.Proofs.Try.prog, 31, [], res, out⟩ (place Go.Proofs.Try.f31 []) (s31_e ) (m31_e )
theorem o31 (res : AV) (out : List (Nat × Nat × AV)) (hnew : newOnly res ∧ ∀ q ∈ out, newOnly q.2.2) (hk : keptN [] out = []) (h : L31_e  res out) : Ok Go.Proofs.Try.prog 31 [] [] res out :=
  okRule2 31 Go.Proofs.Try.f31 hf31 [] [] res out [] hk (by kernel_rfl) (by kernel_rfl) (by kernel_rfl) hnew (L31_e  res out) (by kernel_rfl) h
theorem r31_e (res : AV) (out : List (Nat × Nat × AV))
    (h : Sub
    (AV.cons (1 : Nat) (AV.rf (1000 : Nat) (1 : Nat) (0 : Nat) (1 : Nat))
    (AV.cons (1 : Nat) (AV.sc (Value.int IntKind.i64 (0 : Int)))
    (AV.cons (1 : Nat) (AV.sc (Value.int IntKind.i64 (0 : Int)))
    (AV.cons (1 : Nat) (AV.sc (Value.bool true)) (AV.cons (1 : Nat) (AV.sc (Value.int IntKind.i64 (0 : Int))) AV.nil)))))
    res ∧
  SubOut [((1000 : Nat), (3 : Nat), AV.ar (1 : Nat) (1 : Nat) fun (x : Nat) => AV.sc (Value.int IntKind.i64 (0 : Int)))] out) :
    L31_e  res out :=
  rule Go.Am.Seat.tabOk 31 [] Go.Proofs.Try.f31 hf31 [] (s31_e ) (m31_e ) res out 400
    (Orc.fin
  (AV.cons (1 : Nat) (AV.rf (1000 : Nat) (1 : Nat) (0 : Nat) (1 : Nat))
    (AV.cons (1 : Nat) (AV.sc (Value.int IntKind.i64 (0 : Int)))
    (AV.cons (1 : Nat) (AV.sc (Value.int IntKind.i64 (0 : Int)))
    (AV.cons (1 : Nat) (AV.sc (Value.bool true)) (AV.cons (1 : Nat) (AV.sc (Value.int IntKind.i64 (0 : Int))) AV.nil)))))
  [((1000 : Nat), (3 : Nat), AV.ar (1 : Nat) (1 : Nat) fun (x : Nat) => AV.sc (Value.int IntKind.i64 (0 : Int)))] [((1000 : Nat), some (1 : Nat))]) _ _ (by kernel_rfl) (by kernel_rfl) (show True ∧
  ((True ∧ True) ∧ True) ∧
    True ∧
    ((0 : Nat) = (0 : Nat) ∧ True) ∧
    ((0 : Nat) = (0 : Nat) ∧ True) ∧
    (((True ∧ True ∧ True ∧ True ∧ True ∧ True) ∧
    Sub
    (AV.cons (1 : Nat) (AV.rf (1000 : Nat) (1 : Nat) (0 : Nat) (1 : Nat))
    (AV.cons (1 : Nat) (AV.sc (Value.int IntKind.i64 (0 : Int)))
    (AV.cons (1 : Nat) (AV.sc (Value.int IntKind.i64 (0 : Int)))
    (AV.cons (1 : Nat) (AV.sc (Value.bool true)) (AV.cons (1 : Nat) (AV.sc (Value.int IntKind.i64 (0 : Int))) AV.nil)))))
    (AV.cons (1 : Nat) (AV.rf (1000 : Nat) (1 : Nat) (0 : Nat) (1 : Nat))
    (AV.cons (1 : Nat) (AV.sc (Value.int IntKind.i64 (0 : Int)))
    (AV.cons (1 : Nat) (AV.sc (Value.int IntKind.i64 (0 : Int)))
    (AV.cons (1 : Nat) (AV.sc (Value.bool true)) (AV.cons (1 : Nat) (AV.sc (Value.int IntKind.i64 (0 : Int))) AV.nil))))) ∧
    True) ∧
    True ∧
    SubB (AV.ar (1 : Nat) (1 : Nat) fun (x : Nat) => AV.sc (Value.int IntKind.i64 (0 : Int)))
    (AV.ar (1 : Nat) (1 : Nat) fun (x : Nat) => AV.sc (Value.int IntKind.i64 (0 : Int))) ∧
    True) ∧
    Sub
    (AV.cons (1 : Nat) (AV.rf (1000 : Nat) (1 : Nat) (0 : Nat) (1 : Nat))
    (AV.cons (1 : Nat) (AV.sc (Value.int IntKind.i64 (0 : Int)))
    (AV.cons (1 : Nat) (AV.sc (Value.int IntKind.i64 (0 : Int)))
    (AV.cons (1 : Nat) (AV.sc (Value.bool true)) (AV.cons (1 : Nat) (AV.sc (Value.int IntKind.i64 (0 : Int))) AV.nil)))))
    res ∧
    SubOut [((1000 : Nat), (3 : Nat), AV.ar (1 : Nat) (1 : Nat) fun (x : Nat) => AV.sc (Value.int IntKind.i64 (0 : Int)))] out from
    ⟨trivial, ⟨⟨⟨trivial, trivial⟩, trivial⟩, ⟨trivial, ⟨⟨rfl, trivial⟩, ⟨⟨rfl, trivial⟩, ⟨⟨⟨⟨trivial, ⟨trivial, ⟨trivial, ⟨trivial, ⟨trivial, trivial⟩⟩⟩⟩⟩, ⟨Sub.refl _, trivial⟩⟩, ⟨trivial, ⟨SubB.refl _, trivial⟩⟩⟩, (And.elim (fun h6 k6 => ⟨h6, k6⟩) h)⟩⟩⟩⟩⟩⟩)
theorem hf32 : Go.Proofs.Try.prog.funcs[32]? = some Go.Proofs.Try.f32 := by kernel_rfl
abbrev s32_e (aan : Nat) (aaf : Nat → Int) (aba : Int) (abba : Int) (abbba : Bool) (abbbba : Int) (ban : Nat) (baf : Nat → Int) (bba : Int) (bbba : Int) (bbbba : Bool) (bbbbba : Int) : List (Nat × AV) := [(0, (.cons 1 (.vec true 1 aan aan (fun i0 => (.sc (.int .i64 (aaf i0))))) (.cons 1 (.sc (.int .i64 aba)) (.cons 1 (.sc (.int .i64 abba)) (.cons 1 (.sc (.bool abbba)) (.cons 1 (.sc (.int .i64 abbbba)) .nil)))))), (1, (.cons 1 (.vec true 1 ban ban (fun i0 => (.sc (.int .i64 (baf i0))))) (.cons 1 (.sc (.int .i64 bba)) (.cons 1 (.sc (.int .i64 bbba)) (.cons 1 (.sc (.bool bbbba)) (.cons 1 (.sc (.int .i64 bbbbba)) .nil))))))]
abbrev m32_e (aan : Nat) (aaf : Nat → Int) (aba : Int) (abba : Int) (abbba : Bool) (abbbba : Int) (ban : Nat) (baf : Nat → Int) (bba : Int) (bbba : Int) (bbbba : Bool) (bbbbba : Int) : List (Nat × Nat × AV) := []
def L32_e (aan : Nat) (aaf : Nat → Int) (aba : Int) (abba : Int) (abbba : Bool) (abbbba : Int) (ban : Nat) (baf : Nat → Int) (bba : Int) (bbba : Int) (bbbba : Bool) (bbbbba : Int) (res : AV) : Prop := Goes ⟨Go.Proofs.Try.prog, 32, [], res, []⟩ (place Go.Proofs.Try.f32 []) (s32_e aan aaf aba abba abbba abbbba ban baf bba bbba bbbba bbbbba) (m32_e aan aaf aba abba abbba abbbba ban baf bba bbba bbbba bbbbba)
theorem o32 (aan : Nat) (aaf : Nat → Int) (aba : Int) (abba : Int) (abbba : Bool) (abbbba : Int) (ban : Nat) (baf : Nat → Int) (bba : Int) (bbba : Int) (bbbba : Bool) (bbbbba : Int) (res : AV) (hnew : newOnly res) (h : L32_e aan aaf aba abba abbba abbbba ban baf bba bbba bbbba bbbbba res) : Ok Go.Proofs.Try.prog 32 [(.cons 1 (.vec true 1 aan aan (fun i0 => (.sc (.int .i64 (aaf i0))))) (.cons 1 (.sc (.int .i64 aba)) (.cons 1 (.sc (.int .i64 abba)) (.cons 1 (.sc (.bool abbba)) (.cons 1 (.sc (.int .i64 abbbba)) .nil))))), (.cons 1 (.vec true 1 ban ban (fun i0 => (.sc (.int .i64 (baf i0))))) (.cons 1 (.sc (.int .i64 bba)) (.cons 1 (.sc (.int .i64 bbba)) (.cons 1 (.sc (.bool bbbba)) (.cons 1 (.sc (.int .i64 bbbbba)) .nil)))))] [] res [] :=
  okRule2 32 Go.Proofs.Try.f32 hf32 [(.cons 1 (.vec true 1 aan aan (fun i0 => (.sc (.int .i64 (aaf i0))))) (.cons 1 (.sc (.int .i64 aba)) (.cons 1 (.sc (.int .i64 abba)) (.cons 1 (.sc (.bool abbba)) (.cons 1 (.sc (.int .i64 abbbba)) .nil))))), (.cons 1 (.vec true 1 ban ban (fun i0 => (.sc (.int .i64 (baf i0))))) (.cons 1 (.sc (.int .i64 bba)) (.cons 1 (.sc (.int .i64 bbba)) (.cons 1 (.sc (.bool bbbba)) (.cons 1 (.sc (.int .i64 bbbbba)) .nil)))))] [] res [] [] rfl (by kernel_rfl) (by kernel_rfl) (by kernel_rfl) ⟨hnew, by simp⟩ (L32_e aan aaf aba abba abbba abbbba ban baf bba bbba bbbba bbbbba res) (by kernel_rfl) h
theorem r32_e (aan : Nat) (aaf : Nat → Int) (aba : Int) (abba : Int) (abbba : Bool) (abbbba : Int) (ban : Nat) (baf : Nat → Int) (bba : Int) (bbba : Int) (bbbba : Bool) (bbbbba : Int) (res : AV)
    (h : ∃ (r : Bool),
  Ok Proofs.Try.prog (60 : Nat)
    [AV.vec true (1 : Nat) aan aan fun (i : Nat) => AV.sc (Value.int IntKind.i64 (aaf i)),
    AV.vec true (1 : Nat) ban ban fun (i : Nat) => AV.sc (Value.int IntKind.i64 (baf i))]
    [] (AV.sc (Value.bool r)) [] ∧
    (r = true →
    ((aba == bba) = true →
    ((abba == bbba) = true →
    ((abbba == bbbba) = true → Sub (AV.sc (Value.bool (abbbba == bbbbba))) res) ∧ ((abbba == bbbba) = !true → Sub (AV.sc (Value.bool false)) res)) ∧
    ((abba == bbba) = !true → Sub (AV.sc (Value.bool false)) res)) ∧
    ((aba == bba) = !true → Sub (AV.sc (Value.bool false)) res)) ∧
    (r = !true → Sub (AV.sc (Value.bool false)) res)) :
    L32_e aan aaf aba abba abbba abbbba ban baf bba bbba bbbba bbbbba res :=
  rule Go.Am.Seat.tabOk 32 [] Go.Proofs.Try.f32 hf32 [] (s32_e aan aaf aba abba abbba abbbba ban baf bba bbba bbbba bbbbba) (m32_e aan aaf aba abba abbba abbbba ban baf bba bbba bbbba bbbbba) res [] 400
    (Orc.call [] [] (fun (r60 : Bool) => AV.sc (Value.bool r60)) (fun (r60 : Bool) => []) fun (r60 : Bool) =>
  ((((Orc.fin (AV.sc (Value.bool (bif true then abbbba == bbbbba else false))) [] []).yes.yes.yes.yes.br
    (Orc.fin (AV.sc (Value.bool false)) [] []).no.no.no.no).yes.yes.yes.yes.br
    (Orc.fin (AV.sc (Value.bool false)) [] []).no.no.no.no.no.no.no.no.no).yes.yes.yes.yes.br
    (Orc.fin (AV.sc (Value.bool false)) [] []).no.no.no.no.no.no.no.no.no.no.no.no.no.no).yes.yes.yes.yes.br
    (Orc.fin (AV.sc (Value.bool false)) [] []).no.no.no.no.no.no.no.no.no.no.no.no.no.no.no.no.no.no.no) _ _ (by kernel_rfl) (by kernel_rfl) (show True ∧
  True ∧
    True ∧
    True ∧
    ((0 : Nat) = plus (0 : Nat) (0 : Nat) ∧ True) ∧
    True ∧
    ((0 : Nat) = plus (0 : Nat) (0 : Nat) ∧ True) ∧
    ∃ (r : Bool),
    ((True ∧ True ∧ True) ∧
    True ∧
    Ok Proofs.Try.prog (60 : Nat)
    [AV.vec true (1 : Nat) aan aan fun (i : Nat) => AV.sc (Value.int IntKind.i64 (aaf i)),
    AV.vec true (1 : Nat) ban ban fun (i : Nat) => AV.sc (Value.int IntKind.i64 (baf i))]
    [] (AV.sc (Value.bool r)) []) ∧
    True ∧
    (r = true →
    True ∧
    true = true ∧
    ((1 : Nat) + (0 : Nat) = plus (0 : Nat) (1 : Nat) ∧ True) ∧
    true = true ∧
    True ∧
    true = true ∧
    ((1 : Nat) + (0 : Nat) = plus (0 : Nat) (1 : Nat) ∧ True) ∧
    true = true ∧
    True ∧
    True ∧
    True ∧
    ((aba == bba) = true →
    True ∧
    true = true ∧
    ((1 : Nat) + ((1 : Nat) + (0 : Nat)) = plus (0 : Nat) (2 : Nat) ∧ True) ∧
    true = true ∧
    True ∧
    true = true ∧
    ((1 : Nat) + ((1 : Nat) + (0 : Nat)) = plus (0 : Nat) (2 : Nat) ∧ True) ∧
    true = true ∧
    True ∧
    True ∧
    True ∧
    ((abba == bbba) = true →
    True ∧
    true = true ∧
    ((1 : Nat) + ((1 : Nat) + ((1 : Nat) + (0 : Nat))) = plus (0 : Nat) (3 : Nat) ∧
    True) ∧
    true = true ∧
    True ∧
    true = true ∧
    ((1 : Nat) + ((1 : Nat) + ((1 : Nat) + (0 : Nat))) =
    plus (0 : Nat) (3 : Nat) ∧
    True) ∧
    true = true ∧
    True ∧
    True ∧
    True ∧
    ((abbba == bbbba) = true →
    True ∧
    true = true ∧
    ((1 : Nat) +
    ((1 : Nat) +
    ((1 : Nat) + ((1 : Nat) + (0 : Nat)))) =
    plus (0 : Nat) (4 : Nat) ∧
    True) ∧
    true = true ∧
    True ∧
    true = true ∧
    ((1 : Nat) +
    ((1 : Nat) +
    ((1 : Nat) +
    ((1 : Nat) + (0 : Nat)))) =
    plus (0 : Nat) (4 : Nat) ∧
    True) ∧
    true = true ∧
    True ∧
    True ∧
    True ∧
    True ∧
    ((True ∧
    Sub
    (AV.sc
    (Value.bool
    (abbbba == bbbbba)))
    (AV.sc
    (Value.bool
    (abbbba ==
    bbbbba))) ∧
    True) ∧
    True) ∧
    Sub
    (AV.sc
    (Value.bool
    (abbbba == bbbbba)))
    res ∧
    SubOut [] []) ∧
    ((abbba == bbbba) = !true →
    true = true ∧
    (!true) = !true ∧
    true = true ∧
    (!true) = !true ∧
    true = true ∧
    (!true) = !true ∧
    true = true ∧
    (!true) = !true ∧
    true = true ∧
    True ∧
    True ∧
    True ∧
    ((True ∧
    Sub
    (AV.sc
    (Value.bool false))
    (AV.sc
    (Value.bool false)) ∧
    True) ∧
    True) ∧
    Sub (AV.sc (Value.bool false))
    res ∧
    SubOut [] [])) ∧
    ((abba == bbba) = !true →
    true = true ∧
    (!true) = !true ∧
    true = true ∧
    (!true) = !true ∧
    true = true ∧
    (!true) = !true ∧
    true = true ∧
    (!true) = !true ∧
    true = true ∧
    True ∧
    True ∧
    false = !true ∧
    true = true ∧
    (!true) = !true ∧
    true = true ∧
    (!true) = !true ∧
    true = true ∧
    (!true) = !true ∧
    true = true ∧
    (!true) = !true ∧
    true = true ∧
    True ∧
    True ∧
    True ∧
    ((True ∧
    Sub (AV.sc (Value.bool false))
    (AV.sc
    (Value.bool false)) ∧
    True) ∧
    True) ∧
    Sub (AV.sc (Value.bool false))
    res ∧
    SubOut [] [])) ∧
    ((aba == bba) = !true →
    true = true ∧
    (!true) = !true ∧
    true = true ∧
    (!true) = !true ∧
    true = true ∧
    (!true) = !true ∧
    true = true ∧
    (!true) = !true ∧
    true = true ∧
    True ∧
    True ∧
    false = !true ∧
    true = true ∧
    (!true) = !true ∧
    true = true ∧
    (!true) = !true ∧
    true = true ∧
    (!true) = !true ∧
    true = true ∧
    (!true) = !true ∧
    true = true ∧
    True ∧
    True ∧
    false = !true ∧
    true = true ∧
    (!true) = !true ∧
    true = true ∧
    (!true) = !true ∧
    true = true ∧
    (!true) = !true ∧
    true = true ∧
    (!true) = !true ∧
    true = true ∧
    True ∧
    True ∧
    True ∧
    ((True ∧
    Sub (AV.sc (Value.bool false))
    (AV.sc (Value.bool false)) ∧
    True) ∧
    True) ∧
    Sub (AV.sc (Value.bool false)) res ∧
    SubOut [] [])) ∧
    (r = !true →
    true = true ∧
    (!true) = !true ∧
    true = true ∧
    (!true) = !true ∧
    true = true ∧
    (!true) = !true ∧
    true = true ∧
    (!true) = !true ∧
    true = true ∧
    True ∧
    True ∧
    false = !true ∧
    true = true ∧
    (!true) = !true ∧
    true = true ∧
    (!true) = !true ∧
    true = true ∧
    (!true) = !true ∧
    true = true ∧
    (!true) = !true ∧
    true = true ∧
    True ∧
    True ∧
    false = !true ∧
    true = true ∧
    (!true) = !true ∧
    true = true ∧
    (!true) = !true ∧
    true = true ∧
    (!true) = !true ∧
    true = true ∧
    (!true) = !true ∧
    true = true ∧
    True ∧
    True ∧
    false = !true ∧
    true = true ∧
    (!true) = !true ∧
    true = true ∧
    (!true) = !true ∧
    true = true ∧
    (!true) = !true ∧
    true = true ∧
    (!true) = !true ∧
    true = true ∧
    True ∧
    True ∧
    True ∧
    ((True ∧
    Sub (AV.sc (Value.bool false))
    (AV.sc (Value.bool false)) ∧
    True) ∧
    True) ∧
    Sub (AV.sc (Value.bool false)) res ∧
    SubOut [] []) from
    ⟨trivial, ⟨trivial, ⟨trivial, ⟨trivial, ⟨⟨rfl, trivial⟩, ⟨trivial, ⟨⟨rfl, trivial⟩, (Exists.elim h fun x7 h7 => ⟨x7, (And.elim (fun h8 k8 => ⟨⟨⟨trivial, ⟨trivial, trivial⟩⟩, ⟨trivial, h8⟩⟩, ⟨trivial, (And.elim (fun h10 k10 => ⟨(fun x11 => (fun h11 => ⟨trivial, ⟨rfl, ⟨⟨rfl, trivial⟩, ⟨rfl, ⟨trivial, ⟨rfl, ⟨⟨rfl, trivial⟩, ⟨rfl, ⟨trivial, ⟨trivial, ⟨trivial, (And.elim (fun h23 k23 => ⟨(fun x24 => (fun h24 => ⟨trivial, ⟨rfl, ⟨⟨rfl, trivial⟩, ⟨rfl, ⟨trivial, ⟨rfl, ⟨⟨rfl, trivial⟩, ⟨rfl, ⟨trivial, ⟨trivial, ⟨trivial, (And.elim (fun h36 k36 => ⟨(fun x37 => (fun h37 => ⟨trivial, ⟨rfl, ⟨⟨rfl, trivial⟩, ⟨rfl, ⟨trivial, ⟨rfl, ⟨⟨rfl, trivial⟩, ⟨rfl, ⟨trivial, ⟨trivial, ⟨trivial, (And.elim (fun h49 k49 => ⟨(fun x50 => (fun h50 => ⟨trivial, ⟨rfl, ⟨⟨rfl, trivial⟩, ⟨rfl, ⟨trivial, ⟨rfl, ⟨⟨rfl, trivial⟩, ⟨rfl, ⟨trivial, ⟨trivial, ⟨trivial, ⟨trivial, ⟨⟨⟨trivial, ⟨Sub.refl _, trivial⟩⟩, trivial⟩, ((fun h64 => ⟨h64, trivial⟩) h50)⟩⟩⟩⟩⟩⟩⟩⟩⟩⟩⟩⟩⟩) (h49 x50)), (fun x50 => (fun h50 => ⟨rfl, ⟨rfl, ⟨rfl, ⟨rfl, ⟨rfl, ⟨rfl, ⟨rfl, ⟨rfl, ⟨rfl, ⟨trivial, ⟨trivial, ⟨trivial, ⟨⟨⟨trivial, ⟨Sub.refl _, trivial⟩⟩, trivial⟩, ((fun h64 => ⟨h64, trivial⟩) h50)⟩⟩⟩⟩⟩⟩⟩⟩⟩⟩⟩⟩⟩) (k49 x50))⟩) h37)⟩⟩⟩⟩⟩⟩⟩⟩⟩⟩⟩) (h36 x37)), (fun x37 => (fun h37 => ⟨rfl, ⟨rfl, ⟨rfl, ⟨rfl, ⟨rfl, ⟨rfl, ⟨rfl, ⟨rfl, ⟨rfl, ⟨trivial, ⟨trivial, ⟨rfl, ⟨rfl, ⟨rfl, ⟨rfl, ⟨rfl, ⟨rfl, ⟨rfl, ⟨rfl, ⟨rfl, ⟨rfl, ⟨trivial, ⟨trivial, ⟨trivial, ⟨⟨⟨trivial, ⟨Sub.refl _, trivial⟩⟩, trivial⟩, ((fun h63 => ⟨h63, trivial⟩) h37)⟩⟩⟩⟩⟩⟩⟩⟩⟩⟩⟩⟩⟩⟩⟩⟩⟩⟩⟩⟩⟩⟩⟩⟩⟩) (k36 x37))⟩) h24)⟩⟩⟩⟩⟩⟩⟩⟩⟩⟩⟩) (h23 x24)), (fun x24 => (fun h24 => ⟨rfl, ⟨rfl, ⟨rfl, ⟨rfl, ⟨rfl, ⟨rfl, ⟨rfl, ⟨rfl, ⟨rfl, ⟨trivial, ⟨trivial, ⟨rfl, ⟨rfl, ⟨rfl, ⟨rfl, ⟨rfl, ⟨rfl, ⟨rfl, ⟨rfl, ⟨rfl, ⟨rfl, ⟨trivial, ⟨trivial, ⟨rfl, ⟨rfl, ⟨rfl, ⟨rfl, ⟨rfl, ⟨rfl, ⟨rfl, ⟨rfl, ⟨rfl, ⟨rfl, ⟨trivial, ⟨trivial, ⟨trivial, ⟨⟨⟨trivial, ⟨Sub.refl _, trivial⟩⟩, trivial⟩, ((fun h62 => ⟨h62, trivial⟩) h24)⟩⟩⟩⟩⟩⟩⟩⟩⟩⟩⟩⟩⟩⟩⟩⟩⟩⟩⟩⟩⟩⟩⟩⟩⟩⟩⟩⟩⟩⟩⟩⟩⟩⟩⟩⟩⟩) (k23 x24))⟩) h11)⟩⟩⟩⟩⟩⟩⟩⟩⟩⟩⟩) (h10 x11)), (fun x11 => (fun h11 => ⟨rfl, ⟨rfl, ⟨rfl, ⟨rfl, ⟨rfl, ⟨rfl, ⟨rfl, ⟨rfl, ⟨rfl, ⟨trivial, ⟨trivial, ⟨rfl, ⟨rfl, ⟨rfl, ⟨rfl, ⟨rfl, ⟨rfl, ⟨rfl, ⟨rfl, ⟨rfl, ⟨rfl, ⟨trivial, ⟨trivial, ⟨rfl, ⟨rfl, ⟨rfl, ⟨rfl, ⟨rfl, ⟨rfl, ⟨rfl, ⟨rfl, ⟨rfl, ⟨rfl, ⟨trivial, ⟨trivial, ⟨rfl, ⟨rfl, ⟨rfl, ⟨rfl, ⟨rfl, ⟨rfl, ⟨rfl, ⟨rfl, ⟨rfl, ⟨rfl, ⟨trivial, ⟨trivial, ⟨trivial, ⟨⟨⟨trivial, ⟨Sub.refl _, trivial⟩⟩, trivial⟩, ((fun h61 => ⟨h61, trivial⟩) h11)⟩⟩⟩⟩⟩⟩⟩⟩⟩⟩⟩⟩⟩⟩⟩⟩⟩⟩⟩⟩⟩⟩⟩⟩⟩⟩⟩⟩⟩⟩⟩⟩⟩⟩⟩⟩⟩⟩⟩⟩⟩⟩⟩⟩⟩⟩⟩⟩⟩) (k10 x11))⟩) k8)⟩⟩) h7)⟩)⟩⟩⟩⟩⟩⟩⟩)
theorem hf33 : Go.Proofs.Try.prog.funcs[33]? = some Go.Proofs.Try.f33 := by kernel_rfl
abbrev s33_e : List (Nat × AV) := []
abbrev m33_e : List (Nat × Nat × AV) := []
def L33_e (res : AV) : Prop := Goes ⟨Go.Proofs.Try.prog, 33, [], res, []⟩ (place Go.Proofs.Try.f33 []) (s33_e ) (m33_e )
theorem o33 (res : AV) (hnew : newOnly res) (h : L33_e  res) : Ok Go.Proofs.Try.prog 33 [] [] res [] :=
  okRule2 33 Go.Proofs.Try.f33 hf33 [] [] res [] [] rfl (by kernel_rfl) (by kernel_rfl) (by kernel_rfl) ⟨hnew, by simp⟩ (L33_e  res) (by kernel_rfl) h
theorem r33_e (res : AV)
    (h : (0 : Nat) + (1 : Nat) ≤ (1 : Nat) ∧
  Sub
    (AV.cons (1 : Nat) (AV.vec false (1 : Nat) (1 : Nat) (1 : Nat) fun (i : Nat) => AV.sc (Value.int IntKind.i64 (0 : Int)))
    (AV.cons (1 : Nat) (AV.sc (Value.int IntKind.i64 (0 : Int)))
    (AV.cons (1 : Nat) (AV.sc (Value.int IntKind.i64 (0 : Int)))
    (AV.cons (1 : Nat) (AV.sc (Value.bool true)) (AV.cons (1 : Nat) (AV.sc (Value.int IntKind.i64 (0 : Int))) AV.nil)))))
    res) :
    L33_e  res :=
  rule Go.Am.Seat.tabOk 33 [] Go.Proofs.Try.f33 hf33 [] (s33_e ) (m33_e ) res [] 400
    (Orc.fin
  (AV.cons (1 : Nat) (AV.vec false (1 : Nat) (1 : Nat) (1 : Nat) fun (i : Nat) => AV.sc (Value.int IntKind.i64 (0 : Int)))
    (AV.cons (1 : Nat) (AV.sc (Value.int IntKind.i64 (0 : Int)))
    (AV.cons (1 : Nat) (AV.sc (Value.int IntKind.i64 (0 : Int)))
    (AV.cons (1 : Nat) (AV.sc (Value.bool true)) (AV.cons (1 : Nat) (AV.sc (Value.int IntKind.i64 (0 : Int))) AV.nil)))))
  [] []) _ _ (by kernel_rfl) (by kernel_rfl) (show True ∧
  ((True ∧ True) ∧ True) ∧
    True ∧
    ((0 : Nat) = (0 : Nat) ∧ True) ∧
    ((0 : Nat) = (0 : Nat) ∧ True) ∧
    ((((0 : Nat) + (1 : Nat) ≤ (1 : Nat) ∧ True ∧ True ∧ True ∧ True ∧ True) ∧
    Sub
    (AV.cons (1 : Nat) (AV.vec false (1 : Nat) (1 : Nat) (1 : Nat) fun (i : Nat) => AV.sc (Value.int IntKind.i64 (0 : Int)))
    (AV.cons (1 : Nat) (AV.sc (Value.int IntKind.i64 (0 : Int)))
    (AV.cons (1 : Nat) (AV.sc (Value.int IntKind.i64 (0 : Int)))
    (AV.cons (1 : Nat) (AV.sc (Value.bool true)) (AV.cons (1 : Nat) (AV.sc (Value.int IntKind.i64 (0 : Int))) AV.nil)))))
    (AV.cons (1 : Nat) (AV.vec false (1 : Nat) (1 : Nat) (1 : Nat) fun (i : Nat) => AV.sc (Value.int IntKind.i64 (0 : Int)))
    (AV.cons (1 : Nat) (AV.sc (Value.int IntKind.i64 (0 : Int)))
    (AV.cons (1 : Nat) (AV.sc (Value.int IntKind.i64 (0 : Int)))
    (AV.cons (1 : Nat) (AV.sc (Value.bool true)) (AV.cons (1 : Nat) (AV.sc (Value.int IntKind.i64 (0 : Int))) AV.nil))))) ∧
    True) ∧
    True) ∧
    Sub
    (AV.cons (1 : Nat) (AV.vec false (1 : Nat) (1 : Nat) (1 : Nat) fun (i : Nat) => AV.sc (Value.int IntKind.i64 (0 : Int)))
    (AV.cons (1 : Nat) (AV.sc (Value.int IntKind.i64 (0 : Int)))
    (AV.cons (1 : Nat) (AV.sc (Value.int IntKind.i64 (0 : Int)))
    (AV.cons (1 : Nat) (AV.sc (Value.bool true)) (AV.cons (1 : Nat) (AV.sc (Value.int IntKind.i64 (0 : Int))) AV.nil)))))
    res ∧
    SubOut [] [] from
    ⟨trivial, ⟨⟨⟨trivial, trivial⟩, trivial⟩, ⟨trivial, ⟨⟨rfl, trivial⟩, ⟨⟨rfl, trivial⟩, (And.elim (fun h5 k5 => ⟨((fun h6 => ⟨((fun h7 => ⟨((fun h8 => ⟨h8, ⟨trivial, ⟨trivial, ⟨trivial, ⟨trivial, trivial⟩⟩⟩⟩⟩) h7), ⟨Sub.refl _, trivial⟩⟩) h6), trivial⟩) h5), ((fun h6 => ⟨h6, trivial⟩) k5)⟩) h)⟩⟩⟩⟩⟩)
theorem hf34 : Go.Proofs.Try.prog.funcs[34]? = some Go.Proofs.Try.f34 := by kernel_rfl
abbrev s34_e (ln : Nat) (n : Int) (b1000n : Nat) (b1000f : Nat → Int) : List (Nat × AV) := [(0, (.rf 2000 1 0 ln)), (1, (.sc (.int .i64 n)))]
abbrev m34_e (ln : Nat) (n : Int) (b1000n : Nat) (b1000f : Nat → Int) : List (Nat × Nat × AV) := [(2000, 3, (.ar b1000n 1 (fun i0 => (.sc (.int .i64 (b1000f i0))))))]
def L34_e (ln : Nat) (n : Int) (b1000n : Nat) (b1000f : Nat → Int) (res : AV) (out : List (Nat × Nat × AV)) : Prop := Goes ⟨Go.Proofs.Try.prog, 34, [2000], res, out⟩ (place Go.Proofs.Try.f34 []) (s34_e ln n b1000n b1000f) (m34_e ln n b1000n b1000f)
abbrev s34_0 (ln : Nat) (n : Int) (i : Int) (b1000n : Nat) (b1000f : Nat → Int) : List (Nat × AV) := [(0, (.rf 2000 1 0 ln)), (1, (.sc (.int .i64 n))), (5, (.sc (.int .i64 i)))]
abbrev m34_0 (ln : Nat) (n : Int) (i : Int) (b1000n : Nat) (b1000f : Nat → Int) : List (Nat × Nat × AV) := [(2000, 3, (.ar b1000n 1 (fun i0 => (.sc (.int .i64 (b1000f i0))))))]
def L34_0 (ln : Nat) (n : Int) (i : Int) (b1000n : Nat) (b1000f : Nat → Int) (res : AV) (out : List (Nat × Nat × AV)) : Prop := Goes ⟨Go.Proofs.Try.prog, 34, [2000], res, out⟩ (place Go.Proofs.Try.f34 [1, 0, 1, 0, 0]) (s34_0 ln n i b1000n b1000f) (m34_0 ln n i b1000n b1000f)
theorem o34 (ln : Nat) (n : Int) (b1000n : Nat) (b1000f : Nat → Int) (res : AV) (out : List (Nat × Nat × AV)) (hnew : newOnly res ∧ ∀ q ∈ out, newOnly q.2.2) (hk : keptN [(2000, 3, (.ar b1000n 1 (fun i0 => (.sc (.int .i64 (b1000f i0))))))] out = [2000]) (h : L34_e ln n b1000n b1000f res out) : Ok Go.Proofs.Try.prog 34 [(.rf 2000 1 0 ln), (.sc (.int .i64 n))] [(2000, 3, (.ar b1000n 1 (fun i0 => (.sc (.int .i64 (b1000f i0))))))] res out :=
  okRule2 34 Go.Proofs.Try.f34 hf34 [(.rf 2000 1 0 ln), (.sc (.int .i64 n))] [(2000, 3, (.ar b1000n 1 (fun i0 => (.sc (.int .i64 (b1000f i0))))))] res out [2000] hk (by kernel_rfl) (by kernel_rfl) (by kernel_rfl) hnew (L34_e ln n b1000n b1000f res out) (by kernel_rfl) h
theorem r34_e (ln : Nat) (n : Int) (b1000n : Nat) (b1000f : Nat → Int) (res : AV) (out : List (Nat × Nat × AV))
    (h : L34_0 ln n (0 : Int) b1000n b1000f res out) :
    L34_e ln n b1000n b1000f res out :=
  rule Go.Am.Seat.tabOk 34 [2000] Go.Proofs.Try.f34 hf34 [] (s34_e ln n b1000n b1000f) (m34_e ln n b1000n b1000f) res out 400
    (Orc.cut (nat_lit 7) (s34_0 ln n (0 : Int) b1000n b1000f) (m34_0 ln n (0 : Int) b1000n b1000f) [((2000 : Nat), some (2000 : Nat))]) _ _ (by kernel_rfl) (by kernel_rfl) (show True ∧
  True ∧
    ((True ∧
    Sub (AV.rf (2000 : Nat) (1 : Nat) (0 : Nat) ln) (AV.rf (2000 : Nat) (1 : Nat) (0 : Nat) ln) ∧
    True ∧
    Sub (AV.sc (Value.int IntKind.i64 n)) (AV.sc (Value.int IntKind.i64 n)) ∧
    True ∧ Sub (AV.sc (Value.int IntKind.i64 (0 : Int))) (AV.sc (Value.int IntKind.i64 (0 : Int))) ∧ True) ∧
    True ∧
    SubB (AV.ar b1000n (1 : Nat) fun (i0 : Nat) => AV.sc (Value.int IntKind.i64 (b1000f i0)))
    (AV.ar b1000n (1 : Nat) fun (i0 : Nat) => AV.sc (Value.int IntKind.i64 (b1000f i0))) ∧
    True) ∧
    L34_0 ln n (0 : Int) b1000n b1000f res out from
    ⟨trivial, ⟨trivial, ⟨⟨⟨trivial, ⟨Sub.refl _, ⟨trivial, ⟨Sub.refl _, ⟨trivial, ⟨Sub.refl _, trivial⟩⟩⟩⟩⟩⟩, ⟨trivial, ⟨SubB.refl _, trivial⟩⟩⟩, h⟩⟩⟩)
theorem r34_0 (ln : Nat) (n : Int) (i : Int) (b1000n : Nat) (b1000f : Nat → Int) (res : AV) (out : List (Nat × Nat × AV))
    (h : (decide (i < (↑ln : Int)) = true →
    ((0 : Int) ≤ i ∧ i < (↑ln : Int)) ∧
    plus (0 : Nat) i.toNat < b1000n ∧
    L34_0 ln n (IntKind.i64.wrap (i + (1 : Int))) b1000n
    (fun (i_1 : Nat) =>
    bif i_1.beq (plus (0 : Nat) i.toNat) then IntKind.i64.wrap (IntKind.i64.wrap (IntKind.i64.wrap ((0 : Int) - n) - i) - (1 : Int)) else b1000f i_1)
    res out) ∧
  (decide (i < (↑ln : Int)) = false →
    Sub (AV.sc (Value.int IntKind.i64 (IntKind.i64.wrap (n + (↑ln : Int))))) res ∧
    SubOut [((2000 : Nat), (3 : Nat), AV.ar b1000n (1 : Nat) fun (i0 : Nat) => AV.sc (Value.int IntKind.i64 (b1000f i0)))] out)) :
    L34_0 ln n i b1000n b1000f res out :=
  rule Go.Am.Seat.tabOk 34 [2000] Go.Proofs.Try.f34 hf34 [1, 0, 1, 0, 0] (s34_0 ln n i b1000n b1000f) (m34_0 ln n i b1000n b1000f) res out 400
    ((Orc.cut (nat_lit 7)
    (s34_0 ln n (IntKind.i64.wrap (i + (1 : Int))) b1000n fun (i_1 : Nat) =>
    bif i_1.beq (plus (0 : Nat) i.toNat) then IntKind.i64.wrap (IntKind.i64.wrap (IntKind.i64.wrap ((0 : Int) - n) - i) - (1 : Int)) else b1000f i_1)
    (m34_0 ln n (IntKind.i64.wrap (i + (1 : Int))) b1000n fun (i_1 : Nat) =>
    bif i_1.beq (plus (0 : Nat) i.toNat) then IntKind.i64.wrap (IntKind.i64.wrap (IntKind.i64.wrap ((0 : Int) - n) - i) - (1 : Int)) else b1000f i_1)
    [((2000 : Nat), some (2000 : Nat))]).br
  (Orc.fin (AV.sc (Value.int IntKind.i64 (IntKind.i64.wrap (n + (↑ln : Int)))))
    [((2000 : Nat), (3 : Nat), AV.ar b1000n (1 : Nat) fun (i0 : Nat) => AV.sc (Value.int IntKind.i64 (b1000f i0)))] [((2000 : Nat), some (2000 : Nat))])) _ _ (by kernel_rfl) (by kernel_rfl) (show True ∧
  True ∧
    True ∧
    True ∧
    (decide (i < (↑ln : Int)) = true →
    True ∧
    True ∧
    True ∧
    True ∧
    True ∧
    True ∧
    True ∧
    ((0 : Int) ≤ i ∧ i < (↑ln : Int)) ∧
    (plus (0 : Nat) i.toNat * (1 : Nat) + (0 : Nat) = plus (0 : Nat) i.toNat * (1 : Nat) ∧
    (plus (0 : Nat) i.toNat < b1000n ∧ True) ∧ True) ∧
    True ∧
    True ∧
    True ∧
    ((True ∧
    Sub (AV.rf (2000 : Nat) (1 : Nat) (0 : Nat) ln) (AV.rf (2000 : Nat) (1 : Nat) (0 : Nat) ln) ∧
    True ∧
    Sub (AV.sc (Value.int IntKind.i64 n)) (AV.sc (Value.int IntKind.i64 n)) ∧
    True ∧
    Sub (AV.sc (Value.int IntKind.i64 (IntKind.i64.wrap (i + (1 : Int)))))
    (AV.sc (Value.int IntKind.i64 (IntKind.i64.wrap (i + (1 : Int))))) ∧
    True) ∧
    True ∧
    SubB
    (AV.ar b1000n (1 : Nat) fun (i_1 : Nat) =>
    AV.sc
    (Value.int IntKind.i64
    (bif i_1.beq (plus (0 : Nat) i.toNat) then
    IntKind.i64.wrap (IntKind.i64.wrap (IntKind.i64.wrap ((0 : Int) - n) - i) - (1 : Int))
    else b1000f i_1)))
    (AV.ar b1000n (1 : Nat) fun (i0 : Nat) =>
    AV.sc
    (Value.int IntKind.i64
    (bif i0.beq (plus (0 : Nat) i.toNat) then
    IntKind.i64.wrap (IntKind.i64.wrap (IntKind.i64.wrap ((0 : Int) - n) - i) - (1 : Int))
    else b1000f i0))) ∧
    True) ∧
    L34_0 ln n (IntKind.i64.wrap (i + (1 : Int))) b1000n
    (fun (i_1 : Nat) =>
    bif i_1.beq (plus (0 : Nat) i.toNat) then
    IntKind.i64.wrap (IntKind.i64.wrap (IntKind.i64.wrap ((0 : Int) - n) - i) - (1 : Int))
    else b1000f i_1)
    res out) ∧
    (decide (i < (↑ln : Int)) = false →
    True ∧
    True ∧
    True ∧
    True ∧
    True ∧
    True ∧
    ((True ∧
    Sub (AV.sc (Value.int IntKind.i64 (IntKind.i64.wrap (n + (↑ln : Int)))))
    (AV.sc (Value.int IntKind.i64 (IntKind.i64.wrap (n + (↑ln : Int))))) ∧
    True) ∧
    True ∧
    SubB (AV.ar b1000n (1 : Nat) fun (i0 : Nat) => AV.sc (Value.int IntKind.i64 (b1000f i0)))
    (AV.ar b1000n (1 : Nat) fun (i0 : Nat) => AV.sc (Value.int IntKind.i64 (b1000f i0))) ∧
    True) ∧
    Sub (AV.sc (Value.int IntKind.i64 (IntKind.i64.wrap (n + (↑ln : Int))))) res ∧
    SubOut [((2000 : Nat), (3 : Nat), AV.ar b1000n (1 : Nat) fun (i0 : Nat) => AV.sc (Value.int IntKind.i64 (b1000f i0)))] out) from
    ⟨trivial, ⟨trivial, ⟨trivial, ⟨trivial, (And.elim (fun h4 k4 => ⟨(fun x5 => (fun h5 => ⟨trivial, ⟨trivial, ⟨trivial, ⟨trivial, ⟨trivial, ⟨trivial, ⟨trivial, (And.elim (fun h13 k13 => ⟨(And.elim (fun h14 k14 => ⟨h14, k14⟩) h13), (And.elim (fun h14 k14 => ⟨⟨rfl, ((fun h16 => ⟨((fun h17 => ⟨h17, trivial⟩) h16), trivial⟩) h14)⟩, ⟨trivial, ⟨trivial, ⟨trivial, ⟨⟨⟨trivial, ⟨Sub.refl _, ⟨trivial, ⟨Sub.refl _, ⟨trivial, ⟨Sub.refl _, trivial⟩⟩⟩⟩⟩⟩, ⟨trivial, ⟨SubB.refl _, trivial⟩⟩⟩, k14⟩⟩⟩⟩⟩) k13)⟩) h5)⟩⟩⟩⟩⟩⟩⟩) (h4 x5)), (fun x5 => (fun h5 => ⟨trivial, ⟨trivial, ⟨trivial, ⟨trivial, ⟨trivial, ⟨trivial, ⟨⟨⟨trivial, ⟨Sub.refl _, trivial⟩⟩, ⟨trivial, ⟨SubB.refl _, trivial⟩⟩⟩, (And.elim (fun h13 k13 => ⟨h13, k13⟩) h5)⟩⟩⟩⟩⟩⟩⟩) (k4 x5))⟩) h)⟩⟩⟩⟩)
theorem hf35 : Go.Proofs.Try.prog.funcs[35]? = some Go.Proofs.Try.f35 := by kernel_rfl
abbrev s35_e (an : Nat) (afa : Nat → Int) (afba : Nat → Int) (afbba : Nat → Int) (bn : Nat) (bfa : Nat → Int) (bfba : Nat → Int) (bfbba : Nat → Int) : List (Nat × AV) := [(0, (.vec true 3 an an (fun i0 => (.cons 1 (.sc (.int .i64 (afa i0))) (.cons 1 (.sc (.int .i64 (afba i0))) (.cons 1 (.sc (.int .i64 (afbba i0))) .nil)))))), (1, (.vec true 3 bn bn (fun i0 => (.cons 1 (.sc (.int .i64 (bfa i0))) (.cons 1 (.sc (.int .i64 (bfba i0))) (.cons 1 (.sc (.int .i64 (bfbba i0))) .nil))))))]
abbrev m35_e (an : Nat) (afa : Nat → Int) (afba : Nat → Int) (afbba : Nat → Int) (bn : Nat) (bfa : Nat → Int) (bfba : Nat → Int) (bfbba : Nat → Int) : List (Nat × Nat × AV) := []
def L35_e (an : Nat) (afa : Nat → Int) (afba : Nat → Int) (afbba : Nat → Int) (bn : Nat) (bfa : Nat → Int) (bfba : Nat → Int) (bfbba : Nat → Int) (res : AV) : Prop := Goes ⟨Go.Proofs.Try.prog, 35, [], res, []⟩ (place Go.Proofs.Try.f35 []) (s35_e an afa afba afbba bn bfa bfba bfbba) (m35_e an afa afba afbba bn bfa bfba bfbba)
theorem a35_e (an : Nat) (afa : Nat → Int) (afba : Nat → Int) (afbba : Nat → Int) (bn : Nat) (bfa : Nat → Int) (bfba : Nat → Int) (bfbba : Nat → Int) (res : AV) (h : (∀ slot, fact (look .undef (s35_e an afa afba afbba bn bfa bfba bfbba) slot)) → L35_e an afa afba afbba bn bfa bfba bfbba res) : L35_e an afa afba afbba bn bfa bfba bfbba res :=
  assumeRule 35 [] Go.Proofs.Try.f35 hf35 [] (s35_e an afa afba afbba bn bfa bfba bfbba) (m35_e an afa afba afbba bn bfa bfba bfbba) res [] _ (by kernel_rfl) h
abbrev s35_0 (an : Nat) (afa : Nat → Int) (afba : Nat → Int) (afbba : Nat → Int) (bn : Nat) (bfa : Nat → Int) (bfba : Nat → Int) (bfbba : Nat → Int) (i : Int) : List (Nat × AV) := [(0, (.vec true 3 an an (fun i0 => (.cons 1 (.sc (.int .i64 (afa i0))) (.cons 1 (.sc (.int .i64 (afba i0))) (.cons 1 (.sc (.int .i64 (afbba i0))) .nil)))))), (1, (.vec true 3 bn bn (fun i0 => (.cons 1 (.sc (.int .i64 (bfa i0))) (.cons 1 (.sc (.int .i64 (bfba i0))) (.cons 1 (.sc (.int .i64 (bfbba i0))) .nil)))))), (5, (.sc (.int .i64 i)))]
abbrev m35_0 (an : Nat) (afa : Nat → Int) (afba : Nat → Int) (afbba : Nat → Int) (bn : Nat) (bfa : Nat → Int) (bfba : Nat → Int) (bfbba : Nat → Int) (i : Int) : List (Nat × Nat × AV) := []
def L35_0 (an : Nat) (afa : Nat → Int) (afba : Nat → Int) (afbba : Nat → Int) (bn : Nat) (bfa : Nat → Int) (bfba : Nat → Int) (bfbba : Nat → Int) (i : Int) (res : AV) : Prop := Goes ⟨Go.Proofs.Try.prog, 35, [], res, []⟩ (place Go.Proofs.Try.f35 [1, 1, 0, 1, 0, 0]) (s35_0 an afa afba afbba bn bfa bfba bfbba i) (m35_0 an afa afba afbba bn bfa bfba bfbba i)
theorem o35 (an : Nat) (afa : Nat → Int) (afba : Nat → Int) (afbba : Nat → Int) (bn : Nat) (bfa : Nat → Int) (bfba : Nat → Int) (bfbba : Nat → Int) (res : AV) (hnew : newOnly res) (h : L35_e an afa afba afbba bn bfa bfba bfbba res) : Ok Go.Proofs.Try.prog 35 [(.vec true 3 an an (fun i0 => (.cons 1 (.sc (.int .i64 (afa i0))) (.cons 1 (.sc (.int .i64 (afba i0))) (.cons 1 (.sc (.int .i64 (afbba i0))) .nil))))), (.vec true 3 bn bn (fun i0 => (.cons 1 (.sc (.int .i64 (bfa i0))) (.cons 1 (.sc (.int .i64 (bfba i0))) (.cons 1 (.sc (.int .i64 (bfbba i0))) .nil)))))] [] res [] :=
  okRule2 35 Go.Proofs.Try.f35 hf35 [(.vec true 3 an an (fun i0 => (.cons 1 (.sc (.int .i64 (afa i0))) (.cons 1 (.sc (.int .i64 (afba i0))) (.cons 1 (.sc (.int .i64 (afbba i0))) .nil))))), (.vec true 3 bn bn (fun i0 => (.cons 1 (.sc (.int .i64 (bfa i0))) (.cons 1 (.sc (.int .i64 (bfba i0))) (.cons 1 (.sc (.int .i64 (bfbba i0))) .nil)))))] [] res [] [] rfl (by kernel_rfl) (by kernel_rfl) (by kernel_rfl) ⟨hnew, by simp⟩ (L35_e an afa afba afbba bn bfa bfba bfbba res) (by kernel_rfl) h
theorem r35_e (an : Nat) (afa : Nat → Int) (afba : Nat → Int) (afbba : Nat → Int) (bn : Nat) (bfa : Nat → Int) (bfba : Nat → Int) (bfbba : Nat → Int) (res : AV)
    (h : (((↑an : Int) != (↑bn : Int)) = true → Sub (AV.sc (Value.bool false)) res) ∧
  (((↑an : Int) != (↑bn : Int)) = false → L35_0 an afa afba afbba bn bfa bfba bfbba (0 : Int) res)) :
    L35_e an afa afba afbba bn bfa bfba bfbba res :=
  rule Go.Am.Seat.tabOk 35 [] Go.Proofs.Try.f35 hf35 [] (s35_e an afa afba afbba bn bfa bfba bfbba) (m35_e an afa afba afbba bn bfa bfba bfbba) res [] 400
    ((Orc.fin (AV.sc (Value.bool false)) [] []).br
  (Orc.cut (nat_lit 6) (s35_0 an afa afba afbba bn bfa bfba bfbba (0 : Int)) (m35_0 an afa afba afbba bn bfa bfba bfbba (0 : Int)) [])) _ _ (by kernel_rfl) (by kernel_rfl) (show True ∧
  True ∧
    True ∧
    True ∧
    True ∧
    True ∧
    (((↑an : Int) != (↑bn : Int)) = true →
    True ∧
    True ∧
    ((True ∧ Sub (AV.sc (Value.bool false)) (AV.sc (Value.bool false)) ∧ True) ∧ True) ∧ Sub (AV.sc (Value.bool false)) res ∧ SubOut [] []) ∧
    (((↑an : Int) != (↑bn : Int)) = false →
    True ∧
    ((True ∧
    Sub
    (AV.vec true (3 : Nat) an an fun (i0 : Nat) =>
    AV.cons (1 : Nat) (AV.sc (Value.int IntKind.i64 (afa i0)))
    (AV.cons (1 : Nat) (AV.sc (Value.int IntKind.i64 (afba i0)))
    (AV.cons (1 : Nat) (AV.sc (Value.int IntKind.i64 (afbba i0))) AV.nil)))
    (AV.vec true (3 : Nat) an an fun (i0 : Nat) =>
    AV.cons (1 : Nat) (AV.sc (Value.int IntKind.i64 (afa i0)))
    (AV.cons (1 : Nat) (AV.sc (Value.int IntKind.i64 (afba i0)))
    (AV.cons (1 : Nat) (AV.sc (Value.int IntKind.i64 (afbba i0))) AV.nil))) ∧
    True ∧
    Sub
    (AV.vec true (3 : Nat) bn bn fun (i0 : Nat) =>
    AV.cons (1 : Nat) (AV.sc (Value.int IntKind.i64 (bfa i0)))
    (AV.cons (1 : Nat) (AV.sc (Value.int IntKind.i64 (bfba i0)))
    (AV.cons (1 : Nat) (AV.sc (Value.int IntKind.i64 (bfbba i0))) AV.nil)))
    (AV.vec true (3 : Nat) bn bn fun (i0 : Nat) =>
    AV.cons (1 : Nat) (AV.sc (Value.int IntKind.i64 (bfa i0)))
    (AV.cons (1 : Nat) (AV.sc (Value.int IntKind.i64 (bfba i0)))
    (AV.cons (1 : Nat) (AV.sc (Value.int IntKind.i64 (bfbba i0))) AV.nil))) ∧
    True ∧ Sub (AV.sc (Value.int IntKind.i64 (0 : Int))) (AV.sc (Value.int IntKind.i64 (0 : Int))) ∧ True) ∧
    True) ∧
    L35_0 an afa afba afbba bn bfa bfba bfbba (0 : Int) res) from
    ⟨trivial, ⟨trivial, ⟨trivial, ⟨trivial, ⟨trivial, ⟨trivial, (And.elim (fun h6 k6 => ⟨(fun x7 => (fun h7 => ⟨trivial, ⟨trivial, ⟨⟨⟨trivial, ⟨Sub.refl _, trivial⟩⟩, trivial⟩, ((fun h11 => ⟨h11, trivial⟩) h7)⟩⟩⟩) (h6 x7)), (fun x7 => (fun h7 => ⟨trivial, ⟨⟨⟨trivial, ⟨Sub.refl _, ⟨trivial, ⟨Sub.refl _, ⟨trivial, ⟨Sub.refl _, trivial⟩⟩⟩⟩⟩⟩, trivial⟩, h7⟩⟩) (k6 x7))⟩) h)⟩⟩⟩⟩⟩⟩)
theorem r35_0 (an : Nat) (afa : Nat → Int) (afba : Nat → Int) (afbba : Nat → Int) (bn : Nat) (bfa : Nat → Int) (bfba : Nat → Int) (bfbba : Nat → Int) (i : Int) (res : AV)
    (h : (decide (i < (↑an : Int)) = true →
    ((0 : Int) ≤ i ∧ i < (↑an : Int)) ∧
    ((0 : Int) ≤ i ∧ i < (↑bn : Int)) ∧
    ((!cdec (afa i.toNat = bfa i.toNat ∧ afba i.toNat = bfba i.toNat ∧ afbba i.toNat = bfbba i.toNat ∧ True)) = true → Sub (AV.sc (Value.bool false)) res) ∧
    ((!cdec (afa i.toNat = bfa i.toNat ∧ afba i.toNat = bfba i.toNat ∧ afbba i.toNat = bfbba i.toNat ∧ True)) = false →
    L35_0 an afa afba afbba bn bfa bfba bfbba (IntKind.i64.wrap (i + (1 : Int))) res)) ∧
  (decide (i < (↑an : Int)) = false → Sub (AV.sc (Value.bool true)) res)) :
    L35_0 an afa afba afbba bn bfa bfba bfbba i res :=
  rule Go.Am.Seat.tabOk 35 [] Go.Proofs.Try.f35 hf35 [1, 1, 0, 1, 0, 0] (s35_0 an afa afba afbba bn bfa bfba bfbba i) (m35_0 an afa afba afbba bn bfa bfba bfbba i) res [] 400
    (((Orc.fin (AV.sc (Value.bool false)) [] []).br
    (Orc.cut (nat_lit 4) (s35_0 an afa afba afbba bn bfa bfba bfbba (IntKind.i64.wrap (i + (1 : Int))))
    (m35_0 an afa afba afbba bn bfa bfba bfbba (IntKind.i64.wrap (i + (1 : Int)))) [])).br
  (Orc.fin (AV.sc (Value.bool true)) [] [])) _ _ (by kernel_rfl) (by kernel_rfl) (show True ∧
  True ∧
    True ∧
    True ∧
    (decide (i < (↑an : Int)) = true →
    True ∧
    True ∧
    ((0 : Int) ≤ i ∧ i < (↑an : Int)) ∧
    True ∧
    True ∧
    True ∧
    ((0 : Int) ≤ i ∧ i < (↑bn : Int)) ∧
    True ∧
    ((True ∧ True) ∧ True ∧ (True ∧ True) ∧ True ∧ (True ∧ True) ∧ True ∧ True) ∧
    ((!cdec (afa i.toNat = bfa i.toNat ∧ afba i.toNat = bfba i.toNat ∧ afbba i.toNat = bfbba i.toNat ∧ True)) = true →
    True ∧
    True ∧
    ((True ∧ Sub (AV.sc (Value.bool false)) (AV.sc (Value.bool false)) ∧ True) ∧ True) ∧
    Sub (AV.sc (Value.bool false)) res ∧ SubOut [] []) ∧
    ((!cdec (afa i.toNat = bfa i.toNat ∧ afba i.toNat = bfba i.toNat ∧ afbba i.toNat = bfbba i.toNat ∧ True)) = false →
    True ∧
    True ∧
    True ∧
    ((True ∧
    Sub
    (AV.vec true (3 : Nat) an an fun (i0 : Nat) =>
    AV.cons (1 : Nat) (AV.sc (Value.int IntKind.i64 (afa i0)))
    (AV.cons (1 : Nat) (AV.sc (Value.int IntKind.i64 (afba i0)))
    (AV.cons (1 : Nat) (AV.sc (Value.int IntKind.i64 (afbba i0))) AV.nil)))
    (AV.vec true (3 : Nat) an an fun (i0 : Nat) =>
    AV.cons (1 : Nat) (AV.sc (Value.int IntKind.i64 (afa i0)))
    (AV.cons (1 : Nat) (AV.sc (Value.int IntKind.i64 (afba i0)))
    (AV.cons (1 : Nat) (AV.sc (Value.int IntKind.i64 (afbba i0))) AV.nil))) ∧
    True ∧
    Sub
    (AV.vec true (3 : Nat) bn bn fun (i0 : Nat) =>
    AV.cons (1 : Nat) (AV.sc (Value.int IntKind.i64 (bfa i0)))
    (AV.cons (1 : Nat) (AV.sc (Value.int IntKind.i64 (bfba i0)))
    (AV.cons (1 : Nat) (AV.sc (Value.int IntKind.i64 (bfbba i0))) AV.nil)))
    (AV.vec true (3 : Nat) bn bn fun (i0 : Nat) =>
    AV.cons (1 : Nat) (AV.sc (Value.int IntKind.i64 (bfa i0)))
    (AV.cons (1 : Nat) (AV.sc (Value.int IntKind.i64 (bfba i0)))
    (AV.cons (1 : Nat) (AV.sc (Value.int IntKind.i64 (bfbba i0))) AV.nil))) ∧
    True ∧
    Sub (AV.sc (Value.int IntKind.i64 (IntKind.i64.wrap (i + (1 : Int)))))
    (AV.sc (Value.int IntKind.i64 (IntKind.i64.wrap (i + (1 : Int))))) ∧
    True) ∧
    True) ∧
    L35_0 an afa afba afbba bn bfa bfba bfbba (IntKind.i64.wrap (i + (1 : Int))) res)) ∧
    (decide (i < (↑an : Int)) = false →
    True ∧ True ∧ ((True ∧ Sub (AV.sc (Value.bool true)) (AV.sc (Value.bool true)) ∧ True) ∧ True) ∧ Sub (AV.sc (Value.bool true)) res ∧ SubOut [] []) from
    ⟨trivial, ⟨trivial, ⟨trivial, ⟨trivial, (And.elim (fun h4 k4 => ⟨(fun x5 => (fun h5 => ⟨trivial, ⟨trivial, (And.elim (fun h8 k8 => ⟨(And.elim (fun h9 k9 => ⟨h9, k9⟩) h8), ⟨trivial, ⟨trivial, ⟨trivial, (And.elim (fun h12 k12 => ⟨(And.elim (fun h13 k13 => ⟨h13, k13⟩) h12), ⟨trivial, ⟨⟨⟨trivial, trivial⟩, ⟨trivial, ⟨⟨trivial, trivial⟩, ⟨trivial, ⟨⟨trivial, trivial⟩, ⟨trivial, trivial⟩⟩⟩⟩⟩⟩, (And.elim (fun h15 k15 => ⟨(fun x16 => (fun h16 => ⟨trivial, ⟨trivial, ⟨⟨⟨trivial, ⟨Sub.refl _, trivial⟩⟩, trivial⟩, ((fun h20 => ⟨h20, trivial⟩) h16)⟩⟩⟩) (h15 x16)), (fun x16 => (fun h16 => ⟨trivial, ⟨trivial, ⟨trivial, ⟨⟨⟨trivial, ⟨Sub.refl _, ⟨trivial, ⟨Sub.refl _, ⟨trivial, ⟨Sub.refl _, trivial⟩⟩⟩⟩⟩⟩, trivial⟩, h16⟩⟩⟩⟩) (k15 x16))⟩) k12)⟩⟩⟩) k8)⟩⟩⟩⟩) h5)⟩⟩) (h4 x5)), (fun x5 => (fun h5 => ⟨trivial, ⟨trivial, ⟨⟨⟨trivial, ⟨Sub.refl _, trivial⟩⟩, trivial⟩, ((fun h9 => ⟨h9, trivial⟩) h5)⟩⟩⟩) (k4 x5))⟩) h)⟩⟩⟩⟩)
theorem hf36 : Go.Proofs.Try.prog.funcs[36]? = some Go.Proofs.Try.f36 := by kernel_rfl
abbrev s36_e (man : Nat) (maf : Nat → Int) (mba : Int) (mbba : Int) (mbbba : Bool) (mbbbba : Int) : List (Nat × AV) := [(0, (.cons 1 (.vec true 1 man man (fun i0 => (.sc (.int .i64 (maf i0))))) (.cons 1 (.sc (.int .i64 mba)) (.cons 1 (.sc (.int .i64 mbba)) (.cons 1 (.sc (.bool mbbba)) (.cons 1 (.sc (.int .i64 mbbbba)) .nil))))))]
abbrev m36_e (man : Nat) (maf : Nat → Int) (mba : Int) (mbba : Int) (mbbba : Bool) (mbbbba : Int) : List (Nat × Nat × AV) := []
def L36_e (man : Nat) (maf : Nat → Int) (mba : Int) (mbba : Int) (mbbba : Bool) (mbbbba : Int) (res : AV) : Prop := Goes ⟨Go.Proofs.Try.prog, 36, [], res, []⟩ (place Go.Proofs.Try.f36 []) (s36_e man maf mba mbba mbbba mbbbba) (m36_e man maf mba mbba mbbba mbbbba)
abbrev s36_0 (out_n : Nat) (b0an : Nat) (b0af : Nat → Int) (b0ba : Int) (b0bba : Int) (b0bbba : Bool) (b0bbbba : Int) (b1n : Nat) (b1fa : Nat → Int) (b1fba : Nat → Int) (b1fbba : Nat → Int) : List (Nat × AV) := [(1, (.pt 1000 [] 0)), (3, (.rf 1001 3 0 out_n))]
abbrev m36_0 (out_n : Nat) (b0an : Nat) (b0af : Nat → Int) (b0ba : Int) (b0bba : Int) (b0bbba : Bool) (b0bbbba : Int) (b1n : Nat) (b1fa : Nat → Int) (b1fba : Nat → Int) (b1fbba : Nat → Int) : List (Nat × Nat × AV) := [(1000, 64, (.cons 1 (.vec true 1 b0an b0an (fun i0 => (.sc (.int .i64 (b0af i0))))) (.cons 1 (.sc (.int .i64 b0ba)) (.cons 1 (.sc (.int .i64 b0bba)) (.cons 1 (.sc (.bool b0bbba)) (.cons 1 (.sc (.int .i64 b0bbbba)) .nil)))))), (1001, 81, (.ar b1n 3 (fun i0 => (.cons 1 (.sc (.int .i64 (b1fa i0))) (.cons 1 (.sc (.int .i64 (b1fba i0))) (.cons 1 (.sc (.int .i64 (b1fbba i0))) .nil))))))]
def L36_0 (out_n : Nat) (b0an : Nat) (b0af : Nat → Int) (b0ba : Int) (b0bba : Int) (b0bbba : Bool) (b0bbbba : Int) (b1n : Nat) (b1fa : Nat → Int) (b1fba : Nat → Int) (b1fbba : Nat → Int) (res : AV) : Prop := Goes ⟨Go.Proofs.Try.prog, 36, [], res, []⟩ (place Go.Proofs.Try.f36 [1, 1, 1, 1]) (s36_0 out_n b0an b0af b0ba b0bba b0bbba b0bbbba b1n b1fa b1fba b1fbba) (m36_0 out_n b0an b0af b0ba b0bba b0bbba b0bbbba b1n b1fa b1fba b1fbba)
theorem o36 (man : Nat) (maf : Nat → Int) (mba : Int) (mbba : Int) (mbbba : Bool) (mbbbba : Int) (res : AV) (hnew : newOnly res) (h : L36_e man maf mba mbba mbbba mbbbba res) : Ok Go.Proofs.Try.prog 36 [(.cons 1 (.vec true 1 man man (fun i0 => (.sc (.int .i64 (maf i0))))) (.cons 1 (.sc (.int .i64 mba)) (.cons 1 (.sc (.int .i64 mbba)) (.cons 1 (.sc (.bool mbbba)) (.cons 1 (.sc (.int .i64 mbbbba)) .nil)))))] [] res [] :=
  okRule2 36 Go.Proofs.Try.f36 hf36 [(.cons 1 (.vec true 1 man man (fun i0 => (.sc (.int .i64 (maf i0))))) (.cons 1 (.sc (.int .i64 mba)) (.cons 1 (.sc (.int .i64 mbba)) (.cons 1 (.sc (.bool mbbba)) (.cons 1 (.sc (.int .i64 mbbbba)) .nil)))))] [] res [] [] rfl (by kernel_rfl) (by kernel_rfl) (by kernel_rfl) ⟨hnew, by simp⟩ (L36_e man maf mba mbba mbbba mbbbba res) (by kernel_rfl) h
theorem r36_e (man : Nat) (maf : Nat → Int) (mba : Int) (mbba : Int) (mbbba : Bool) (mbbbba : Int) (res : AV)
    (h : ∃ (r : Bool),
  Ok Proofs.Try.prog (70 : Nat)
    [AV.cons (1 : Nat) (AV.vec true (1 : Nat) man man fun (i : Nat) => AV.sc (Value.int IntKind.i64 (maf i)))
    (AV.cons (1 : Nat) (AV.sc (Value.int IntKind.i64 mba))
    (AV.cons (1 : Nat) (AV.sc (Value.int IntKind.i64 mbba))
    (AV.cons (1 : Nat) (AV.sc (Value.bool mbbba)) (AV.cons (1 : Nat) (AV.sc (Value.int IntKind.i64 mbbbba)) AV.nil))))]
    [] (AV.sc (Value.bool r)) [] ∧
    ((!r) = true → Sub (AV.sc (Value.slice none (0 : Nat) (0 : Nat))) res) ∧
    ((!r) = false →
    ((!mbbba) = true →
    ((0 : Nat) + (1 : Nat) ≤ (1 : Nat) ∧ (1 : Nat) * (24 : Nat) ≤ (140737488355328 : Nat) ∧ (1 : Nat) ≤ maxLen) ∧
    L36_0 (1 : Nat) man maf mba mbba mbbba mbbbba (1 : Nat) (fun (i : Nat) => (19 : Int)) (fun (i : Nat) => (0 : Int)) (fun (i : Nat) => (0 : Int))
    res) ∧
    ((!mbbba) = false →
    L36_0 (0 : Nat) man maf mba mbba mbbba mbbbba (0 : Nat) (fun (i : Nat) => Int.ofNat (0 : Nat)) (fun (i : Nat) => Int.ofNat (0 : Nat))
    (fun (i : Nat) => Int.ofNat (0 : Nat)) res))) :
    L36_e man maf mba mbba mbbba mbbbba res :=
  rule Go.Am.Seat.tabOk 36 [] Go.Proofs.Try.f36 hf36 [] (s36_e man maf mba mbba mbbba mbbbba) (m36_e man maf mba mbba mbbba mbbbba) res [] 400
    (Orc.call [] [] (fun (r70 : Bool) => AV.sc (Value.bool r70)) (fun (r70 : Bool) => []) fun (r70 : Bool) =>
  (Orc.fin (AV.sc (Value.slice none (0 : Nat) (0 : Nat))) [] []).br
    ((Orc.cut (nat_lit 1)
    (s36_0 (1 : Nat) man maf mba mbba mbbba mbbbba (1 : Nat) (fun (i : Nat) => (19 : Int)) (fun (i : Nat) => (0 : Int)) fun (i : Nat) => (0 : Int))
    (m36_0 (1 : Nat) man maf mba mbba mbbba mbbbba (1 : Nat) (fun (i : Nat) => (19 : Int)) (fun (i : Nat) => (0 : Int)) fun (i : Nat) => (0 : Int))
    [((1000 : Nat), some (1 : Nat)), ((1001 : Nat), some (13 : Nat))]).br
    (Orc.cut (nat_lit 1)
    (s36_0 (0 : Nat) man maf mba mbba mbbba mbbbba (0 : Nat) (fun (i : Nat) => Int.ofNat (0 : Nat)) (fun (i : Nat) => Int.ofNat (0 : Nat)) fun (i : Nat) =>
    Int.ofNat (0 : Nat))
    (m36_0 (0 : Nat) man maf mba mbba mbbba mbbbba (0 : Nat) (fun (i : Nat) => Int.ofNat (0 : Nat)) (fun (i : Nat) => Int.ofNat (0 : Nat)) fun (i : Nat) =>
    Int.ofNat (0 : Nat))
    [((1000 : Nat), some (1 : Nat)), ((1001 : Nat), none)]))) _ _ (by kernel_rfl) (by kernel_rfl) (show True ∧
  True ∧
    ((0 : Nat) = (0 : Nat) ∧ True) ∧
    ∃ (r : Bool),
    (((True ∧ True ∧ True ∧ True ∧ True ∧ True) ∧ True) ∧
    True ∧
    Ok Proofs.Try.prog (70 : Nat)
    [AV.cons (1 : Nat) (AV.vec true (1 : Nat) man man fun (i : Nat) => AV.sc (Value.int IntKind.i64 (maf i)))
    (AV.cons (1 : Nat) (AV.sc (Value.int IntKind.i64 mba))
    (AV.cons (1 : Nat) (AV.sc (Value.int IntKind.i64 mbba))
    (AV.cons (1 : Nat) (AV.sc (Value.bool mbbba)) (AV.cons (1 : Nat) (AV.sc (Value.int IntKind.i64 mbbbba)) AV.nil))))]
    [] (AV.sc (Value.bool r)) []) ∧
    True ∧
    ((!r) = true →
    True ∧
    True ∧
    ((True ∧ Sub (AV.sc (Value.slice none (0 : Nat) (0 : Nat))) (AV.sc (Value.slice none (0 : Nat) (0 : Nat))) ∧ True) ∧ True) ∧
    Sub (AV.sc (Value.slice none (0 : Nat) (0 : Nat))) res ∧ SubOut [] []) ∧
    ((!r) = false →
    True ∧
    True ∧
    ((1 : Nat) + ((1 : Nat) + ((1 : Nat) + (0 : Nat))) = plus (0 : Nat) (3 : Nat) ∧ True) ∧
    True ∧
    ((!mbbba) = true →
    True ∧
    True ∧
    (((True ∧ True ∧ True ∧ True) ∧ True) ∧ True) ∧
    (((0 : Nat) + (1 : Nat) ≤ (1 : Nat) ∧ (3 : Nat) = (3 : Nat)) ∧
    (1 : Nat) * (24 : Nat) ≤ (140737488355328 : Nat) ∧ (1 : Nat) ≤ maxLen) ∧
    True ∧
    ((True ∧
    Sub (AV.pt (1000 : Nat) [] (0 : Nat)) (AV.pt (1000 : Nat) [] (0 : Nat)) ∧
    True ∧
    Sub (AV.rf (1001 : Nat) (3 : Nat) (0 : Nat) (1 : Nat)) (AV.rf (1001 : Nat) (3 : Nat) (0 : Nat) (1 : Nat)) ∧
    True) ∧
    (True ∧ True ∧ True ∧ True ∧ True ∧ True) ∧
    SubB
    (AV.cons (1 : Nat) (AV.vec true (1 : Nat) man man fun (i0 : Nat) => AV.sc (Value.int IntKind.i64 (maf i0)))
    (AV.cons (1 : Nat) (AV.sc (Value.int IntKind.i64 mba))
    (AV.cons (1 : Nat) (AV.sc (Value.int IntKind.i64 mbba))
    (AV.cons (1 : Nat) (AV.sc (Value.bool mbbba))
    (AV.cons (1 : Nat) (AV.sc (Value.int IntKind.i64 mbbbba)) AV.nil)))))
    (AV.cons (1 : Nat) (AV.vec true (1 : Nat) man man fun (i0 : Nat) => AV.sc (Value.int IntKind.i64 (maf i0)))
    (AV.cons (1 : Nat) (AV.sc (Value.int IntKind.i64 mba))
    (AV.cons (1 : Nat) (AV.sc (Value.int IntKind.i64 mbba))
    (AV.cons (1 : Nat) (AV.sc (Value.bool mbbba))
    (AV.cons (1 : Nat) (AV.sc (Value.int IntKind.i64 mbbbba)) AV.nil))))) ∧
    True ∧
    SubB
    (AV.ar (1 : Nat) (3 : Nat) fun (i : Nat) =>
    AV.cons (1 : Nat) (AV.sc (Value.int IntKind.i64 (19 : Int)))
    (AV.cons (1 : Nat) (AV.sc (Value.int IntKind.i64 (0 : Int)))
    (AV.cons (1 : Nat) (AV.sc (Value.int IntKind.i64 (0 : Int))) AV.nil)))
    (AV.ar (1 : Nat) (3 : Nat) fun (i0 : Nat) =>
    AV.cons (1 : Nat) (AV.sc (Value.int IntKind.i64 (19 : Int)))
    (AV.cons (1 : Nat) (AV.sc (Value.int IntKind.i64 (0 : Int)))
    (AV.cons (1 : Nat) (AV.sc (Value.int IntKind.i64 (0 : Int))) AV.nil))) ∧
    True) ∧
    L36_0 (1 : Nat) man maf mba mbba mbbba mbbbba (1 : Nat) (fun (i : Nat) => (19 : Int)) (fun (i : Nat) => (0 : Int))
    (fun (i : Nat) => (0 : Int)) res) ∧
    ((!mbbba) = false →
    ((True ∧ Sub (AV.pt (1000 : Nat) [] (0 : Nat)) (AV.pt (1000 : Nat) [] (0 : Nat)) ∧ True) ∧
    (True ∧ True ∧ True ∧ True ∧ True ∧ True) ∧
    SubB
    (AV.cons (1 : Nat) (AV.vec true (1 : Nat) man man fun (i0 : Nat) => AV.sc (Value.int IntKind.i64 (maf i0)))
    (AV.cons (1 : Nat) (AV.sc (Value.int IntKind.i64 mba))
    (AV.cons (1 : Nat) (AV.sc (Value.int IntKind.i64 mbba))
    (AV.cons (1 : Nat) (AV.sc (Value.bool mbbba)) (AV.cons (1 : Nat) (AV.sc (Value.int IntKind.i64 mbbbba)) AV.nil)))))
    (AV.cons (1 : Nat) (AV.vec true (1 : Nat) man man fun (i0 : Nat) => AV.sc (Value.int IntKind.i64 (maf i0)))
    (AV.cons (1 : Nat) (AV.sc (Value.int IntKind.i64 mba))
    (AV.cons (1 : Nat) (AV.sc (Value.int IntKind.i64 mbba))
    (AV.cons (1 : Nat) (AV.sc (Value.bool mbbba))
    (AV.cons (1 : Nat) (AV.sc (Value.int IntKind.i64 mbbbba)) AV.nil))))) ∧
    True) ∧
    L36_0 (0 : Nat) man maf mba mbba mbbba mbbbba (0 : Nat) (fun (i : Nat) => Int.ofNat (0 : Nat))
    (fun (i : Nat) => Int.ofNat (0 : Nat)) (fun (i : Nat) => Int.ofNat (0 : Nat)) res)) from
    ⟨trivial, ⟨trivial, ⟨⟨rfl, trivial⟩, (Exists.elim h fun x3 h3 => ⟨x3, (And.elim (fun h4 k4 => ⟨⟨⟨⟨trivial, ⟨trivial, ⟨trivial, ⟨trivial, ⟨trivial, trivial⟩⟩⟩⟩⟩, trivial⟩, ⟨trivial, h4⟩⟩, ⟨trivial, (And.elim (fun h6 k6 => ⟨(fun x7 => (fun h7 => ⟨trivial, ⟨trivial, ⟨⟨⟨trivial, ⟨Sub.refl _, trivial⟩⟩, trivial⟩, ((fun h11 => ⟨h11, trivial⟩) h7)⟩⟩⟩) (h6 x7)), (fun x7 => (fun h7 => ⟨trivial, ⟨trivial, ⟨⟨rfl, trivial⟩, ⟨trivial, (And.elim (fun h12 k12 => ⟨(fun x13 => (fun h13 => ⟨trivial, ⟨trivial, ⟨⟨⟨⟨trivial, ⟨trivial, ⟨trivial, trivial⟩⟩⟩, trivial⟩, trivial⟩, (And.elim (fun h17 k17 => ⟨(And.elim (fun h18 k18 => ⟨((fun h19 => ⟨h19, rfl⟩) h18), (And.elim (fun h19 k19 => ⟨h19, k19⟩) k18)⟩) h17), ⟨trivial, ⟨⟨⟨trivial, ⟨Sub.refl _, ⟨trivial, ⟨Sub.refl _, trivial⟩⟩⟩⟩, ⟨⟨trivial, ⟨trivial, ⟨trivial, ⟨trivial, ⟨trivial, trivial⟩⟩⟩⟩⟩, ⟨SubB.refl _, ⟨trivial, ⟨SubB.refl _, trivial⟩⟩⟩⟩⟩, k17⟩⟩⟩) h13)⟩⟩⟩) (h12 x13)), (fun x13 => (fun h13 => ⟨⟨⟨trivial, ⟨Sub.refl _, trivial⟩⟩, ⟨⟨trivial, ⟨trivial, ⟨trivial, ⟨trivial, ⟨trivial, trivial⟩⟩⟩⟩⟩, ⟨SubB.refl _, trivial⟩⟩⟩, h13⟩) (k12 x13))⟩) h7)⟩⟩⟩⟩) (k6 x7))⟩) k4)⟩⟩) h3)⟩)⟩⟩⟩)
theorem r36_0 (out_n : Nat) (b0an : Nat) (b0af : Nat → Int) (b0ba : Int) (b0bba : Int) (b0bbba : Bool) (b0bbbba : Int) (b1n : Nat) (b1fa : Nat → Int) (b1fba : Nat → Int) (b1fbba : Nat → Int) (res : AV)
    (h : ∃ (r : Nat × (Nat → Int) × (Nat → Int) × (Nat → Int)),
  ((0 : Nat) + (1 : Nat) ≤ (1 : Nat) ∧
    Ok Proofs.Try.prog (71 : Nat)
    [AV.vec true (3 : Nat) (1 : Nat) (1 : Nat) fun (i : Nat) =>
    AV.cons (1 : Nat) (AV.sc (Value.int IntKind.i64 (21 : Int)))
    (AV.cons (1 : Nat) (AV.sc (Value.int IntKind.i64 (0 : Int))) (AV.cons (1 : Nat) (AV.sc (Value.int IntKind.i64 (0 : Int))) AV.nil)),
    AV.sc (Value.int IntKind.i64 (IntKind.i64.wrap ((↑b0an : Int) - (1 : Int))))]
    []
    (AV.vec false (3 : Nat) r.fst r.fst fun (i0 : Nat) =>
    AV.cons (1 : Nat) (AV.sc (Value.int IntKind.i64 (r.snd.fst i0)))
    (AV.cons (1 : Nat) (AV.sc (Value.int IntKind.i64 (r.snd.snd.fst i0)))
    (AV.cons (1 : Nat) (AV.sc (Value.int IntKind.i64 (r.snd.snd.snd i0))) AV.nil)))
    []) ∧
    (out_n ≤ b1n ∧ (out_n + r.fst) * (24 : Nat) ≤ (140737488355328 : Nat) ∧ out_n + r.fst ≤ maxLen) ∧
    (out_n + r.fst ≤ out_n + r.fst ∧
    (0 : Nat) + (1 : Nat) ≤ (1 : Nat) ∧ (out_n + r.fst + (1 : Nat)) * (24 : Nat) ≤ (140737488355328 : Nat) ∧ out_n + r.fst + (1 : Nat) ≤ maxLen) ∧
    ((0 : Nat) + (out_n + r.fst + (1 : Nat)) ≤ out_n + r.fst + (1 : Nat) ∧
    Sub
    (AV.vec false (3 : Nat) (out_n + r.fst + (1 : Nat)) (out_n + r.fst + (1 : Nat) - (0 : Nat)) fun (i : Nat) =>
    AV.cons (1 : Nat)
    (AV.sc
    (Value.int IntKind.i64
    (bif (plus (0 : Nat) i).blt (out_n + r.fst) then
    bif (plus (0 : Nat) i).blt out_n then b1fa (plus (0 : Nat) i) else r.snd.fst (plus (0 : Nat) i - out_n)
    else (22 : Int))))
    (AV.cons (1 : Nat)
    (AV.sc
    (Value.int IntKind.i64
    (bif (plus (0 : Nat) i).blt (out_n + r.fst) then
    bif (plus (0 : Nat) i).blt out_n then b1fba (plus (0 : Nat) i) else r.snd.snd.fst (plus (0 : Nat) i - out_n)
    else b0bbbba)))
    (AV.cons (1 : Nat)
    (AV.sc
    (Value.int IntKind.i64
    (bif (plus (0 : Nat) i).blt (out_n + r.fst) then
    bif (plus (0 : Nat) i).blt out_n then b1fbba (plus (0 : Nat) i) else r.snd.snd.snd (plus (0 : Nat) i - out_n)
    else (0 : Int))))
    AV.nil)))
    (AV.vec false (3 : Nat) (out_n + r.fst + (1 : Nat)) (out_n + r.fst + (1 : Nat)) fun (i : Nat) =>
    AV.cons (1 : Nat)
    (AV.sc
    (Value.int IntKind.i64
    (bif (plus (0 : Nat) i).blt (out_n + r.fst) then
    bif (plus (0 : Nat) i).blt out_n then b1fa (plus (0 : Nat) i) else r.snd.fst (plus (0 : Nat) i - out_n)
    else (22 : Int))))
    (AV.cons (1 : Nat)
    (AV.sc
    (Value.int IntKind.i64
    (bif (plus (0 : Nat) i).blt (out_n + r.fst) then
    bif (plus (0 : Nat) i).blt out_n then b1fba (plus (0 : Nat) i) else r.snd.snd.fst (plus (0 : Nat) i - out_n)
    else b0bbbba)))
    (AV.cons (1 : Nat)
    (AV.sc
    (Value.int IntKind.i64
    (bif (plus (0 : Nat) i).blt (out_n + r.fst) then
    bif (plus (0 : Nat) i).blt out_n then b1fbba (plus (0 : Nat) i) else r.snd.snd.snd (plus (0 : Nat) i - out_n)
    else (0 : Int))))
    AV.nil)))) ∧
    Sub
    (AV.vec false (3 : Nat) (out_n + r.fst + (1 : Nat)) (out_n + r.fst + (1 : Nat)) fun (i : Nat) =>
    AV.cons (1 : Nat)
    (AV.sc
    (Value.int IntKind.i64
    (bif (plus (0 : Nat) i).blt (out_n + r.fst) then
    bif (plus (0 : Nat) i).blt out_n then b1fa (plus (0 : Nat) i) else r.snd.fst (plus (0 : Nat) i - out_n)
    else (22 : Int))))
    (AV.cons (1 : Nat)
    (AV.sc
    (Value.int IntKind.i64
    (bif (plus (0 : Nat) i).blt (out_n + r.fst) then
    bif (plus (0 : Nat) i).blt out_n then b1fba (plus (0 : Nat) i) else r.snd.snd.fst (plus (0 : Nat) i - out_n)
    else b0bbbba)))
    (AV.cons (1 : Nat)
    (AV.sc
    (Value.int IntKind.i64
    (bif (plus (0 : Nat) i).blt (out_n + r.fst) then
    bif (plus (0 : Nat) i).blt out_n then b1fbba (plus (0 : Nat) i) else r.snd.snd.snd (plus (0 : Nat) i - out_n)
    else (0 : Int))))
    AV.nil)))
    res) :
    L36_0 out_n b0an b0af b0ba b0bba b0bbba b0bbbba b1n b1fa b1fba b1fbba res :=
  rule Go.Am.Seat.tabOk 36 [] Go.Proofs.Try.f36 hf36 [1, 1, 1, 1] (s36_0 out_n b0an b0af b0ba b0bba b0bbba b0bbbba b1n b1fa b1fba b1fbba) (m36_0 out_n b0an b0af b0ba b0bba b0bbba b0bbbba b1n b1fa b1fba b1fbba) res [] 400
    (Orc.call [] []
  (fun (r71 : Nat × (Nat → Int) × (Nat → Int) × (Nat → Int)) =>
    AV.vec false (3 : Nat) r71.fst r71.fst fun (i0 : Nat) =>
    AV.cons (1 : Nat) (AV.sc (Value.int IntKind.i64 (r71.snd.fst i0)))
    (AV.cons (1 : Nat) (AV.sc (Value.int IntKind.i64 (r71.snd.snd.fst i0)))
    (AV.cons (1 : Nat) (AV.sc (Value.int IntKind.i64 (r71.snd.snd.snd i0))) AV.nil)))
  (fun (r71 : Nat × (Nat → Int) × (Nat → Int) × (Nat → Int)) => []) fun (r71 : Nat × (Nat → Int) × (Nat → Int) × (Nat → Int)) =>
  Orc.fin
    (AV.vec false (3 : Nat) (out_n + r71.fst + (1 : Nat)) (out_n + r71.fst + (1 : Nat)) fun (i : Nat) =>
    AV.cons (1 : Nat)
    (AV.sc
    (Value.int IntKind.i64
    (bif (plus (0 : Nat) i).blt (out_n + r71.fst) then
    bif (plus (0 : Nat) i).blt out_n then b1fa (plus (0 : Nat) i) else r71.snd.fst (plus (0 : Nat) i - out_n)
    else (22 : Int))))
    (AV.cons (1 : Nat)
    (AV.sc
    (Value.int IntKind.i64
    (bif (plus (0 : Nat) i).blt (out_n + r71.fst) then
    bif (plus (0 : Nat) i).blt out_n then b1fba (plus (0 : Nat) i) else r71.snd.snd.fst (plus (0 : Nat) i - out_n)
    else b0bbbba)))
    (AV.cons (1 : Nat)
    (AV.sc
    (Value.int IntKind.i64
    (bif (plus (0 : Nat) i).blt (out_n + r71.fst) then
    bif (plus (0 : Nat) i).blt out_n then b1fbba (plus (0 : Nat) i) else r71.snd.snd.snd (plus (0 : Nat) i - out_n)
    else (0 : Int))))
    AV.nil)))
    [] []) _ _ (by kernel_rfl) (by kernel_rfl) (show True ∧
  True ∧
    (((True ∧ True ∧ True ∧ True) ∧ True) ∧ True) ∧
    True ∧
    ((0 : Nat) = plus (0 : Nat) (0 : Nat) ∧ True) ∧
    True ∧
    True ∧
    ∃ (r : Nat × (Nat → Int) × (Nat → Int) × (Nat → Int)),
    (((0 : Nat) + (1 : Nat) ≤ (1 : Nat) ∧ True ∧ True) ∧
    True ∧
    Ok Proofs.Try.prog (71 : Nat)
    [AV.vec true (3 : Nat) (1 : Nat) (1 : Nat) fun (i : Nat) =>
    AV.cons (1 : Nat) (AV.sc (Value.int IntKind.i64 (21 : Int)))
    (AV.cons (1 : Nat) (AV.sc (Value.int IntKind.i64 (0 : Int)))
    (AV.cons (1 : Nat) (AV.sc (Value.int IntKind.i64 (0 : Int))) AV.nil)),
    AV.sc (Value.int IntKind.i64 (IntKind.i64.wrap ((↑b0an : Int) - (1 : Int))))]
    []
    (AV.vec false (3 : Nat) r.fst r.fst fun (i0 : Nat) =>
    AV.cons (1 : Nat) (AV.sc (Value.int IntKind.i64 (r.snd.fst i0)))
    (AV.cons (1 : Nat) (AV.sc (Value.int IntKind.i64 (r.snd.snd.fst i0)))
    (AV.cons (1 : Nat) (AV.sc (Value.int IntKind.i64 (r.snd.snd.snd i0))) AV.nil)))
    []) ∧
    (out_n ≤ b1n ∧ True ∧ (out_n + r.fst) * (24 : Nat) ≤ (140737488355328 : Nat) ∧ out_n + r.fst ≤ maxLen) ∧
    True ∧
    True ∧
    True ∧
    ((1 : Nat) + ((1 : Nat) + ((1 : Nat) + ((1 : Nat) + (0 : Nat)))) = plus (0 : Nat) (4 : Nat) ∧ True) ∧
    True ∧
    (((True ∧ True ∧ True ∧ True) ∧ True) ∧ True) ∧
    (out_n + r.fst ≤ out_n + r.fst ∧
    ((0 : Nat) + (1 : Nat) ≤ (1 : Nat) ∧ (3 : Nat) = (3 : Nat)) ∧
    (out_n + r.fst + (1 : Nat)) * (24 : Nat) ≤ (140737488355328 : Nat) ∧ out_n + r.fst + (1 : Nat) ≤ maxLen) ∧
    True ∧
    True ∧
    (((0 : Nat) + (out_n + r.fst + (1 : Nat)) ≤ out_n + r.fst + (1 : Nat) ∧
    Sub
    (AV.vec false (3 : Nat) (out_n + r.fst + (1 : Nat)) (out_n + r.fst + (1 : Nat) - (0 : Nat)) fun (i : Nat) =>
    AV.cons (1 : Nat)
    (AV.sc
    (Value.int IntKind.i64
    (bif (plus (0 : Nat) i).blt (out_n + r.fst) then
    bif (plus (0 : Nat) i).blt out_n then b1fa (plus (0 : Nat) i)
    else r.snd.fst (plus (0 : Nat) i - out_n)
    else (22 : Int))))
    (AV.cons (1 : Nat)
    (AV.sc
    (Value.int IntKind.i64
    (bif (plus (0 : Nat) i).blt (out_n + r.fst) then
    bif (plus (0 : Nat) i).blt out_n then b1fba (plus (0 : Nat) i)
    else r.snd.snd.fst (plus (0 : Nat) i - out_n)
    else b0bbbba)))
    (AV.cons (1 : Nat)
    (AV.sc
    (Value.int IntKind.i64
    (bif (plus (0 : Nat) i).blt (out_n + r.fst) then
    bif (plus (0 : Nat) i).blt out_n then b1fbba (plus (0 : Nat) i)
    else r.snd.snd.snd (plus (0 : Nat) i - out_n)
    else (0 : Int))))
    AV.nil)))
    (AV.vec false (3 : Nat) (out_n + r.fst + (1 : Nat)) (out_n + r.fst + (1 : Nat)) fun (i : Nat) =>
    AV.cons (1 : Nat)
    (AV.sc
    (Value.int IntKind.i64
    (bif (plus (0 : Nat) i).blt (out_n + r.fst) then
    bif (plus (0 : Nat) i).blt out_n then b1fa (plus (0 : Nat) i)
    else r.snd.fst (plus (0 : Nat) i - out_n)
    else (22 : Int))))
    (AV.cons (1 : Nat)
    (AV.sc
    (Value.int IntKind.i64
    (bif (plus (0 : Nat) i).blt (out_n + r.fst) then
    bif (plus (0 : Nat) i).blt out_n then b1fba (plus (0 : Nat) i)
    else r.snd.snd.fst (plus (0 : Nat) i - out_n)
    else b0bbbba)))
    (AV.cons (1 : Nat)
    (AV.sc
    (Value.int IntKind.i64
    (bif (plus (0 : Nat) i).blt (out_n + r.fst) then
    bif (plus (0 : Nat) i).blt out_n then b1fbba (plus (0 : Nat) i)
    else r.snd.snd.snd (plus (0 : Nat) i - out_n)
    else (0 : Int))))
    AV.nil))) ∧
    True) ∧
    True) ∧
    Sub
    (AV.vec false (3 : Nat) (out_n + r.fst + (1 : Nat)) (out_n + r.fst + (1 : Nat)) fun (i : Nat) =>
    AV.cons (1 : Nat)
    (AV.sc
    (Value.int IntKind.i64
    (bif (plus (0 : Nat) i).blt (out_n + r.fst) then
    bif (plus (0 : Nat) i).blt out_n then b1fa (plus (0 : Nat) i) else r.snd.fst (plus (0 : Nat) i - out_n)
    else (22 : Int))))
    (AV.cons (1 : Nat)
    (AV.sc
    (Value.int IntKind.i64
    (bif (plus (0 : Nat) i).blt (out_n + r.fst) then
    bif (plus (0 : Nat) i).blt out_n then b1fba (plus (0 : Nat) i)
    else r.snd.snd.fst (plus (0 : Nat) i - out_n)
    else b0bbbba)))
    (AV.cons (1 : Nat)
    (AV.sc
    (Value.int IntKind.i64
    (bif (plus (0 : Nat) i).blt (out_n + r.fst) then
    bif (plus (0 : Nat) i).blt out_n then b1fbba (plus (0 : Nat) i)
    else r.snd.snd.snd (plus (0 : Nat) i - out_n)
    else (0 : Int))))
    AV.nil)))
    res ∧
    SubOut [] [] from
    ⟨trivial, ⟨trivial, ⟨⟨⟨⟨trivial, ⟨trivial, ⟨trivial, trivial⟩⟩⟩, trivial⟩, trivial⟩, ⟨trivial, ⟨⟨rfl, trivial⟩, ⟨trivial, ⟨trivial, (Exists.elim h fun x7 h7 => ⟨x7, (And.elim (fun h8 k8 => ⟨(And.elim (fun h9 k9 => ⟨((fun h10 => ⟨h10, ⟨trivial, trivial⟩⟩) h9), ⟨trivial, k9⟩⟩) h8), (And.elim (fun h9 k9 => ⟨(And.elim (fun h10 k10 => ⟨h10, ⟨trivial, (And.elim (fun h12 k12 => ⟨h12, k12⟩) k10)⟩⟩) h9), ⟨trivial, ⟨trivial, ⟨trivial, ⟨⟨rfl, trivial⟩, ⟨trivial, ⟨⟨⟨⟨trivial, ⟨trivial, ⟨trivial, trivial⟩⟩⟩, trivial⟩, trivial⟩, (And.elim (fun h16 k16 => ⟨(And.elim (fun h17 k17 => ⟨h17, (And.elim (fun h18 k18 => ⟨((fun h19 => ⟨h19, rfl⟩) h18), (And.elim (fun h19 k19 => ⟨h19, k19⟩) k18)⟩) k17)⟩) h16), ⟨trivial, ⟨trivial, (And.elim (fun h19 k19 => ⟨((fun h20 => ⟨(And.elim (fun h21 k21 => ⟨h21, ((fun h22 => ⟨h22, trivial⟩) k21)⟩) h20), trivial⟩) h19), ((fun h20 => ⟨h20, trivial⟩) k19)⟩) k16)⟩⟩⟩) k9)⟩⟩⟩⟩⟩⟩⟩) k8)⟩) h7)⟩)⟩⟩⟩⟩⟩⟩⟩)
theorem hf37 : Go.Proofs.Try.prog.funcs[37]? = some Go.Proofs.Try.f37 := by kernel_rfl
abbrev s37_e (man : Nat) (maf : Nat → Int) (mba : Int) (mbba : Int) (mbbba : Bool) (mbbbba : Int) : List (Nat × AV) := [(0, (.cons 1 (.vec true 1 man man (fun i0 => (.sc (.int .i64 (maf i0))))) (.cons 1 (.sc (.int .i64 mba)) (.cons 1 (.sc (.int .i64 mbba)) (.cons 1 (.sc (.bool mbbba)) (.cons 1 (.sc (.int .i64 mbbbba)) .nil))))))]
abbrev m37_e (man : Nat) (maf : Nat → Int) (mba : Int) (mbba : Int) (mbbba : Bool) (mbbbba : Int) : List (Nat × Nat × AV) := []
def L37_e (man : Nat) (maf : Nat → Int) (mba : Int) (mbba : Int) (mbbba : Bool) (mbbbba : Int) (res : AV) : Prop := Goes ⟨Go.Proofs.Try.prog, 37, [], res, []⟩ (place Go.Proofs.Try.f37 []) (s37_e man maf mba mbba mbbba mbbbba) (m37_e man maf mba mbba mbbba mbbbba)
abbrev s37_0 (out_n : Nat) (b0an : Nat) (b0af : Nat → Int) (b0ba : Int) (b0bba : Int) (b0bbba : Bool) (b0bbbba : Int) (b1n : Nat) (b1fa : Nat → Int) (b1fba : Nat → Int) (b1fbba : Nat → Int) : List (Nat × AV) := [(1, (.pt 1000 [] 0)), (3, (.rf 1001 3 0 out_n))]
abbrev m37_0 (out_n : Nat) (b0an : Nat) (b0af : Nat → Int) (b0ba : Int) (b0bba : Int) (b0bbba : Bool) (b0bbbba : Int) (b1n : Nat) (b1fa : Nat → Int) (b1fba : Nat → Int) (b1fbba : Nat → Int) : List (Nat × Nat × AV) := [(1000, 64, (.cons 1 (.vec true 1 b0an b0an (fun i0 => (.sc (.int .i64 (b0af i0))))) (.cons 1 (.sc (.int .i64 b0ba)) (.cons 1 (.sc (.int .i64 b0bba)) (.cons 1 (.sc (.bool b0bbba)) (.cons 1 (.sc (.int .i64 b0bbbba)) .nil)))))), (1001, 81, (.ar b1n 3 (fun i0 => (.cons 1 (.sc (.int .i64 (b1fa i0))) (.cons 1 (.sc (.int .i64 (b1fba i0))) (.cons 1 (.sc (.int .i64 (b1fbba i0))) .nil))))))]
def L37_0 (out_n : Nat) (b0an : Nat) (b0af : Nat → Int) (b0ba : Int) (b0bba : Int) (b0bbba : Bool) (b0bbbba : Int) (b1n : Nat) (b1fa : Nat → Int) (b1fba : Nat → Int) (b1fbba : Nat → Int) (res : AV) : Prop := Goes ⟨Go.Proofs.Try.prog, 37, [], res, []⟩ (place Go.Proofs.Try.f37 [1, 1, 1, 1]) (s37_0 out_n b0an b0af b0ba b0bba b0bbba b0bbbba b1n b1fa b1fba b1fbba) (m37_0 out_n b0an b0af b0ba b0bba b0bbba b0bbbba b1n b1fa b1fba b1fbba)
abbrev s37_1 (out_n : Nat) (i : Int) (b0an : Nat) (b0af : Nat → Int) (b0ba : Int) (b0bba : Int) (b0bbba : Bool) (b0bbbba : Int) (b1n : Nat) (b1fa : Nat → Int) (b1fba : Nat → Int) (b1fbba : Nat → Int) : List (Nat × AV) := [(1, (.pt 1000 [] 0)), (3, (.rf 1001 3 0 out_n)), (4, (.sc (.int .i64 i)))]
abbrev m37_1 (out_n : Nat) (i : Int) (b0an : Nat) (b0af : Nat → Int) (b0ba : Int) (b0bba : Int) (b0bbba : Bool) (b0bbbba : Int) (b1n : Nat) (b1fa : Nat → Int) (b1fba : Nat → Int) (b1fbba : Nat → Int) : List (Nat × Nat × AV) := [(1000, 64, (.cons 1 (.vec true 1 b0an b0an (fun i0 => (.sc (.int .i64 (b0af i0))))) (.cons 1 (.sc (.int .i64 b0ba)) (.cons 1 (.sc (.int .i64 b0bba)) (.cons 1 (.sc (.bool b0bbba)) (.cons 1 (.sc (.int .i64 b0bbbba)) .nil)))))), (1001, 81, (.ar b1n 3 (fun i0 => (.cons 1 (.sc (.int .i64 (b1fa i0))) (.cons 1 (.sc (.int .i64 (b1fba i0))) (.cons 1 (.sc (.int .i64 (b1fbba i0))) .nil))))))]
def L37_1 (out_n : Nat) (i : Int) (b0an : Nat) (b0af : Nat → Int) (b0ba : Int) (b0bba : Int) (b0bbba : Bool) (b0bbbba : Int) (b1n : Nat) (b1fa : Nat → Int) (b1fba : Nat → Int) (b1fbba : Nat → Int) (res : AV) : Prop := Goes ⟨Go.Proofs.Try.prog, 37, [], res, []⟩ (place Go.Proofs.Try.f37 [1, 1, 1, 1, 0, 1, 0, 0]) (s37_1 out_n i b0an b0af b0ba b0bba b0bbba b0bbbba b1n b1fa b1fba b1fbba) (m37_1 out_n i b0an b0af b0ba b0bba b0bbba b0bbbba b1n b1fa b1fba b1fbba)
theorem o37 (man : Nat) (maf : Nat → Int) (mba : Int) (mbba : Int) (mbbba : Bool) (mbbbba : Int) (res : AV) (hnew : newOnly res) (h : L37_e man maf mba mbba mbbba mbbbba res) : Ok Go.Proofs.Try.prog 37 [(.cons 1 (.vec true 1 man man (fun i0 => (.sc (.int .i64 (maf i0))))) (.cons 1 (.sc (.int .i64 mba)) (.cons 1 (.sc (.int .i64 mbba)) (.cons 1 (.sc (.bool mbbba)) (.cons 1 (.sc (.int .i64 mbbbba)) .nil)))))] [] res [] :=
  okRule2 37 Go.Proofs.Try.f37 hf37 [(.cons 1 (.vec true 1 man man (fun i0 => (.sc (.int .i64 (maf i0))))) (.cons 1 (.sc (.int .i64 mba)) (.cons 1 (.sc (.int .i64 mbba)) (.cons 1 (.sc (.bool mbbba)) (.cons 1 (.sc (.int .i64 mbbbba)) .nil)))))] [] res [] [] rfl (by kernel_rfl) (by kernel_rfl) (by kernel_rfl) ⟨hnew, by simp⟩ (L37_e man maf mba mbba mbbba mbbbba res) (by kernel_rfl) h
theorem r37_e (man : Nat) (maf : Nat → Int) (mba : Int) (mbba : Int) (mbbba : Bool) (mbbbba : Int) (res : AV)
    (h : ∃ (r : Bool),
  Ok Proofs.Try.prog (72 : Nat)
    [AV.cons (1 : Nat) (AV.vec true (1 : Nat) man man fun (i : Nat) => AV.sc (Value.int IntKind.i64 (maf i)))
    (AV.cons (1 : Nat) (AV.sc (Value.int IntKind.i64 mba))
    (AV.cons (1 : Nat) (AV.sc (Value.int IntKind.i64 mbba))
    (AV.cons (1 : Nat) (AV.sc (Value.bool mbbba)) (AV.cons (1 : Nat) (AV.sc (Value.int IntKind.i64 mbbbba)) AV.nil))))]
    [] (AV.sc (Value.bool r)) [] ∧
    ((!r) = true → Sub (AV.sc (Value.slice none (0 : Nat) (0 : Nat))) res) ∧
    ((!r) = false →
    ((!mbbba) = true →
    ((0 : Nat) + (1 : Nat) ≤ (1 : Nat) ∧ (1 : Nat) * (24 : Nat) ≤ (140737488355328 : Nat) ∧ (1 : Nat) ≤ maxLen) ∧
    L37_0 (1 : Nat) man maf mba mbba mbbba mbbbba (1 : Nat) (fun (i : Nat) => (19 : Int)) (fun (i : Nat) => (0 : Int)) (fun (i : Nat) => (0 : Int))
    res) ∧
    ((!mbbba) = false →
    L37_0 (0 : Nat) man maf mba mbba mbbba mbbbba (0 : Nat) (fun (i : Nat) => Int.ofNat (0 : Nat)) (fun (i : Nat) => Int.ofNat (0 : Nat))
    (fun (i : Nat) => Int.ofNat (0 : Nat)) res))) :
    L37_e man maf mba mbba mbbba mbbbba res :=
  rule Go.Am.Seat.tabOk 37 [] Go.Proofs.Try.f37 hf37 [] (s37_e man maf mba mbba mbbba mbbbba) (m37_e man maf mba mbba mbbba mbbbba) res [] 400
    (Orc.call [] [] (fun (r72 : Bool) => AV.sc (Value.bool r72)) (fun (r72 : Bool) => []) fun (r72 : Bool) =>
  (Orc.fin (AV.sc (Value.slice none (0 : Nat) (0 : Nat))) [] []).br
    ((Orc.cut (nat_lit 1)
    (s37_0 (1 : Nat) man maf mba mbba mbbba mbbbba (1 : Nat) (fun (i : Nat) => (19 : Int)) (fun (i : Nat) => (0 : Int)) fun (i : Nat) => (0 : Int))
    (m37_0 (1 : Nat) man maf mba mbba mbbba mbbbba (1 : Nat) (fun (i : Nat) => (19 : Int)) (fun (i : Nat) => (0 : Int)) fun (i : Nat) => (0 : Int))
    [((1000 : Nat), some (1 : Nat)), ((1001 : Nat), some (14 : Nat))]).br
    (Orc.cut (nat_lit 1)
    (s37_0 (0 : Nat) man maf mba mbba mbbba mbbbba (0 : Nat) (fun (i : Nat) => Int.ofNat (0 : Nat)) (fun (i : Nat) => Int.ofNat (0 : Nat)) fun (i : Nat) =>
    Int.ofNat (0 : Nat))
    (m37_0 (0 : Nat) man maf mba mbba mbbba mbbbba (0 : Nat) (fun (i : Nat) => Int.ofNat (0 : Nat)) (fun (i : Nat) => Int.ofNat (0 : Nat)) fun (i : Nat) =>
    Int.ofNat (0 : Nat))
    [((1000 : Nat), some (1 : Nat)), ((1001 : Nat), none)]))) _ _ (by kernel_rfl) (by kernel_rfl) (show True ∧
  True ∧
    ((0 : Nat) = (0 : Nat) ∧ True) ∧
    ∃ (r : Bool),
    (((True ∧ True ∧ True ∧ True ∧ True ∧ True) ∧ True) ∧
    True ∧
    Ok Proofs.Try.prog (72 : Nat)
    [AV.cons (1 : Nat) (AV.vec true (1 : Nat) man man fun (i : Nat) => AV.sc (Value.int IntKind.i64 (maf i)))
    (AV.cons (1 : Nat) (AV.sc (Value.int IntKind.i64 mba))
    (AV.cons (1 : Nat) (AV.sc (Value.int IntKind.i64 mbba))
    (AV.cons (1 : Nat) (AV.sc (Value.bool mbbba)) (AV.cons (1 : Nat) (AV.sc (Value.int IntKind.i64 mbbbba)) AV.nil))))]
    [] (AV.sc (Value.bool r)) []) ∧
    True ∧
    ((!r) = true →
    True ∧
    True ∧
    ((True ∧ Sub (AV.sc (Value.slice none (0 : Nat) (0 : Nat))) (AV.sc (Value.slice none (0 : Nat) (0 : Nat))) ∧ True) ∧ True) ∧
    Sub (AV.sc (Value.slice none (0 : Nat) (0 : Nat))) res ∧ SubOut [] []) ∧
    ((!r) = false →
    True ∧
    True ∧
    ((1 : Nat) + ((1 : Nat) + ((1 : Nat) + (0 : Nat))) = plus (0 : Nat) (3 : Nat) ∧ True) ∧
    True ∧
    ((!mbbba) = true →
    True ∧
    True ∧
    (((True ∧ True ∧ True ∧ True) ∧ True) ∧ True) ∧
    (((0 : Nat) + (1 : Nat) ≤ (1 : Nat) ∧ (3 : Nat) = (3 : Nat)) ∧
    (1 : Nat) * (24 : Nat) ≤ (140737488355328 : Nat) ∧ (1 : Nat) ≤ maxLen) ∧
    True ∧
    ((True ∧
    Sub (AV.pt (1000 : Nat) [] (0 : Nat)) (AV.pt (1000 : Nat) [] (0 : Nat)) ∧
    True ∧
    Sub (AV.rf (1001 : Nat) (3 : Nat) (0 : Nat) (1 : Nat)) (AV.rf (1001 : Nat) (3 : Nat) (0 : Nat) (1 : Nat)) ∧
    True) ∧
    (True ∧ True ∧ True ∧ True ∧ True ∧ True) ∧
    SubB
    (AV.cons (1 : Nat) (AV.vec true (1 : Nat) man man fun (i0 : Nat) => AV.sc (Value.int IntKind.i64 (maf i0)))
    (AV.cons (1 : Nat) (AV.sc (Value.int IntKind.i64 mba))
    (AV.cons (1 : Nat) (AV.sc (Value.int IntKind.i64 mbba))
    (AV.cons (1 : Nat) (AV.sc (Value.bool mbbba))
    (AV.cons (1 : Nat) (AV.sc (Value.int IntKind.i64 mbbbba)) AV.nil)))))
    (AV.cons (1 : Nat) (AV.vec true (1 : Nat) man man fun (i0 : Nat) => AV.sc (Value.int IntKind.i64 (maf i0)))
    (AV.cons (1 : Nat) (AV.sc (Value.int IntKind.i64 mba))
    (AV.cons (1 : Nat) (AV.sc (Value.int IntKind.i64 mbba))
    (AV.cons (1 : Nat) (AV.sc (Value.bool mbbba))
    (AV.cons (1 : Nat) (AV.sc (Value.int IntKind.i64 mbbbba)) AV.nil))))) ∧
    True ∧
    SubB
    (AV.ar (1 : Nat) (3 : Nat) fun (i : Nat) =>
    AV.cons (1 : Nat) (AV.sc (Value.int IntKind.i64 (19 : Int)))
    (AV.cons (1 : Nat) (AV.sc (Value.int IntKind.i64 (0 : Int)))
    (AV.cons (1 : Nat) (AV.sc (Value.int IntKind.i64 (0 : Int))) AV.nil)))
    (AV.ar (1 : Nat) (3 : Nat) fun (i0 : Nat) =>
    AV.cons (1 : Nat) (AV.sc (Value.int IntKind.i64 (19 : Int)))
    (AV.cons (1 : Nat) (AV.sc (Value.int IntKind.i64 (0 : Int)))
    (AV.cons (1 : Nat) (AV.sc (Value.int IntKind.i64 (0 : Int))) AV.nil))) ∧
    True) ∧
    L37_0 (1 : Nat) man maf mba mbba mbbba mbbbba (1 : Nat) (fun (i : Nat) => (19 : Int)) (fun (i : Nat) => (0 : Int))
    (fun (i : Nat) => (0 : Int)) res) ∧
    ((!mbbba) = false →
    ((True ∧ Sub (AV.pt (1000 : Nat) [] (0 : Nat)) (AV.pt (1000 : Nat) [] (0 : Nat)) ∧ True) ∧
    (True ∧ True ∧ True ∧ True ∧ True ∧ True) ∧
    SubB
    (AV.cons (1 : Nat) (AV.vec true (1 : Nat) man man fun (i0 : Nat) => AV.sc (Value.int IntKind.i64 (maf i0)))
    (AV.cons (1 : Nat) (AV.sc (Value.int IntKind.i64 mba))
    (AV.cons (1 : Nat) (AV.sc (Value.int IntKind.i64 mbba))
    (AV.cons (1 : Nat) (AV.sc (Value.bool mbbba)) (AV.cons (1 : Nat) (AV.sc (Value.int IntKind.i64 mbbbba)) AV.nil)))))
    (AV.cons (1 : Nat) (AV.vec true (1 : Nat) man man fun (i0 : Nat) => AV.sc (Value.int IntKind.i64 (maf i0)))
    (AV.cons (1 : Nat) (AV.sc (Value.int IntKind.i64 mba))
    (AV.cons (1 : Nat) (AV.sc (Value.int IntKind.i64 mbba))
    (AV.cons (1 : Nat) (AV.sc (Value.bool mbbba))
    (AV.cons (1 : Nat) (AV.sc (Value.int IntKind.i64 mbbbba)) AV.nil))))) ∧
    True) ∧
    L37_0 (0 : Nat) man maf mba mbba mbbba mbbbba (0 : Nat) (fun (i : Nat) => Int.ofNat (0 : Nat))
    (fun (i : Nat) => Int.ofNat (0 : Nat)) (fun (i : Nat) => Int.ofNat (0 : Nat)) res)) from
    ⟨trivial, ⟨trivial, ⟨⟨rfl, trivial⟩, (Exists.elim h fun x3 h3 => ⟨x3, (And.elim (fun h4 k4 => ⟨⟨⟨⟨trivial, ⟨trivial, ⟨trivial, ⟨trivial, ⟨trivial, trivial⟩⟩⟩⟩⟩, trivial⟩, ⟨trivial, h4⟩⟩, ⟨trivial, (And.elim (fun h6 k6 => ⟨(fun x7 => (fun h7 => ⟨trivial, ⟨trivial, ⟨⟨⟨trivial, ⟨Sub.refl _, trivial⟩⟩, trivial⟩, ((fun h11 => ⟨h11, trivial⟩) h7)⟩⟩⟩) (h6 x7)), (fun x7 => (fun h7 => ⟨trivial, ⟨trivial, ⟨⟨rfl, trivial⟩, ⟨trivial, (And.elim (fun h12 k12 => ⟨(fun x13 => (fun h13 => ⟨trivial, ⟨trivial, ⟨⟨⟨⟨trivial, ⟨trivial, ⟨trivial, trivial⟩⟩⟩, trivial⟩, trivial⟩, (And.elim (fun h17 k17 => ⟨(And.elim (fun h18 k18 => ⟨((fun h19 => ⟨h19, rfl⟩) h18), (And.elim (fun h19 k19 => ⟨h19, k19⟩) k18)⟩) h17), ⟨trivial, ⟨⟨⟨trivial, ⟨Sub.refl _, ⟨trivial, ⟨Sub.refl _, trivial⟩⟩⟩⟩, ⟨⟨trivial, ⟨trivial, ⟨trivial, ⟨trivial, ⟨trivial, trivial⟩⟩⟩⟩⟩, ⟨SubB.refl _, ⟨trivial, ⟨SubB.refl _, trivial⟩⟩⟩⟩⟩, k17⟩⟩⟩) h13)⟩⟩⟩) (h12 x13)), (fun x13 => (fun h13 => ⟨⟨⟨trivial, ⟨Sub.refl _, trivial⟩⟩, ⟨⟨trivial, ⟨trivial, ⟨trivial, ⟨trivial, ⟨trivial, trivial⟩⟩⟩⟩⟩, ⟨SubB.refl _, trivial⟩⟩⟩, h13⟩) (k12 x13))⟩) h7)⟩⟩⟩⟩) (k6 x7))⟩) k4)⟩⟩) h3)⟩)⟩⟩⟩)
theorem r37_0 (out_n : Nat) (b0an : Nat) (b0af : Nat → Int) (b0ba : Int) (b0bba : Int) (b0bbba : Bool) (b0bbbba : Int) (b1n : Nat) (b1fa : Nat → Int) (b1fba : Nat → Int) (b1fbba : Nat → Int) (res : AV)
    (h : L37_1 out_n (1 : Int) b0an b0af b0ba b0bba b0bbba b0bbbba b1n b1fa b1fba b1fbba res) :
    L37_0 out_n b0an b0af b0ba b0bba b0bbba b0bbbba b1n b1fa b1fba b1fbba res :=
  rule Go.Am.Seat.tabOk 37 [] Go.Proofs.Try.f37 hf37 [1, 1, 1, 1] (s37_0 out_n b0an b0af b0ba b0bba b0bbba b0bbbba b1n b1fa b1fba b1fbba) (m37_0 out_n b0an b0af b0ba b0bba b0bbba b0bbbba b1n b1fa b1fba b1fbba) res [] 400
    (Orc.cut (nat_lit 5) (s37_1 out_n (1 : Int) b0an b0af b0ba b0bba b0bbba b0bbbba b1n b1fa b1fba b1fbba)
  (m37_1 out_n (1 : Int) b0an b0af b0ba b0bba b0bbba b0bbbba b1n b1fa b1fba b1fbba) [((1000 : Nat), some (1000 : Nat)), ((1001 : Nat), some (1001 : Nat))]) _ _ (by kernel_rfl) (by kernel_rfl) (show True ∧
  ((True ∧
    Sub (AV.pt (1000 : Nat) [] (0 : Nat)) (AV.pt (1000 : Nat) [] (0 : Nat)) ∧
    True ∧
    Sub (AV.rf (1001 : Nat) (3 : Nat) (0 : Nat) out_n) (AV.rf (1001 : Nat) (3 : Nat) (0 : Nat) out_n) ∧
    True ∧ Sub (AV.sc (Value.int IntKind.i64 (1 : Int))) (AV.sc (Value.int IntKind.i64 (1 : Int))) ∧ True) ∧
    (True ∧ True ∧ True ∧ True ∧ True ∧ True) ∧
    SubB
    (AV.cons (1 : Nat) (AV.vec true (1 : Nat) b0an b0an fun (i0 : Nat) => AV.sc (Value.int IntKind.i64 (b0af i0)))
    (AV.cons (1 : Nat) (AV.sc (Value.int IntKind.i64 b0ba))
    (AV.cons (1 : Nat) (AV.sc (Value.int IntKind.i64 b0bba))
    (AV.cons (1 : Nat) (AV.sc (Value.bool b0bbba)) (AV.cons (1 : Nat) (AV.sc (Value.int IntKind.i64 b0bbbba)) AV.nil)))))
    (AV.cons (1 : Nat) (AV.vec true (1 : Nat) b0an b0an fun (i0 : Nat) => AV.sc (Value.int IntKind.i64 (b0af i0)))
    (AV.cons (1 : Nat) (AV.sc (Value.int IntKind.i64 b0ba))
    (AV.cons (1 : Nat) (AV.sc (Value.int IntKind.i64 b0bba))
    (AV.cons (1 : Nat) (AV.sc (Value.bool b0bbba)) (AV.cons (1 : Nat) (AV.sc (Value.int IntKind.i64 b0bbbba)) AV.nil))))) ∧
    True ∧
    SubB
    (AV.ar b1n (3 : Nat) fun (i0 : Nat) =>
    AV.cons (1 : Nat) (AV.sc (Value.int IntKind.i64 (b1fa i0)))
    (AV.cons (1 : Nat) (AV.sc (Value.int IntKind.i64 (b1fba i0))) (AV.cons (1 : Nat) (AV.sc (Value.int IntKind.i64 (b1fbba i0))) AV.nil)))
    (AV.ar b1n (3 : Nat) fun (i0 : Nat) =>
    AV.cons (1 : Nat) (AV.sc (Value.int IntKind.i64 (b1fa i0)))
    (AV.cons (1 : Nat) (AV.sc (Value.int IntKind.i64 (b1fba i0))) (AV.cons (1 : Nat) (AV.sc (Value.int IntKind.i64 (b1fbba i0))) AV.nil))) ∧
    True) ∧
    L37_1 out_n (1 : Int) b0an b0af b0ba b0bba b0bbba b0bbbba b1n b1fa b1fba b1fbba res from
    ⟨trivial, ⟨⟨⟨trivial, ⟨Sub.refl _, ⟨trivial, ⟨Sub.refl _, ⟨trivial, ⟨Sub.refl _, trivial⟩⟩⟩⟩⟩⟩, ⟨⟨trivial, ⟨trivial, ⟨trivial, ⟨trivial, ⟨trivial, trivial⟩⟩⟩⟩⟩, ⟨SubB.refl _, ⟨trivial, ⟨SubB.refl _, trivial⟩⟩⟩⟩⟩, h⟩⟩)
theorem r37_1 (out_n : Nat) (i : Int) (b0an : Nat) (b0af : Nat → Int) (b0ba : Int) (b0bba : Int) (b0bbba : Bool) (b0bbbba : Int) (b1n : Nat) (b1fa : Nat → Int) (b1fba : Nat → Int) (b1fbba : Nat → Int) (res : AV)
    (h : (decide (i < (↑b0an : Int)) = true →
    (out_n ≤ b1n ∧ (0 : Nat) + (1 : Nat) ≤ (1 : Nat) ∧ (out_n + (1 : Nat)) * (24 : Nat) ≤ (140737488355328 : Nat) ∧ out_n + (1 : Nat) ≤ maxLen) ∧
    L37_1 (out_n + (1 : Nat)) (IntKind.i64.wrap (i + (1 : Int))) b0an b0af b0ba b0bba b0bbba b0bbbba (out_n + (1 : Nat))
    (fun (i : Nat) => bif i.blt out_n then b1fa i else (21 : Int)) (fun (i : Nat) => bif i.blt out_n then b1fba i else (0 : Int))
    (fun (i : Nat) => bif i.blt out_n then b1fbba i else (0 : Int)) res) ∧
  (decide (i < (↑b0an : Int)) = false →
    (out_n ≤ b1n ∧ (0 : Nat) + (1 : Nat) ≤ (1 : Nat) ∧ (out_n + (1 : Nat)) * (24 : Nat) ≤ (140737488355328 : Nat) ∧ out_n + (1 : Nat) ≤ maxLen) ∧
    ((0 : Nat) + (out_n + (1 : Nat)) ≤ out_n + (1 : Nat) ∧
    Sub
    (AV.vec false (3 : Nat) (out_n + (1 : Nat)) (out_n + (1 : Nat) - (0 : Nat)) fun (i : Nat) =>
    AV.cons (1 : Nat) (AV.sc (Value.int IntKind.i64 (bif (plus (0 : Nat) i).blt out_n then b1fa (plus (0 : Nat) i) else (22 : Int))))
    (AV.cons (1 : Nat) (AV.sc (Value.int IntKind.i64 (bif (plus (0 : Nat) i).blt out_n then b1fba (plus (0 : Nat) i) else b0bbbba)))
    (AV.cons (1 : Nat) (AV.sc (Value.int IntKind.i64 (bif (plus (0 : Nat) i).blt out_n then b1fbba (plus (0 : Nat) i) else (0 : Int)))) AV.nil)))
    (AV.vec false (3 : Nat) (out_n + (1 : Nat)) (out_n + (1 : Nat)) fun (i : Nat) =>
    AV.cons (1 : Nat) (AV.sc (Value.int IntKind.i64 (bif (plus (0 : Nat) i).blt out_n then b1fa (plus (0 : Nat) i) else (22 : Int))))
    (AV.cons (1 : Nat) (AV.sc (Value.int IntKind.i64 (bif (plus (0 : Nat) i).blt out_n then b1fba (plus (0 : Nat) i) else b0bbbba)))
    (AV.cons (1 : Nat) (AV.sc (Value.int IntKind.i64 (bif (plus (0 : Nat) i).blt out_n then b1fbba (plus (0 : Nat) i) else (0 : Int))))
    AV.nil)))) ∧
    Sub
    (AV.vec false (3 : Nat) (out_n + (1 : Nat)) (out_n + (1 : Nat)) fun (i : Nat) =>
    AV.cons (1 : Nat) (AV.sc (Value.int IntKind.i64 (bif (plus (0 : Nat) i).blt out_n then b1fa (plus (0 : Nat) i) else (22 : Int))))
    (AV.cons (1 : Nat) (AV.sc (Value.int IntKind.i64 (bif (plus (0 : Nat) i).blt out_n then b1fba (plus (0 : Nat) i) else b0bbbba)))
    (AV.cons (1 : Nat) (AV.sc (Value.int IntKind.i64 (bif (plus (0 : Nat) i).blt out_n then b1fbba (plus (0 : Nat) i) else (0 : Int)))) AV.nil)))
    res)) :
    L37_1 out_n i b0an b0af b0ba b0bba b0bbba b0bbbba b1n b1fa b1fba b1fbba res :=
  rule Go.Am.Seat.tabOk 37 [] Go.Proofs.Try.f37 hf37 [1, 1, 1, 1, 0, 1, 0, 0] (s37_1 out_n i b0an b0af b0ba b0bba b0bbba b0bbbba b1n b1fa b1fba b1fbba) (m37_1 out_n i b0an b0af b0ba b0bba b0bbba b0bbbba b1n b1fa b1fba b1fbba) res [] 400
    ((Orc.cut (nat_lit 7)
    (s37_1 (out_n + (1 : Nat)) (IntKind.i64.wrap (i + (1 : Int))) b0an b0af b0ba b0bba b0bbba b0bbbba (out_n + (1 : Nat))
    (fun (i : Nat) => bif i.blt out_n then b1fa i else (21 : Int)) (fun (i : Nat) => bif i.blt out_n then b1fba i else (0 : Int)) fun (i : Nat) =>
    bif i.blt out_n then b1fbba i else (0 : Int))
    (m37_1 (out_n + (1 : Nat)) (IntKind.i64.wrap (i + (1 : Int))) b0an b0af b0ba b0bba b0bbba b0bbbba (out_n + (1 : Nat))
    (fun (i : Nat) => bif i.blt out_n then b1fa i else (21 : Int)) (fun (i : Nat) => bif i.blt out_n then b1fba i else (0 : Int)) fun (i : Nat) =>
    bif i.blt out_n then b1fbba i else (0 : Int))
    [((1000 : Nat), some (1000 : Nat)), ((1001 : Nat), some (25 : Nat))]).br
  (Orc.fin
    (AV.vec false (3 : Nat) (out_n + (1 : Nat)) (out_n + (1 : Nat)) fun (i : Nat) =>
    AV.cons (1 : Nat) (AV.sc (Value.int IntKind.i64 (bif (plus (0 : Nat) i).blt out_n then b1fa (plus (0 : Nat) i) else (22 : Int))))
    (AV.cons (1 : Nat) (AV.sc (Value.int IntKind.i64 (bif (plus (0 : Nat) i).blt out_n then b1fba (plus (0 : Nat) i) else b0bbbba)))
    (AV.cons (1 : Nat) (AV.sc (Value.int IntKind.i64 (bif (plus (0 : Nat) i).blt out_n then b1fbba (plus (0 : Nat) i) else (0 : Int)))) AV.nil)))
    [] [])) _ _ (by kernel_rfl) (by kernel_rfl) (show True ∧
  True ∧
    ((0 : Nat) = plus (0 : Nat) (0 : Nat) ∧ True) ∧
    True ∧
    True ∧
    (decide (i < (↑b0an : Int)) = true →
    True ∧
    True ∧
    (((True ∧ True ∧ True ∧ True) ∧ True) ∧ True) ∧
    (out_n ≤ b1n ∧
    ((0 : Nat) + (1 : Nat) ≤ (1 : Nat) ∧ (3 : Nat) = (3 : Nat)) ∧
    (out_n + (1 : Nat)) * (24 : Nat) ≤ (140737488355328 : Nat) ∧ out_n + (1 : Nat) ≤ maxLen) ∧
    True ∧
    True ∧
    True ∧
    True ∧
    ((True ∧
    Sub (AV.pt (1000 : Nat) [] (0 : Nat)) (AV.pt (1000 : Nat) [] (0 : Nat)) ∧
    True ∧
    Sub (AV.rf (1001 : Nat) (3 : Nat) (0 : Nat) (out_n + (1 : Nat)))
    (AV.rf (1001 : Nat) (3 : Nat) (0 : Nat) (out_n + (1 : Nat))) ∧
    True ∧
    Sub (AV.sc (Value.int IntKind.i64 (IntKind.i64.wrap (i + (1 : Int)))))
    (AV.sc (Value.int IntKind.i64 (IntKind.i64.wrap (i + (1 : Int))))) ∧
    True) ∧
    (True ∧ True ∧ True ∧ True ∧ True ∧ True) ∧
    SubB
    (AV.cons (1 : Nat) (AV.vec true (1 : Nat) b0an b0an fun (i0 : Nat) => AV.sc (Value.int IntKind.i64 (b0af i0)))
    (AV.cons (1 : Nat) (AV.sc (Value.int IntKind.i64 b0ba))
    (AV.cons (1 : Nat) (AV.sc (Value.int IntKind.i64 b0bba))
    (AV.cons (1 : Nat) (AV.sc (Value.bool b0bbba))
    (AV.cons (1 : Nat) (AV.sc (Value.int IntKind.i64 b0bbbba)) AV.nil)))))
    (AV.cons (1 : Nat) (AV.vec true (1 : Nat) b0an b0an fun (i0 : Nat) => AV.sc (Value.int IntKind.i64 (b0af i0)))
    (AV.cons (1 : Nat) (AV.sc (Value.int IntKind.i64 b0ba))
    (AV.cons (1 : Nat) (AV.sc (Value.int IntKind.i64 b0bba))
    (AV.cons (1 : Nat) (AV.sc (Value.bool b0bbba))
    (AV.cons (1 : Nat) (AV.sc (Value.int IntKind.i64 b0bbbba)) AV.nil))))) ∧
    True ∧
    SubB
    (AV.ar (out_n + (1 : Nat)) (3 : Nat) fun (i : Nat) =>
    AV.cons (1 : Nat) (AV.sc (Value.int IntKind.i64 (bif i.blt out_n then b1fa i else (21 : Int))))
    (AV.cons (1 : Nat) (AV.sc (Value.int IntKind.i64 (bif i.blt out_n then b1fba i else (0 : Int))))
    (AV.cons (1 : Nat) (AV.sc (Value.int IntKind.i64 (bif i.blt out_n then b1fbba i else (0 : Int)))) AV.nil)))
    (AV.ar (out_n + (1 : Nat)) (3 : Nat) fun (i0 : Nat) =>
    AV.cons (1 : Nat) (AV.sc (Value.int IntKind.i64 (bif i0.blt out_n then b1fa i0 else (21 : Int))))
    (AV.cons (1 : Nat) (AV.sc (Value.int IntKind.i64 (bif i0.blt out_n then b1fba i0 else (0 : Int))))
    (AV.cons (1 : Nat) (AV.sc (Value.int IntKind.i64 (bif i0.blt out_n then b1fbba i0 else (0 : Int))))
    AV.nil))) ∧
    True) ∧
    L37_1 (out_n + (1 : Nat)) (IntKind.i64.wrap (i + (1 : Int))) b0an b0af b0ba b0bba b0bbba b0bbbba (out_n + (1 : Nat))
    (fun (i : Nat) => bif i.blt out_n then b1fa i else (21 : Int)) (fun (i : Nat) => bif i.blt out_n then b1fba i else (0 : Int))
    (fun (i : Nat) => bif i.blt out_n then b1fbba i else (0 : Int)) res) ∧
    (decide (i < (↑b0an : Int)) = false →
    True ∧
    True ∧
    ((1 : Nat) + ((1 : Nat) + ((1 : Nat) + ((1 : Nat) + (0 : Nat)))) = plus (0 : Nat) (4 : Nat) ∧ True) ∧
    True ∧
    (((True ∧ True ∧ True ∧ True) ∧ True) ∧ True) ∧
    (out_n ≤ b1n ∧
    ((0 : Nat) + (1 : Nat) ≤ (1 : Nat) ∧ (3 : Nat) = (3 : Nat)) ∧
    (out_n + (1 : Nat)) * (24 : Nat) ≤ (140737488355328 : Nat) ∧ out_n + (1 : Nat) ≤ maxLen) ∧
    True ∧
    True ∧
    (((0 : Nat) + (out_n + (1 : Nat)) ≤ out_n + (1 : Nat) ∧
    Sub
    (AV.vec false (3 : Nat) (out_n + (1 : Nat)) (out_n + (1 : Nat) - (0 : Nat)) fun (i : Nat) =>
    AV.cons (1 : Nat)
    (AV.sc (Value.int IntKind.i64 (bif (plus (0 : Nat) i).blt out_n then b1fa (plus (0 : Nat) i) else (22 : Int))))
    (AV.cons (1 : Nat)
    (AV.sc (Value.int IntKind.i64 (bif (plus (0 : Nat) i).blt out_n then b1fba (plus (0 : Nat) i) else b0bbbba)))
    (AV.cons (1 : Nat)
    (AV.sc (Value.int IntKind.i64 (bif (plus (0 : Nat) i).blt out_n then b1fbba (plus (0 : Nat) i) else (0 : Int))))
    AV.nil)))
    (AV.vec false (3 : Nat) (out_n + (1 : Nat)) (out_n + (1 : Nat)) fun (i : Nat) =>
    AV.cons (1 : Nat)
    (AV.sc (Value.int IntKind.i64 (bif (plus (0 : Nat) i).blt out_n then b1fa (plus (0 : Nat) i) else (22 : Int))))
    (AV.cons (1 : Nat)
    (AV.sc (Value.int IntKind.i64 (bif (plus (0 : Nat) i).blt out_n then b1fba (plus (0 : Nat) i) else b0bbbba)))
    (AV.cons (1 : Nat)
    (AV.sc (Value.int IntKind.i64 (bif (plus (0 : Nat) i).blt out_n then b1fbba (plus (0 : Nat) i) else (0 : Int))))
    AV.nil))) ∧
    True) ∧
    True) ∧
    Sub
    (AV.vec false (3 : Nat) (out_n + (1 : Nat)) (out_n + (1 : Nat)) fun (i : Nat) =>
    AV.cons (1 : Nat)
    (AV.sc (Value.int IntKind.i64 (bif (plus (0 : Nat) i).blt out_n then b1fa (plus (0 : Nat) i) else (22 : Int))))
    (AV.cons (1 : Nat)
    (AV.sc (Value.int IntKind.i64 (bif (plus (0 : Nat) i).blt out_n then b1fba (plus (0 : Nat) i) else b0bbbba)))
    (AV.cons (1 : Nat)
    (AV.sc (Value.int IntKind.i64 (bif (plus (0 : Nat) i).blt out_n then b1fbba (plus (0 : Nat) i) else (0 : Int))))
    AV.nil)))
    res ∧
    SubOut [] []) from
    ⟨trivial, ⟨trivial, ⟨⟨rfl, trivial⟩, ⟨trivial, ⟨trivial, (And.elim (fun h5 k5 => ⟨(fun x6 => (fun h6 => ⟨trivial, ⟨trivial, ⟨⟨⟨⟨trivial, ⟨trivial, ⟨trivial, trivial⟩⟩⟩, trivial⟩, trivial⟩, (And.elim (fun h10 k10 => ⟨(And.elim (fun h11 k11 => ⟨h11, (And.elim (fun h12 k12 => ⟨((fun h13 => ⟨h13, rfl⟩) h12), (And.elim (fun h13 k13 => ⟨h13, k13⟩) k12)⟩) k11)⟩) h10), ⟨trivial, ⟨trivial, ⟨trivial, ⟨trivial, ⟨⟨⟨trivial, ⟨Sub.refl _, ⟨trivial, ⟨Sub.refl _, ⟨trivial, ⟨Sub.refl _, trivial⟩⟩⟩⟩⟩⟩, ⟨⟨trivial, ⟨trivial, ⟨trivial, ⟨trivial, ⟨trivial, trivial⟩⟩⟩⟩⟩, ⟨SubB.refl _, ⟨trivial, ⟨SubB.refl _, trivial⟩⟩⟩⟩⟩, k10⟩⟩⟩⟩⟩⟩) h6)⟩⟩⟩) (h5 x6)), (fun x6 => (fun h6 => ⟨trivial, ⟨trivial, ⟨⟨rfl, trivial⟩, ⟨trivial, ⟨⟨⟨⟨trivial, ⟨trivial, ⟨trivial, trivial⟩⟩⟩, trivial⟩, trivial⟩, (And.elim (fun h12 k12 => ⟨(And.elim (fun h13 k13 => ⟨h13, (And.elim (fun h14 k14 => ⟨((fun h15 => ⟨h15, rfl⟩) h14), (And.elim (fun h15 k15 => ⟨h15, k15⟩) k14)⟩) k13)⟩) h12), ⟨trivial, ⟨trivial, (And.elim (fun h15 k15 => ⟨((fun h16 => ⟨(And.elim (fun h17 k17 => ⟨h17, ((fun h18 => ⟨h18, trivial⟩) k17)⟩) h16), trivial⟩) h15), ((fun h16 => ⟨h16, trivial⟩) k15)⟩) k12)⟩⟩⟩) h6)⟩⟩⟩⟩⟩) (k5 x6))⟩) h)⟩⟩⟩⟩⟩)
theorem hf38 : Go.Proofs.Try.prog.funcs[38]? = some Go.Proofs.Try.f38 := by kernel_rfl
abbrev s38_e (tan : Nat) (tam : Nat) (taf : Nat → Int) (tba : Int) (tbba : Int) (tbbba : Bool) (tbbbba : Int) (man : Nat) (maf : Nat → Int) (mba : Int) (mbba : Int) (mbbba : Bool) (mbbbba : Int) : List (Nat × AV) := [(0, (.cons 1 (.vec true 1 tan tam (fun i0 => (.sc (.int .i64 (taf i0))))) (.cons 1 (.sc (.int .i64 tba)) (.cons 1 (.sc (.int .i64 tbba)) (.cons 1 (.sc (.bool tbbba)) (.cons 1 (.sc (.int .i64 tbbbba)) .nil)))))), (1, (.cons 1 (.vec true 1 man man (fun i0 => (.sc (.int .i64 (maf i0))))) (.cons 1 (.sc (.int .i64 mba)) (.cons 1 (.sc (.int .i64 mbba)) (.cons 1 (.sc (.bool mbbba)) (.cons 1 (.sc (.int .i64 mbbbba)) .nil))))))]
abbrev m38_e (tan : Nat) (tam : Nat) (taf : Nat → Int) (tba : Int) (tbba : Int) (tbbba : Bool) (tbbbba : Int) (man : Nat) (maf : Nat → Int) (mba : Int) (mbba : Int) (mbbba : Bool) (mbbbba : Int) : List (Nat × Nat × AV) := []
def L38_e (tan : Nat) (tam : Nat) (taf : Nat → Int) (tba : Int) (tbba : Int) (tbbba : Bool) (tbbbba : Int) (man : Nat) (maf : Nat → Int) (mba : Int) (mbba : Int) (mbbba : Bool) (mbbbba : Int) (res : AV) : Prop := Goes ⟨Go.Proofs.Try.prog, 38, [], res, []⟩ (place Go.Proofs.Try.f38 []) (s38_e tan tam taf tba tbba tbbba tbbbba man maf mba mbba mbbba mbbbba) (m38_e tan tam taf tba tbba tbbba tbbbba man maf mba mbba mbbba mbbbba)
theorem o38 (tan : Nat) (tam : Nat) (taf : Nat → Int) (tba : Int) (tbba : Int) (tbbba : Bool) (tbbbba : Int) (man : Nat) (maf : Nat → Int) (mba : Int) (mbba : Int) (mbbba : Bool) (mbbbba : Int) (res : AV) (hnew : newOnly res) (h : L38_e tan tam taf tba tbba tbbba tbbbba man maf mba mbba mbbba mbbbba res) : Ok Go.Proofs.Try.prog 38 [(.cons 1 (.vec true 1 tan tam (fun i0 => (.sc (.int .i64 (taf i0))))) (.cons 1 (.sc (.int .i64 tba)) (.cons 1 (.sc (.int .i64 tbba)) (.cons 1 (.sc (.bool tbbba)) (.cons 1 (.sc (.int .i64 tbbbba)) .nil))))), (.cons 1 (.vec true 1 man man (fun i0 => (.sc (.int .i64 (maf i0))))) (.cons 1 (.sc (.int .i64 mba)) (.cons 1 (.sc (.int .i64 mbba)) (.cons 1 (.sc (.bool mbbba)) (.cons 1 (.sc (.int .i64 mbbbba)) .nil)))))] [] res [] :=
  okRule2 38 Go.Proofs.Try.f38 hf38 [(.cons 1 (.vec true 1 tan tam (fun i0 => (.sc (.int .i64 (taf i0))))) (.cons 1 (.sc (.int .i64 tba)) (.cons 1 (.sc (.int .i64 tbba)) (.cons 1 (.sc (.bool tbbba)) (.cons 1 (.sc (.int .i64 tbbbba)) .nil))))), (.cons 1 (.vec true 1 man man (fun i0 => (.sc (.int .i64 (maf i0))))) (.cons 1 (.sc (.int .i64 mba)) (.cons 1 (.sc (.int .i64 mbba)) (.cons 1 (.sc (.bool mbbba)) (.cons 1 (.sc (.int .i64 mbbbba)) .nil)))))] [] res [] [] rfl (by kernel_rfl) (by kernel_rfl) (by kernel_rfl) ⟨hnew, by simp⟩ (L38_e tan tam taf tba tbba tbbba tbbbba man maf mba mbba mbbba mbbbba res) (by kernel_rfl) h
theorem r38_e (tan : Nat) (tam : Nat) (taf : Nat → Int) (tba : Int) (tbba : Int) (tbbba : Bool) (tbbbba : Int) (man : Nat) (maf : Nat → Int) (mba : Int) (mbba : Int) (mbbba : Bool) (mbbbba : Int) (res : AV)
    (h : ∃ (r : Bool),
  Ok Proofs.Try.prog (32 : Nat)
    [AV.cons (1 : Nat) (AV.vec true (1 : Nat) tan tam fun (i : Nat) => AV.sc (Value.int IntKind.i64 (taf i)))
    (AV.cons (1 : Nat) (AV.sc (Value.int IntKind.i64 tba))
    (AV.cons (1 : Nat) (AV.sc (Value.int IntKind.i64 tbba))
    (AV.cons (1 : Nat) (AV.sc (Value.bool tbbba)) (AV.cons (1 : Nat) (AV.sc (Value.int IntKind.i64 tbbbba)) AV.nil)))),
    AV.cons (1 : Nat) (AV.vec true (1 : Nat) man man fun (i : Nat) => AV.sc (Value.int IntKind.i64 (maf i)))
    (AV.cons (1 : Nat) (AV.sc (Value.int IntKind.i64 mba))
    (AV.cons (1 : Nat) (AV.sc (Value.int IntKind.i64 mbba))
    (AV.cons (1 : Nat) (AV.sc (Value.bool mbbba)) (AV.cons (1 : Nat) (AV.sc (Value.int IntKind.i64 mbbbba)) AV.nil))))]
    [] (AV.sc (Value.bool r)) [] ∧
    (r = true →
    ∃ (r : Bool),
    Ok Proofs.Try.prog (59 : Nat)
    [AV.vec true (1 : Nat) tan tam fun (i : Nat) => AV.sc (Value.int IntKind.i64 (taf i)),
    AV.vec true (1 : Nat) man man fun (i : Nat) => AV.sc (Value.int IntKind.i64 (maf i))]
    [] (AV.sc (Value.bool r)) [] ∧
    Sub (AV.sc (Value.bool r)) res) ∧
    (r = !true → Sub (AV.sc (Value.bool false)) res)) :
    L38_e tan tam taf tba tbba tbbba tbbbba man maf mba mbba mbbba mbbbba res :=
  rule Go.Am.Seat.tabOk 38 [] Go.Proofs.Try.f38 hf38 [] (s38_e tan tam taf tba tbba tbbba tbbbba man maf mba mbba mbbba mbbbba) (m38_e tan tam taf tba tbba tbbba tbbbba man maf mba mbba mbbba mbbbba) res [] 400
    (Orc.call [] [] (fun (r32 : Bool) => AV.sc (Value.bool r32)) (fun (r32 : Bool) => []) fun (r32 : Bool) =>
  (Orc.call [] [] (fun (r59 : Bool) => AV.sc (Value.bool r59)) (fun (r59 : Bool) => []) fun (r59 : Bool) =>
    Orc.fin (AV.sc (Value.bool (bif true then r59 else false))) [] []).yes.yes.yes.yes.br
    (Orc.fin (AV.sc (Value.bool false)) [] []).no.no.no.no) _ _ (by kernel_rfl) (by kernel_rfl) (show True ∧
  True ∧
    True ∧
    ((0 : Nat) = (0 : Nat) ∧ True) ∧
    ((0 : Nat) = (0 : Nat) ∧ True) ∧
    ∃ (r : Bool),
    (((True ∧ True ∧ True ∧ True ∧ True ∧ True) ∧ (True ∧ True ∧ True ∧ True ∧ True ∧ True) ∧ True) ∧
    True ∧
    Ok Proofs.Try.prog (32 : Nat)
    [AV.cons (1 : Nat) (AV.vec true (1 : Nat) tan tam fun (i : Nat) => AV.sc (Value.int IntKind.i64 (taf i)))
    (AV.cons (1 : Nat) (AV.sc (Value.int IntKind.i64 tba))
    (AV.cons (1 : Nat) (AV.sc (Value.int IntKind.i64 tbba))
    (AV.cons (1 : Nat) (AV.sc (Value.bool tbbba)) (AV.cons (1 : Nat) (AV.sc (Value.int IntKind.i64 tbbbba)) AV.nil)))),
    AV.cons (1 : Nat) (AV.vec true (1 : Nat) man man fun (i : Nat) => AV.sc (Value.int IntKind.i64 (maf i)))
    (AV.cons (1 : Nat) (AV.sc (Value.int IntKind.i64 mba))
    (AV.cons (1 : Nat) (AV.sc (Value.int IntKind.i64 mbba))
    (AV.cons (1 : Nat) (AV.sc (Value.bool mbbba)) (AV.cons (1 : Nat) (AV.sc (Value.int IntKind.i64 mbbbba)) AV.nil))))]
    [] (AV.sc (Value.bool r)) []) ∧
    True ∧
    (r = true →
    True ∧
    true = true ∧
    ((0 : Nat) = plus (0 : Nat) (0 : Nat) ∧ True) ∧
    true = true ∧
    True ∧
    true = true ∧
    ((0 : Nat) = plus (0 : Nat) (0 : Nat) ∧ True) ∧
    true = true ∧
    ∃ (r : Bool),
    ((True ∧ True ∧ True) ∧
    True ∧
    Ok Proofs.Try.prog (59 : Nat)
    [AV.vec true (1 : Nat) tan tam fun (i : Nat) => AV.sc (Value.int IntKind.i64 (taf i)),
    AV.vec true (1 : Nat) man man fun (i : Nat) => AV.sc (Value.int IntKind.i64 (maf i))]
    [] (AV.sc (Value.bool r)) []) ∧
    True ∧
    True ∧
    True ∧
    ((True ∧ Sub (AV.sc (Value.bool r)) (AV.sc (Value.bool r)) ∧ True) ∧ True) ∧
    Sub (AV.sc (Value.bool r)) res ∧ SubOut [] []) ∧
    (r = !true →
    true = true ∧
    (!true) = !true ∧
    true = true ∧
    (!true) = !true ∧
    true = true ∧
    (!true) = !true ∧
    true = true ∧
    (!true) = !true ∧
    true = true ∧
    True ∧
    True ∧
    True ∧
    ((True ∧ Sub (AV.sc (Value.bool false)) (AV.sc (Value.bool false)) ∧ True) ∧ True) ∧
    Sub (AV.sc (Value.bool false)) res ∧ SubOut [] []) from
    ⟨trivial, ⟨trivial, ⟨trivial, ⟨⟨rfl, trivial⟩, ⟨⟨rfl, trivial⟩, (Exists.elim h fun x5 h5 => ⟨x5, (And.elim (fun h6 k6 => ⟨⟨⟨⟨trivial, ⟨trivial, ⟨trivial, ⟨trivial, ⟨trivial, trivial⟩⟩⟩⟩⟩, ⟨⟨trivial, ⟨trivial, ⟨trivial, ⟨trivial, ⟨trivial, trivial⟩⟩⟩⟩⟩, trivial⟩⟩, ⟨trivial, h6⟩⟩, ⟨trivial, (And.elim (fun h8 k8 => ⟨(fun x9 => (fun h9 => ⟨trivial, ⟨rfl, ⟨⟨rfl, trivial⟩, ⟨rfl, ⟨trivial, ⟨rfl, ⟨⟨rfl, trivial⟩, ⟨rfl, (Exists.elim h9 fun x18 h18 => ⟨x18, (And.elim (fun h19 k19 => ⟨⟨⟨trivial, ⟨trivial, trivial⟩⟩, ⟨trivial, h19⟩⟩, ⟨trivial, ⟨trivial, ⟨trivial, ⟨⟨⟨trivial, ⟨Sub.refl _, trivial⟩⟩, trivial⟩, ((fun h24 => ⟨h24, trivial⟩) k19)⟩⟩⟩⟩⟩) h18)⟩)⟩⟩⟩⟩⟩⟩⟩⟩) (h8 x9)), (fun x9 => (fun h9 => ⟨rfl, ⟨rfl, ⟨rfl, ⟨rfl, ⟨rfl, ⟨rfl, ⟨rfl, ⟨rfl, ⟨rfl, ⟨trivial, ⟨trivial, ⟨trivial, ⟨⟨⟨trivial, ⟨Sub.refl _, trivial⟩⟩, trivial⟩, ((fun h23 => ⟨h23, trivial⟩) h9)⟩⟩⟩⟩⟩⟩⟩⟩⟩⟩⟩⟩⟩) (k8 x9))⟩) k6)⟩⟩) h5)⟩)⟩⟩⟩⟩⟩)
theorem hf39 : Go.Proofs.Try.prog.funcs[39]? = some Go.Proofs.Try.f39 := by kernel_rfl
abbrev s39_e : List (Nat × AV) := []
abbrev m39_e : List (Nat × Nat × AV) := []
def L39_e (res : AV) : Prop := Goes ⟨Go.Proofs.Try.prog, 39, [], res, []⟩ (place Go.Proofs.Try.f39 []) (s39_e ) (m39_e )
theorem o39 (res : AV) (hnew : newOnly res) (h : L39_e  res) : Ok Go.Proofs.Try.prog 39 [] [] res [] :=
  okRule2 39 Go.Proofs.Try.f39 hf39 [] [] res [] [] rfl (by kernel_rfl) (by kernel_rfl) (by kernel_rfl) ⟨hnew, by simp⟩ (L39_e  res) (by kernel_rfl) h
theorem r39_e (res : AV)
    (h : ∃ (r :
  Nat ×
    (Nat → Int) ×
    (Nat → Int) ×
    (Nat → Int) ×
    Nat ×
    (Nat → Nat) ×
    (Nat → Nat → Int) ×
    (Nat → Int) × (Nat → Int) × (Nat → Bool) × (Nat → Int) × Nat × (Nat → Int) × Nat × (Nat → Int) × (Nat → Int) × (Nat → Int) × Int),
  ((0 : Nat) + (5 : Nat) ≤ (5 : Nat) ∧
    Ok Proofs.Try.prog (41 : Nat)
    [AV.sc
    (Value.string
    (ByteArray.mk #[(32 : UInt8), (32 : UInt8), (32 : UInt8), (32 : UInt8), (97 : UInt8), (10 : UInt8), (32 : UInt8), (32 : UInt8), (98 : UInt8)])),
    AV.vec true (3 : Nat) (5 : Nat) (5 : Nat) fun (i : Nat) =>
    AV.cons (1 : Nat)
    (AV.sc
    (Value.int IntKind.i64
    (bif (plus (0 : Nat) i).beq (4 : Nat) then (0 : Int)
    else
    bif (plus (0 : Nat) i).beq (3 : Nat) then (25 : Int)
    else
    bif (plus (0 : Nat) i).beq (2 : Nat) then (19 : Int)
    else bif (plus (0 : Nat) i).beq (1 : Nat) then (0 : Int) else bif (plus (0 : Nat) i).beq (0 : Nat) then (25 : Int) else (0 : Int))))
    (AV.cons (1 : Nat)
    (AV.sc
    (Value.int IntKind.i64
    (bif (plus (0 : Nat) i).beq (4 : Nat) then (1 : Int)
    else
    bif (plus (0 : Nat) i).beq (3 : Nat) then (2 : Int)
    else
    bif (plus (0 : Nat) i).beq (2 : Nat) then (1 : Int)
    else bif (plus (0 : Nat) i).beq (1 : Nat) then (1 : Int) else bif (plus (0 : Nat) i).beq (0 : Nat) then (4 : Int) else (0 : Int))))
    (AV.cons (1 : Nat)
    (AV.sc
    (Value.int IntKind.i64
    (bif (plus (0 : Nat) i).beq (4 : Nat) then (0 : Int)
    else
    bif (plus (0 : Nat) i).beq (3 : Nat) then (0 : Int)
    else
    bif (plus (0 : Nat) i).beq (2 : Nat) then (0 : Int)
    else bif (plus (0 : Nat) i).beq (1 : Nat) then (0 : Int) else bif (plus (0 : Nat) i).beq (0 : Nat) then (0 : Int) else (0 : Int))))
    AV.nil))]
    []
    (AV.cons (1 : Nat)
    (AV.cons (1 : Nat)
    (AV.vec false (3 : Nat) r.fst r.fst fun (i0 : Nat) =>
    AV.cons (1 : Nat) (AV.sc (Value.int IntKind.i64 (r.snd.fst i0)))
    (AV.cons (1 : Nat) (AV.sc (Value.int IntKind.i64 (r.snd.snd.fst i0)))
    (AV.cons (1 : Nat) (AV.sc (Value.int IntKind.i64 (r.snd.snd.snd.fst i0))) AV.nil)))
    (AV.cons (1 : Nat)
    (AV.vec false (5 : Nat) r.snd.snd.snd.snd.fst r.snd.snd.snd.snd.fst fun (i0 : Nat) =>
    AV.cons (1 : Nat)
    (AV.vec false (1 : Nat) (r.snd.snd.snd.snd.snd.fst i0) (r.snd.snd.snd.snd.snd.fst i0) fun (i1 : Nat) =>
    AV.sc (Value.int IntKind.i64 (r.snd.snd.snd.snd.snd.snd.fst i0 i1)))
    (AV.cons (1 : Nat) (AV.sc (Value.int IntKind.i64 (r.snd.snd.snd.snd.snd.snd.snd.fst i0)))
    (AV.cons (1 : Nat) (AV.sc (Value.int IntKind.i64 (r.snd.snd.snd.snd.snd.snd.snd.snd.fst i0)))
    (AV.cons (1 : Nat) (AV.sc (Value.bool (r.snd.snd.snd.snd.snd.snd.snd.snd.snd.fst i0)))
    (AV.cons (1 : Nat) (AV.sc (Value.int IntKind.i64 (r.snd.snd.snd.snd.snd.snd.snd.snd.snd.snd.fst i0))) AV.nil)))))
    (AV.cons (1 : Nat)
    (AV.vec false (1 : Nat) r.snd.snd.snd.snd.snd.snd.snd.snd.snd.snd.snd.fst r.snd.snd.snd.snd.snd.snd.snd.snd.snd.snd.snd.fst fun (i0 : Nat) =>
    AV.sc (Value.int IntKind.i64 (r.snd.snd.snd.snd.snd.snd.snd.snd.snd.snd.snd.snd.fst i0)))
    (AV.cons (1 : Nat)
    (AV.vec false (3 : Nat) r.snd.snd.snd.snd.snd.snd.snd.snd.snd.snd.snd.snd.snd.fst r.snd.snd.snd.snd.snd.snd.snd.snd.snd.snd.snd.snd.snd.fst
    fun (i0 : Nat) =>
    AV.cons (1 : Nat) (AV.sc (Value.int IntKind.i64 (r.snd.snd.snd.snd.snd.snd.snd.snd.snd.snd.snd.snd.snd.snd.fst i0)))
    (AV.cons (1 : Nat) (AV.sc (Value.int IntKind.i64 (r.snd.snd.snd.snd.snd.snd.snd.snd.snd.snd.snd.snd.snd.snd.snd.fst i0)))
    (AV.cons (1 : Nat) (AV.sc (Value.int IntKind.i64 (r.snd.snd.snd.snd.snd.snd.snd.snd.snd.snd.snd.snd.snd.snd.snd.snd.fst i0)))
    AV.nil)))
    AV.nil))))
    (AV.cons (1 : Nat) (AV.sc (Value.int IntKind.i64 r.snd.snd.snd.snd.snd.snd.snd.snd.snd.snd.snd.snd.snd.snd.snd.snd.snd)) AV.nil)).tup
    []) ∧
    ((r.snd.snd.snd.snd.snd.snd.snd.snd.snd.snd.snd.snd.snd.snd.snd.snd.snd == (0 : Int)) = true →
    ∃ (r_1 : Bool),
    ((0 : Nat) + (8 : Nat) ≤ (8 : Nat) ∧
    Ok Proofs.Try.prog (35 : Nat)
    [AV.vec true (3 : Nat) r.snd.snd.snd.snd.snd.snd.snd.snd.snd.snd.snd.snd.snd.fst r.snd.snd.snd.snd.snd.snd.snd.snd.snd.snd.snd.snd.snd.fst
    fun (i : Nat) =>
    AV.cons (1 : Nat) (AV.sc (Value.int IntKind.i64 (r.snd.snd.snd.snd.snd.snd.snd.snd.snd.snd.snd.snd.snd.snd.fst i)))
    (AV.cons (1 : Nat) (AV.sc (Value.int IntKind.i64 (r.snd.snd.snd.snd.snd.snd.snd.snd.snd.snd.snd.snd.snd.snd.snd.fst i)))
    (AV.cons (1 : Nat) (AV.sc (Value.int IntKind.i64 (r.snd.snd.snd.snd.snd.snd.snd.snd.snd.snd.snd.snd.snd.snd.snd.snd.fst i))) AV.nil)),
    AV.vec true (3 : Nat) (8 : Nat) (8 : Nat) fun (i : Nat) =>
    AV.cons (1 : Nat)
    (AV.sc
    (Value.int IntKind.i64
    (bif (plus (0 : Nat) i).beq (7 : Nat) then (22 : Int)
    else
    bif (plus (0 : Nat) i).beq (6 : Nat) then (19 : Int)
    else
    bif (plus (0 : Nat) i).beq (5 : Nat) then (0 : Int)
    else
    bif (plus (0 : Nat) i).beq (4 : Nat) then (23 : Int)
    else
    bif (plus (0 : Nat) i).beq (3 : Nat) then (21 : Int)
    else
    bif (plus (0 : Nat) i).beq (2 : Nat) then (19 : Int)
    else
    bif (plus (0 : Nat) i).beq (1 : Nat) then (0 : Int)
    else bif (plus (0 : Nat) i).beq (0 : Nat) then (20 : Int) else (0 : Int))))
    (AV.cons (1 : Nat)
    (AV.sc
    (Value.int IntKind.i64
    (bif (plus (0 : Nat) i).beq (7 : Nat) then (0 : Int)
    else
    bif (plus (0 : Nat) i).beq (6 : Nat) then (0 : Int)
    else
    bif (plus (0 : Nat) i).beq (5 : Nat) then (0 : Int)
    else
    bif (plus (0 : Nat) i).beq (4 : Nat) then (0 : Int)
    else
    bif (plus (0 : Nat) i).beq (3 : Nat) then (2 : Int)
    else
    bif (plus (0 : Nat) i).beq (2 : Nat) then (0 : Int)
    else
    bif (plus (0 : Nat) i).beq (1 : Nat) then (0 : Int)
    else bif (plus (0 : Nat) i).beq (0 : Nat) then (4 : Int) else (0 : Int))))
    (AV.cons (1 : Nat)
    (AV.sc
    (Value.int IntKind.i64
    (bif (plus (0 : Nat) i).beq (7 : Nat) then (0 : Int)
    else
    bif (plus (0 : Nat) i).beq (6 : Nat) then (0 : Int)
    else
    bif (plus (0 : Nat) i).beq (5 : Nat) then (1 : Int)
    else
    bif (plus (0 : Nat) i).beq (4 : Nat) then (0 : Int)
    else
    bif (plus (0 : Nat) i).beq (3 : Nat) then (0 : Int)
    else
    bif (plus (0 : Nat) i).beq (2 : Nat) then (1 : Int)
    else
    bif (plus (0 : Nat) i).beq (1 : Nat) then (1 : Int)
    else bif (plus (0 : Nat) i).beq (0 : Nat) then (0 : Int) else (0 : Int))))
    AV.nil))]
    [] (AV.sc (Value.bool r_1)) []) ∧
    (r_1 = true →
    ∃ (r : Nat × Int × Int × Bool × Int × Nat × (Nat → Int)),
    Ok Proofs.Try.prog (31 : Nat) [] []
    (AV.cons (1 : Nat) (AV.rf (1000 : Nat) (1 : Nat) (0 : Nat) r.fst)
    (AV.cons (1 : Nat) (AV.sc (Value.int IntKind.i64 r.snd.fst))
    (AV.cons (1 : Nat) (AV.sc (Value.int IntKind.i64 r.snd.snd.fst))
    (AV.cons (1 : Nat) (AV.sc (Value.bool r.snd.snd.snd.fst))
    (AV.cons (1 : Nat) (AV.sc (Value.int IntKind.i64 r.snd.snd.snd.snd.fst)) AV.nil)))))
    [((1000 : Nat), (3 : Nat),
    AV.ar r.snd.snd.snd.snd.snd.fst (1 : Nat) fun (i0 : Nat) => AV.sc (Value.int IntKind.i64 (r.snd.snd.snd.snd.snd.snd i0)))] ∧
    ∃ (r_2 : Bool),
    (((0 : Nat) + r.fst ≤ r.snd.snd.snd.snd.snd.fst ∧ (0 : Nat) + (1 : Nat) ≤ (1 : Nat)) ∧
    Ok Proofs.Try.prog (32 : Nat)
    [AV.cons (1 : Nat)
    (AV.vec true (1 : Nat) r.fst (r.snd.snd.snd.snd.snd.fst - (0 : Nat)) fun (i : Nat) =>
    AV.sc (Value.int IntKind.i64 (r.snd.snd.snd.snd.snd.snd (plus (0 : Nat) i))))
    (AV.cons (1 : Nat) (AV.sc (Value.int IntKind.i64 r.snd.fst))
    (AV.cons (1 : Nat) (AV.sc (Value.int IntKind.i64 r.snd.snd.fst))
    (AV.cons (1 : Nat) (AV.sc (Value.bool r.snd.snd.snd.fst))
    (AV.cons (1 : Nat) (AV.sc (Value.int IntKind.i64 r.snd.snd.snd.snd.fst)) AV.nil)))),
    AV.cons (1 : Nat) (AV.vec true (1 : Nat) (1 : Nat) (1 : Nat) fun (i : Nat) => AV.sc (Value.int IntKind.i64 (0 : Int)))
    (AV.cons (1 : Nat) (AV.sc (Value.int IntKind.i64 (0 : Int)))
    (AV.cons (1 : Nat) (AV.sc (Value.int IntKind.i64 (0 : Int)))
    (AV.cons (1 : Nat) (AV.sc (Value.bool true)) (AV.cons (1 : Nat) (AV.sc (Value.int IntKind.i64 (0 : Int))) AV.nil))))]
    [] (AV.sc (Value.bool r_2)) []) ∧
    Sub (AV.sc (Value.bool r_2)) res) ∧
    (r_1 = !true → Sub (AV.sc (Value.bool false)) res)) ∧
    ((r.snd.snd.snd.snd.snd.snd.snd.snd.snd.snd.snd.snd.snd.snd.snd.snd.snd == (0 : Int)) = !true → Sub (AV.sc (Value.bool false)) res)) :
    L39_e  res :=
  rule Go.Am.Seat.tabOk 39 [] Go.Proofs.Try.f39 hf39 [] (s39_e ) (m39_e ) res [] 400
    (Orc.call [] []
  (fun
    (r41 :
    Nat ×
    (Nat → Int) ×
    (Nat → Int) ×
    (Nat → Int) ×
    Nat ×
    (Nat → Nat) ×
    (Nat → Nat → Int) ×
    (Nat → Int) × (Nat → Int) × (Nat → Bool) × (Nat → Int) × Nat × (Nat → Int) × Nat × (Nat → Int) × (Nat → Int) × (Nat → Int) × Int) =>
    (AV.cons (1 : Nat)
    (AV.cons (1 : Nat)
    (AV.vec false (3 : Nat) r41.fst r41.fst fun (i0 : Nat) =>
    AV.cons (1 : Nat) (AV.sc (Value.int IntKind.i64 (r41.snd.fst i0)))
    (AV.cons (1 : Nat) (AV.sc (Value.int IntKind.i64 (r41.snd.snd.fst i0)))
    (AV.cons (1 : Nat) (AV.sc (Value.int IntKind.i64 (r41.snd.snd.snd.fst i0))) AV.nil)))
    (AV.cons (1 : Nat)
    (AV.vec false (5 : Nat) r41.snd.snd.snd.snd.fst r41.snd.snd.snd.snd.fst fun (i0 : Nat) =>
    AV.cons (1 : Nat)
    (AV.vec false (1 : Nat) (r41.snd.snd.snd.snd.snd.fst i0) (r41.snd.snd.snd.snd.snd.fst i0) fun (i1 : Nat) =>
    AV.sc (Value.int IntKind.i64 (r41.snd.snd.snd.snd.snd.snd.fst i0 i1)))
    (AV.cons (1 : Nat) (AV.sc (Value.int IntKind.i64 (r41.snd.snd.snd.snd.snd.snd.snd.fst i0)))
    (AV.cons (1 : Nat) (AV.sc (Value.int IntKind.i64 (r41.snd.snd.snd.snd.snd.snd.snd.snd.fst i0)))
    (AV.cons (1 : Nat) (AV.sc (Value.bool (r41.snd.snd.snd.snd.snd.snd.snd.snd.snd.fst i0)))
    (AV.cons (1 : Nat) (AV.sc (Value.int IntKind.i64 (r41.snd.snd.snd.snd.snd.snd.snd.snd.snd.snd.fst i0))) AV.nil)))))
    (AV.cons (1 : Nat)
    (AV.vec false (1 : Nat) r41.snd.snd.snd.snd.snd.snd.snd.snd.snd.snd.snd.fst r41.snd.snd.snd.snd.snd.snd.snd.snd.snd.snd.snd.fst fun (i0 : Nat) =>
    AV.sc (Value.int IntKind.i64 (r41.snd.snd.snd.snd.snd.snd.snd.snd.snd.snd.snd.snd.fst i0)))
    (AV.cons (1 : Nat)
    (AV.vec false (3 : Nat) r41.snd.snd.snd.snd.snd.snd.snd.snd.snd.snd.snd.snd.snd.fst r41.snd.snd.snd.snd.snd.snd.snd.snd.snd.snd.snd.snd.snd.fst
    fun (i0 : Nat) =>
    AV.cons (1 : Nat) (AV.sc (Value.int IntKind.i64 (r41.snd.snd.snd.snd.snd.snd.snd.snd.snd.snd.snd.snd.snd.snd.fst i0)))
    (AV.cons (1 : Nat) (AV.sc (Value.int IntKind.i64 (r41.snd.snd.snd.snd.snd.snd.snd.snd.snd.snd.snd.snd.snd.snd.snd.fst i0)))
    (AV.cons (1 : Nat) (AV.sc (Value.int IntKind.i64 (r41.snd.snd.snd.snd.snd.snd.snd.snd.snd.snd.snd.snd.snd.snd.snd.snd.fst i0))) AV.nil)))
    AV.nil))))
    (AV.cons (1 : Nat) (AV.sc (Value.int IntKind.i64 r41.snd.snd.snd.snd.snd.snd.snd.snd.snd.snd.snd.snd.snd.snd.snd.snd.snd)) AV.nil)).tup)
  (fun
    (r41 :
    Nat ×
    (Nat → Int) ×
    (Nat → Int) ×
    (Nat → Int) ×
    Nat ×
    (Nat → Nat) ×
    (Nat → Nat → Int) ×
    (Nat → Int) × (Nat → Int) × (Nat → Bool) × (Nat → Int) × Nat × (Nat → Int) × Nat × (Nat → Int) × (Nat → Int) × (Nat → Int) × Int) =>
    [])
  fun
    (r41 :
    Nat ×
    (Nat → Int) ×
    (Nat → Int) ×
    (Nat → Int) ×
    Nat ×
    (Nat → Nat) ×
    (Nat → Nat → Int) ×
    (Nat → Int) × (Nat → Int) × (Nat → Bool) × (Nat → Int) × Nat × (Nat → Int) × Nat × (Nat → Int) × (Nat → Int) × (Nat → Int) × Int) =>
  (Orc.call [] [] (fun (r35 : Bool) => AV.sc (Value.bool r35)) (fun (r35 : Bool) => []) fun (r35 : Bool) =>
    (Orc.call [] [((100340 : Nat), (1000 : Nat))]
    (fun (r31 : Nat × Int × Int × Bool × Int × Nat × (Nat → Int)) =>
    AV.cons (1 : Nat) (AV.rf (1000 : Nat) (1 : Nat) (0 : Nat) r31.fst)
    (AV.cons (1 : Nat) (AV.sc (Value.int IntKind.i64 r31.snd.fst))
    (AV.cons (1 : Nat) (AV.sc (Value.int IntKind.i64 r31.snd.snd.fst))
    (AV.cons (1 : Nat) (AV.sc (Value.bool r31.snd.snd.snd.fst))
    (AV.cons (1 : Nat) (AV.sc (Value.int IntKind.i64 r31.snd.snd.snd.snd.fst)) AV.nil)))))
    (fun (r31 : Nat × Int × Int × Bool × Int × Nat × (Nat → Int)) =>
    [((1000 : Nat), (3 : Nat),
    AV.ar r31.snd.snd.snd.snd.snd.fst (1 : Nat) fun (i0 : Nat) => AV.sc (Value.int IntKind.i64 (r31.snd.snd.snd.snd.snd.snd i0)))])
    fun (r31 : Nat × Int × Int × Bool × Int × Nat × (Nat → Int)) =>
    (Orc.call [] [] (fun (r32 : Bool) => AV.sc (Value.bool r32)) (fun (r32 : Bool) => []) fun (r32 : Bool) =>
    Orc.fin (AV.sc (Value.bool (bif true then r32 else false))) [] []).yes.yes.yes).br
    (Orc.fin (AV.sc (Value.bool false)) [] []).no.no.no).yes.yes.yes.br
    (Orc.fin (AV.sc (Value.bool false)) [] []).no.no.no.no.no.no.no) _ _ (by kernel_rfl) (by kernel_rfl) (show True ∧
  True ∧
    True ∧
    True ∧
    True ∧
    True ∧
    (((True ∧ True ∧ True ∧ True) ∧
    (True ∧ True ∧ True ∧ True) ∧ (True ∧ True ∧ True ∧ True) ∧ (True ∧ True ∧ True ∧ True) ∧ (True ∧ True ∧ True ∧ True) ∧ True) ∧
    True) ∧
    True ∧
    True ∧
    ∃ (r :
    Nat ×
    (Nat → Int) ×
    (Nat → Int) ×
    (Nat → Int) ×
    Nat ×
    (Nat → Nat) ×
    (Nat → Nat → Int) ×
    (Nat → Int) ×
    (Nat → Int) × (Nat → Bool) × (Nat → Int) × Nat × (Nat → Int) × Nat × (Nat → Int) × (Nat → Int) × (Nat → Int) × Int),
    ((True ∧ (0 : Nat) + (5 : Nat) ≤ (5 : Nat) ∧ True) ∧
    True ∧
    Ok Proofs.Try.prog (41 : Nat)
    [AV.sc
    (Value.string
    (ByteArray.mk
    #[(32 : UInt8), (32 : UInt8), (32 : UInt8), (32 : UInt8), (97 : UInt8), (10 : UInt8), (32 : UInt8), (32 : UInt8),
    (98 : UInt8)])),
    AV.vec true (3 : Nat) (5 : Nat) (5 : Nat) fun (i : Nat) =>
    AV.cons (1 : Nat)
    (AV.sc
    (Value.int IntKind.i64
    (bif (plus (0 : Nat) i).beq (4 : Nat) then (0 : Int)
    else
    bif (plus (0 : Nat) i).beq (3 : Nat) then (25 : Int)
    else
    bif (plus (0 : Nat) i).beq (2 : Nat) then (19 : Int)
    else
    bif (plus (0 : Nat) i).beq (1 : Nat) then (0 : Int)
    else bif (plus (0 : Nat) i).beq (0 : Nat) then (25 : Int) else (0 : Int))))
    (AV.cons (1 : Nat)
    (AV.sc
    (Value.int IntKind.i64
    (bif (plus (0 : Nat) i).beq (4 : Nat) then (1 : Int)
    else
    bif (plus (0 : Nat) i).beq (3 : Nat) then (2 : Int)
    else
    bif (plus (0 : Nat) i).beq (2 : Nat) then (1 : Int)
    else
    bif (plus (0 : Nat) i).beq (1 : Nat) then (1 : Int)
    else bif (plus (0 : Nat) i).beq (0 : Nat) then (4 : Int) else (0 : Int))))
    (AV.cons (1 : Nat)
    (AV.sc
    (Value.int IntKind.i64
    (bif (plus (0 : Nat) i).beq (4 : Nat) then (0 : Int)
    else
    bif (plus (0 : Nat) i).beq (3 : Nat) then (0 : Int)
    else
    bif (plus (0 : Nat) i).beq (2 : Nat) then (0 : Int)
    else
    bif (plus (0 : Nat) i).beq (1 : Nat) then (0 : Int)
    else bif (plus (0 : Nat) i).beq (0 : Nat) then (0 : Int) else (0 : Int))))
    AV.nil))]
    []
    (AV.cons (1 : Nat)
    (AV.cons (1 : Nat)
    (AV.vec false (3 : Nat) r.fst r.fst fun (i0 : Nat) =>
    AV.cons (1 : Nat) (AV.sc (Value.int IntKind.i64 (r.snd.fst i0)))
    (AV.cons (1 : Nat) (AV.sc (Value.int IntKind.i64 (r.snd.snd.fst i0)))
    (AV.cons (1 : Nat) (AV.sc (Value.int IntKind.i64 (r.snd.snd.snd.fst i0))) AV.nil)))
    (AV.cons (1 : Nat)
    (AV.vec false (5 : Nat) r.snd.snd.snd.snd.fst r.snd.snd.snd.snd.fst fun (i0 : Nat) =>
    AV.cons (1 : Nat)
    (AV.vec false (1 : Nat) (r.snd.snd.snd.snd.snd.fst i0) (r.snd.snd.snd.snd.snd.fst i0) fun (i1 : Nat) =>
    AV.sc (Value.int IntKind.i64 (r.snd.snd.snd.snd.snd.snd.fst i0 i1)))
    (AV.cons (1 : Nat) (AV.sc (Value.int IntKind.i64 (r.snd.snd.snd.snd.snd.snd.snd.fst i0)))
    (AV.cons (1 : Nat) (AV.sc (Value.int IntKind.i64 (r.snd.snd.snd.snd.snd.snd.snd.snd.fst i0)))
    (AV.cons (1 : Nat) (AV.sc (Value.bool (r.snd.snd.snd.snd.snd.snd.snd.snd.snd.fst i0)))
    (AV.cons (1 : Nat) (AV.sc (Value.int IntKind.i64 (r.snd.snd.snd.snd.snd.snd.snd.snd.snd.snd.fst i0))) AV.nil)))))
    (AV.cons (1 : Nat)
    (AV.vec false (1 : Nat) r.snd.snd.snd.snd.snd.snd.snd.snd.snd.snd.snd.fst
    r.snd.snd.snd.snd.snd.snd.snd.snd.snd.snd.snd.fst fun (i0 : Nat) =>
    AV.sc (Value.int IntKind.i64 (r.snd.snd.snd.snd.snd.snd.snd.snd.snd.snd.snd.snd.fst i0)))
    (AV.cons (1 : Nat)
    (AV.vec false (3 : Nat) r.snd.snd.snd.snd.snd.snd.snd.snd.snd.snd.snd.snd.snd.fst
    r.snd.snd.snd.snd.snd.snd.snd.snd.snd.snd.snd.snd.snd.fst fun (i0 : Nat) =>
    AV.cons (1 : Nat) (AV.sc (Value.int IntKind.i64 (r.snd.snd.snd.snd.snd.snd.snd.snd.snd.snd.snd.snd.snd.snd.fst i0)))
    (AV.cons (1 : Nat)
    (AV.sc (Value.int IntKind.i64 (r.snd.snd.snd.snd.snd.snd.snd.snd.snd.snd.snd.snd.snd.snd.snd.fst i0)))
    (AV.cons (1 : Nat)
    (AV.sc (Value.int IntKind.i64 (r.snd.snd.snd.snd.snd.snd.snd.snd.snd.snd.snd.snd.snd.snd.snd.snd.fst i0)))
    AV.nil)))
    AV.nil))))
    (AV.cons (1 : Nat) (AV.sc (Value.int IntKind.i64 r.snd.snd.snd.snd.snd.snd.snd.snd.snd.snd.snd.snd.snd.snd.snd.snd.snd))
    AV.nil)).tup
    []) ∧
    True ∧
    True ∧
    True ∧
    True ∧
    ((0 : Nat) = (0 : Nat) ∧ True) ∧
    True ∧
    True ∧
    True ∧
    True ∧
    True ∧
    True ∧
    True ∧
    True ∧
    True ∧
    (((True ∧ True ∧ True ∧ True) ∧
    (True ∧ True ∧ True ∧ True) ∧
    (True ∧ True ∧ True ∧ True) ∧
    (True ∧ True ∧ True ∧ True) ∧
    (True ∧ True ∧ True ∧ True) ∧
    (True ∧ True ∧ True ∧ True) ∧
    (True ∧ True ∧ True ∧ True) ∧ (True ∧ True ∧ True ∧ True) ∧ True) ∧
    True) ∧
    True ∧
    True ∧
    True ∧
    True ∧
    ((r.snd.snd.snd.snd.snd.snd.snd.snd.snd.snd.snd.snd.snd.snd.snd.snd.snd == (0 : Int)) = true →
    True ∧
    true = true ∧
    ((1 : Nat) + ((1 : Nat) + ((1 : Nat) + (0 : Nat))) = plus (0 : Nat) (3 : Nat) ∧ True) ∧
    true = true ∧
    True ∧
    true = true ∧
    ∃ (r_1 : Bool),
    ((True ∧ (0 : Nat) + (8 : Nat) ≤ (8 : Nat) ∧ True) ∧
    True ∧
    Ok Proofs.Try.prog (35 : Nat)
    [AV.vec true (3 : Nat)
    r.snd.snd.snd.snd.snd.snd.snd.snd.snd.snd.snd.snd.snd.fst
    r.snd.snd.snd.snd.snd.snd.snd.snd.snd.snd.snd.snd.snd.fst
    fun (i : Nat) =>
    AV.cons (1 : Nat)
    (AV.sc
    (Value.int IntKind.i64
    (r.snd.snd.snd.snd.snd.snd.snd.snd.snd.snd.snd.snd.snd.snd.fst
    i)))
    (AV.cons (1 : Nat)
    (AV.sc
    (Value.int IntKind.i64
    (r.snd.snd.snd.snd.snd.snd.snd.snd.snd.snd.snd.snd.snd.snd.snd.fst
    i)))
    (AV.cons (1 : Nat)
    (AV.sc
    (Value.int IntKind.i64
    (r.snd.snd.snd.snd.snd.snd.snd.snd.snd.snd.snd.snd.snd.snd.snd.snd.fst
    i)))
    AV.nil)),
    AV.vec true (3 : Nat) (8 : Nat) (8 : Nat) fun (i : Nat) =>
    AV.cons (1 : Nat)
    (AV.sc
    (Value.int IntKind.i64
    (bif (plus (0 : Nat) i).beq (7 : Nat) then (22 : Int)
    else
    bif (plus (0 : Nat) i).beq (6 : Nat) then (19 : Int)
    else
    bif (plus (0 : Nat) i).beq (5 : Nat) then (0 : Int)
    else
    bif (plus (0 : Nat) i).beq (4 : Nat) then (23 : Int)
    else
    bif (plus (0 : Nat) i).beq (3 : Nat) then (21 : Int)
    else
    bif (plus (0 : Nat) i).beq (2 : Nat) then (19 : Int)
    else
    bif (plus (0 : Nat) i).beq (1 : Nat) then (0 : Int)
    else
    bif (plus (0 : Nat) i).beq (0 : Nat) then
    (20 : Int)
    else (0 : Int))))
    (AV.cons (1 : Nat)
    (AV.sc
    (Value.int IntKind.i64
    (bif (plus (0 : Nat) i).beq (7 : Nat) then (0 : Int)
    else
    bif (plus (0 : Nat) i).beq (6 : Nat) then (0 : Int)
    else
    bif (plus (0 : Nat) i).beq (5 : Nat) then (0 : Int)
    else
    bif (plus (0 : Nat) i).beq (4 : Nat) then (0 : Int)
    else
    bif (plus (0 : Nat) i).beq (3 : Nat) then (2 : Int)
    else
    bif (plus (0 : Nat) i).beq (2 : Nat) then (0 : Int)
    else
    bif (plus (0 : Nat) i).beq (1 : Nat) then
    (0 : Int)
    else
    bif (plus (0 : Nat) i).beq (0 : Nat) then
    (4 : Int)
    else (0 : Int))))
    (AV.cons (1 : Nat)
    (AV.sc
    (Value.int IntKind.i64
    (bif (plus (0 : Nat) i).beq (7 : Nat) then (0 : Int)
    else
    bif (plus (0 : Nat) i).beq (6 : Nat) then (0 : Int)
    else
    bif (plus (0 : Nat) i).beq (5 : Nat) then (1 : Int)
    else
    bif (plus (0 : Nat) i).beq (4 : Nat) then (0 : Int)
    else
    bif (plus (0 : Nat) i).beq (3 : Nat) then (0 : Int)
    else
    bif (plus (0 : Nat) i).beq (2 : Nat) then
    (1 : Int)
    else
    bif (plus (0 : Nat) i).beq (1 : Nat) then
    (1 : Int)
    else
    bif (plus (0 : Nat) i).beq (0 : Nat) then
    (0 : Int)
    else (0 : Int))))
    AV.nil))]
    [] (AV.sc (Value.bool r_1)) []) ∧
    True ∧
    True ∧
    (r_1 = true →
    ∃ (r : Nat × Int × Int × Bool × Int × Nat × (Nat → Int)),
    (True ∧
    True ∧
    Ok Proofs.Try.prog (31 : Nat) [] []
    (AV.cons (1 : Nat)
    (AV.rf (1000 : Nat) (1 : Nat) (0 : Nat) r.fst)
    (AV.cons (1 : Nat) (AV.sc (Value.int IntKind.i64 r.snd.fst))
    (AV.cons (1 : Nat)
    (AV.sc (Value.int IntKind.i64 r.snd.snd.fst))
    (AV.cons (1 : Nat)
    (AV.sc (Value.bool r.snd.snd.snd.fst))
    (AV.cons (1 : Nat)
    (AV.sc
    (Value.int IntKind.i64 r.snd.snd.snd.snd.fst))
    AV.nil)))))
    [((1000 : Nat), (3 : Nat),
    AV.ar r.snd.snd.snd.snd.snd.fst (1 : Nat)
    fun (i0 : Nat) =>
    AV.sc
    (Value.int IntKind.i64
    (r.snd.snd.snd.snd.snd.snd i0)))]) ∧
    true = true ∧
    ((True ∧ True) ∧ True) ∧
    true = true ∧
    True ∧
    true = true ∧
    ∃ (r_2 : Bool),
    ((((0 : Nat) + r.fst ≤ r.snd.snd.snd.snd.snd.fst ∧
    True ∧ True ∧ True ∧ True ∧ True) ∧
    ((0 : Nat) + (1 : Nat) ≤ (1 : Nat) ∧
    True ∧ True ∧ True ∧ True ∧ True) ∧
    True) ∧
    True ∧
    Ok Proofs.Try.prog (32 : Nat)
    [AV.cons (1 : Nat)
    (AV.vec true (1 : Nat) r.fst
    (r.snd.snd.snd.snd.snd.fst - (0 : Nat))
    fun (i : Nat) =>
    AV.sc
    (Value.int IntKind.i64
    (r.snd.snd.snd.snd.snd.snd
    (plus (0 : Nat) i))))
    (AV.cons (1 : Nat)
    (AV.sc (Value.int IntKind.i64 r.snd.fst))
    (AV.cons (1 : Nat)
    (AV.sc
    (Value.int IntKind.i64 r.snd.snd.fst))
    (AV.cons (1 : Nat)
    (AV.sc (Value.bool r.snd.snd.snd.fst))
    (AV.cons (1 : Nat)
    (AV.sc
    (Value.int IntKind.i64
    r.snd.snd.snd.snd.fst))
    AV.nil)))),
    AV.cons (1 : Nat)
    (AV.vec true (1 : Nat) (1 : Nat) (1 : Nat)
    fun (i : Nat) =>
    AV.sc (Value.int IntKind.i64 (0 : Int)))
    (AV.cons (1 : Nat)
    (AV.sc (Value.int IntKind.i64 (0 : Int)))
    (AV.cons (1 : Nat)
    (AV.sc
    (Value.int IntKind.i64 (0 : Int)))
    (AV.cons (1 : Nat)
    (AV.sc (Value.bool true))
    (AV.cons (1 : Nat)
    (AV.sc
    (Value.int IntKind.i64 (0 : Int)))
    AV.nil))))]
    [] (AV.sc (Value.bool r_2)) []) ∧
    True ∧
    True ∧
    True ∧
    ((True ∧
    Sub (AV.sc (Value.bool r_2))
    (AV.sc (Value.bool r_2)) ∧
    True) ∧
    True) ∧
    Sub (AV.sc (Value.bool r_2)) res ∧
    SubOut [] []) ∧
    (r_1 = !true →
    true = true ∧
    (!true) = !true ∧
    true = true ∧
    (!true) = !true ∧
    true = true ∧
    (!true) = !true ∧
    true = true ∧
    True ∧
    True ∧
    True ∧
    ((True ∧
    Sub (AV.sc (Value.bool false))
    (AV.sc (Value.bool false)) ∧
    True) ∧
    True) ∧
    Sub (AV.sc (Value.bool false)) res ∧
    SubOut [] [])) ∧
    ((r.snd.snd.snd.snd.snd.snd.snd.snd.snd.snd.snd.snd.snd.snd.snd.snd.snd == (0 : Int)) = !true →
    true = true ∧
    (!true) = !true ∧
    true = true ∧
    (!true) = !true ∧
    true = true ∧
    (!true) = !true ∧
    true = true ∧
    True ∧
    True ∧
    false = !true ∧
    true = true ∧
    (!true) = !true ∧
    true = true ∧
    (!true) = !true ∧
    true = true ∧
    (!true) = !true ∧
    true = true ∧
    True ∧
    True ∧
    True ∧
    ((True ∧
    Sub (AV.sc (Value.bool false))
    (AV.sc (Value.bool false)) ∧
    True) ∧
    True) ∧
    Sub (AV.sc (Value.bool false)) res ∧ SubOut [] []) from
    ⟨trivial, ⟨trivial, ⟨trivial, ⟨trivial, ⟨trivial, ⟨trivial, ⟨⟨⟨⟨trivial, ⟨trivial, ⟨trivial, trivial⟩⟩⟩, ⟨⟨trivial, ⟨trivial, ⟨trivial, trivial⟩⟩⟩, ⟨⟨trivial, ⟨trivial, ⟨trivial, trivial⟩⟩⟩, ⟨⟨trivial, ⟨trivial, ⟨trivial, trivial⟩⟩⟩, ⟨⟨trivial, ⟨trivial, ⟨trivial, trivial⟩⟩⟩, trivial⟩⟩⟩⟩⟩, trivial⟩, ⟨trivial, ⟨trivial, (Exists.elim h fun x9 h9 => ⟨x9, (And.elim (fun h10 k10 => ⟨(And.elim (fun h11 k11 => ⟨⟨trivial, ((fun h13 => ⟨h13, trivial⟩) h11)⟩, ⟨trivial, k11⟩⟩) h10), ⟨trivial, ⟨trivial, ⟨trivial, ⟨trivial, ⟨⟨rfl, trivial⟩, ⟨trivial, ⟨trivial, ⟨trivial, ⟨trivial, ⟨trivial, ⟨trivial, ⟨trivial, ⟨trivial, ⟨trivial, ⟨⟨⟨⟨trivial, ⟨trivial, ⟨trivial, trivial⟩⟩⟩, ⟨⟨trivial, ⟨trivial, ⟨trivial, trivial⟩⟩⟩, ⟨⟨trivial, ⟨trivial, ⟨trivial, trivial⟩⟩⟩, ⟨⟨trivial, ⟨trivial, ⟨trivial, trivial⟩⟩⟩, ⟨⟨trivial, ⟨trivial, ⟨trivial, trivial⟩⟩⟩, ⟨⟨trivial, ⟨trivial, ⟨trivial, trivial⟩⟩⟩, ⟨⟨trivial, ⟨trivial, ⟨trivial, trivial⟩⟩⟩, ⟨⟨trivial, ⟨trivial, ⟨trivial, trivial⟩⟩⟩, trivial⟩⟩⟩⟩⟩⟩⟩⟩, trivial⟩, ⟨trivial, ⟨trivial, ⟨trivial, ⟨trivial, (And.elim (fun h30 k30 => ⟨(fun x31 => (fun h31 => ⟨trivial, ⟨rfl, ⟨⟨rfl, trivial⟩, ⟨rfl, ⟨trivial, ⟨rfl, (Exists.elim h31 fun x38 h38 => ⟨x38, (And.elim (fun h39 k39 => ⟨(And.elim (fun h40 k40 => ⟨⟨trivial, ((fun h42 => ⟨h42, trivial⟩) h40)⟩, ⟨trivial, k40⟩⟩) h39), ⟨trivial, ⟨trivial, (And.elim (fun h42 k42 => ⟨(fun x43 => (fun h43 => (Exists.elim h43 fun x44 h44 => ⟨x44, (And.elim (fun h45 k45 => ⟨⟨trivial, ⟨trivial, h45⟩⟩, ⟨rfl, ⟨⟨⟨trivial, trivial⟩, trivial⟩, ⟨rfl, ⟨trivial, ⟨rfl, (Exists.elim k45 fun x51 h51 => ⟨x51, (And.elim (fun h52 k52 => ⟨(And.elim (fun h53 k53 => ⟨(And.elim (fun h54 k54 => ⟨((fun h55 => ⟨h55, ⟨trivial, ⟨trivial, ⟨trivial, ⟨trivial, trivial⟩⟩⟩⟩⟩) h54), ((fun h55 => ⟨((fun h56 => ⟨h56, ⟨trivial, ⟨trivial, ⟨trivial, ⟨trivial, trivial⟩⟩⟩⟩⟩) h55), trivial⟩) k54)⟩) h53), ⟨trivial, k53⟩⟩) h52), ⟨trivial, ⟨trivial, ⟨trivial, ⟨⟨⟨trivial, ⟨Sub.refl _, trivial⟩⟩, trivial⟩, ((fun h57 => ⟨h57, trivial⟩) k52)⟩⟩⟩⟩⟩) h51)⟩)⟩⟩⟩⟩⟩⟩) h44)⟩)) (h42 x43)), (fun x43 => (fun h43 => ⟨rfl, ⟨rfl, ⟨rfl, ⟨rfl, ⟨rfl, ⟨rfl, ⟨rfl, ⟨trivial, ⟨trivial, ⟨trivial, ⟨⟨⟨trivial, ⟨Sub.refl _, trivial⟩⟩, trivial⟩, ((fun h55 => ⟨h55, trivial⟩) h43)⟩⟩⟩⟩⟩⟩⟩⟩⟩⟩⟩) (k42 x43))⟩) k39)⟩⟩⟩) h38)⟩)⟩⟩⟩⟩⟩⟩) (h30 x31)), (fun x31 => (fun h31 => ⟨rfl, ⟨rfl, ⟨rfl, ⟨rfl, ⟨rfl, ⟨rfl, ⟨rfl, ⟨trivial, ⟨trivial, ⟨rfl, ⟨rfl, ⟨rfl, ⟨rfl, ⟨rfl, ⟨rfl, ⟨rfl, ⟨rfl, ⟨trivial, ⟨trivial, ⟨trivial, ⟨⟨⟨trivial, ⟨Sub.refl _, trivial⟩⟩, trivial⟩, ((fun h53 => ⟨h53, trivial⟩) h31)⟩⟩⟩⟩⟩⟩⟩⟩⟩⟩⟩⟩⟩⟩⟩⟩⟩⟩⟩⟩⟩) (k30 x31))⟩) k10)⟩⟩⟩⟩⟩⟩⟩⟩⟩⟩⟩⟩⟩⟩⟩⟩⟩⟩⟩⟩) h9)⟩)⟩⟩⟩⟩⟩⟩⟩⟩⟩)
theorem hf41 : Go.Proofs.Try.prog.funcs[41]? = some Go.Proofs.Try.f41 := by kernel_rfl
abbrev s41_e (text : ByteArray) (ln : Nat) (lfa : Nat → Int) (lfba : Nat → Int) (lfbba : Nat → Int) : List (Nat × AV) := [(0, (.sc (.string text))), (1, (.vec true 3 ln ln (fun i0 => (.cons 1 (.sc (.int .i64 (lfa i0))) (.cons 1 (.sc (.int .i64 (lfba i0))) (.cons 1 (.sc (.int .i64 (lfbba i0))) .nil))))))]
abbrev m41_e (text : ByteArray) (ln : Nat) (lfa : Nat → Int) (lfba : Nat → Int) (lfbba : Nat → Int) : List (Nat × Nat × AV) := []
def L41_e (text : ByteArray) (ln : Nat) (lfa : Nat → Int) (lfba : Nat → Int) (lfbba : Nat → Int) (res : AV) : Prop := Goes ⟨Go.Proofs.Try.prog, 41, [], res, []⟩ (place Go.Proofs.Try.f41 []) (s41_e text ln lfa lfba lfbba) (m41_e text ln lfa lfba lfbba)
abbrev s41_0 (text : ByteArray) (t31n : Nat) (t31fa : Nat → Int) (t31fba : Nat → Int) (t31fbba : Nat → Int) (t32 : Int) (t33 : Int) (b1an : Nat) (b1afa : Nat → Int) (b1afba : Nat → Int) (b1afbba : Nat → Int) (b1ban : Nat) (b1bban : Nat) (b1bbban : Nat) (b2an : Nat) (b2ba : Int) (b2bba : Int) (b2bbba : Bool) (b2bbbba : Int) (b7n : Nat) (b7fan : Nat → Nat) (b7faf : Nat → Nat → Int) (b7fba : Nat → Int) (b7fbba : Nat → Int) (b7fbbba : Nat → Bool) (b7fbbbba : Nat → Int) (b8n : Nat) (b8f : Nat → Int) (b10n : Nat) (b10f : Nat → Int) (b9n : Nat) (b9fa : Nat → Int) (b9fba : Nat → Int) (b9fbba : Nat → Int) : List (Nat × AV) := [(0, (.sc (.string text))), (4, (.pt 1000 [] 0)), (6, (.pt 1001 [] 0)), (7, (.pt 1002 [] 0)), (31, (.vec true 3 t31n t31n (fun i0 => (.cons 1 (.sc (.int .i64 (t31fa i0))) (.cons 1 (.sc (.int .i64 (t31fba i0))) (.cons 1 (.sc (.int .i64 (t31fbba i0))) .nil)))))), (32, (.sc (.int .i64 t32))), (33, (.sc (.int .i64 t33)))]
abbrev m41_0 (text : ByteArray) (t31n : Nat) (t31fa : Nat → Int) (t31fba : Nat → Int) (t31fbba : Nat → Int) (t32 : Int) (t33 : Int) (b1an : Nat) (b1afa : Nat → Int) (b1afba : Nat → Int) (b1afbba : Nat → Int) (b1ban : Nat) (b1bban : Nat) (b1bbban : Nat) (b2an : Nat) (b2ba : Int) (b2bba : Int) (b2bbba : Bool) (b2bbbba : Int) (b7n : Nat) (b7fan : Nat → Nat) (b7faf : Nat → Nat → Int) (b7fba : Nat → Int) (b7fbba : Nat → Int) (b7fbbba : Nat → Bool) (b7fbbbba : Nat → Int) (b8n : Nat) (b8f : Nat → Int) (b10n : Nat) (b10f : Nat → Int) (b9n : Nat) (b9fa : Nat → Int) (b9fba : Nat → Int) (b9fbba : Nat → Int) : List (Nat × Nat × AV) := [(1000, 76, (.cons 1 (.sc (.slice none 0 0)) (.cons 1 (.sc (.slice none 0 0)) (.cons 1 (.sc (.slice none 0 0)) (.cons 1 (.sc (.slice none 0 0)) .nil))))), (1001, 76, (.cons 1 (.vec false 3 b1an b1an (fun i0 => (.cons 1 (.sc (.int .i64 (b1afa i0))) (.cons 1 (.sc (.int .i64 (b1afba i0))) (.cons 1 (.sc (.int .i64 (b1afbba i0))) .nil))))) (.cons 1 (.rf 1007 5 0 b1ban) (.cons 1 (.rf 1008 1 0 b1bban) (.cons 1 (.rf 1009 3 0 b1bbban) .nil))))), (1002, 64, (.cons 1 (.rf 1010 1 0 b2an) (.cons 1 (.sc (.int .i64 b2ba)) (.cons 1 (.sc (.int .i64 b2bba)) (.cons 1 (.sc (.bool b2bbba)) (.cons 1 (.sc (.int .i64 b2bbbba)) .nil)))))), (1007, 64, (.ar b7n 5 (fun i0 => (.cons 1 (.vec false 1 (b7fan i0) (b7fan i0) (fun i1 => (.sc (.int .i64 (b7faf i0 i1))))) (.cons 1 (.sc (.int .i64 (b7fba i0))) (.cons 1 (.sc (.int .i64 (b7fbba i0))) (.cons 1 (.sc (.bool (b7fbbba i0))) (.cons 1 (.sc (.int .i64 (b7fbbbba i0))) .nil)))))))), (1008, 3, (.ar b8n 1 (fun i0 => (.sc (.int .i64 (b8f i0)))))), (1010, 3, (.ar b10n 1 (fun i0 => (.sc (.int .i64 (b10f i0)))))), (1009, 81, (.ar b9n 3 (fun i0 => (.cons 1 (.sc (.int .i64 (b9fa i0))) (.cons 1 (.sc (.int .i64 (b9fba i0))) (.cons 1 (.sc (.int .i64 (b9fbba i0))) .nil))))))]
def L41_0 (text : ByteArray) (t31n : Nat) (t31fa : Nat → Int) (t31fba : Nat → Int) (t31fbba : Nat → Int) (t32 : Int) (t33 : Int) (b1an : Nat) (b1afa : Nat → Int) (b1afba : Nat → Int) (b1afbba : Nat → Int) (b1ban : Nat) (b1bban : Nat) (b1bbban : Nat) (b2an : Nat) (b2ba : Int) (b2bba : Int) (b2bbba : Bool) (b2bbbba : Int) (b7n : Nat) (b7fan : Nat → Nat) (b7faf : Nat → Nat → Int) (b7fba : Nat → Int) (b7fbba : Nat → Int) (b7fbbba : Nat → Bool) (b7fbbbba : Nat → Int) (b8n : Nat) (b8f : Nat → Int) (b10n : Nat) (b10f : Nat → Int) (b9n : Nat) (b9fa : Nat → Int) (b9fba : Nat → Int) (b9fbba : Nat → Int) (res : AV) : Prop := Goes ⟨Go.Proofs.Try.prog, 41, [], res, []⟩ (place Go.Proofs.Try.f41 [1, 1, 1, 1, 0, 1, 0, 0]) (s41_0 text t31n t31fa t31fba t31fbba t32 t33 b1an b1afa b1afba b1afbba b1ban b1bban b1bbban b2an b2ba b2bba b2bbba b2bbbba b7n b7fan b7faf b7fba b7fbba b7fbbba b7fbbbba b8n b8f b10n b10f b9n b9fa b9fba b9fbba) (m41_0 text t31n t31fa t31fba t31fbba t32 t33 b1an b1afa b1afba b1afbba b1ban b1bban b1bbban b2an b2ba b2bba b2bbba b2bbbba b7n b7fan b7faf b7fba b7fbba b7fbbba b7fbbbba b8n b8f b10n b10f b9n b9fa b9fba b9fbba)
theorem o41 (text : ByteArray) (ln : Nat) (lfa : Nat → Int) (lfba : Nat → Int) (lfbba : Nat → Int) (res : AV) (hnew : newOnly res) (h : L41_e text ln lfa lfba lfbba res) : Ok Go.Proofs.Try.prog 41 [(.sc (.string text)), (.vec true 3 ln ln (fun i0 => (.cons 1 (.sc (.int .i64 (lfa i0))) (.cons 1 (.sc (.int .i64 (lfba i0))) (.cons 1 (.sc (.int .i64 (lfbba i0))) .nil)))))] [] res [] :=
  okRule2 41 Go.Proofs.Try.f41 hf41 [(.sc (.string text)), (.vec true 3 ln ln (fun i0 => (.cons 1 (.sc (.int .i64 (lfa i0))) (.cons 1 (.sc (.int .i64 (lfba i0))) (.cons 1 (.sc (.int .i64 (lfbba i0))) .nil)))))] [] res [] [] rfl (by kernel_rfl) (by kernel_rfl) (by kernel_rfl) ⟨hnew, by simp⟩ (L41_e text ln lfa lfba lfbba res) (by kernel_rfl) h
theorem r41_e (text : ByteArray) (ln : Nat) (lfa : Nat → Int) (lfba : Nat → Int) (lfbba : Nat → Int) (res : AV)
    (h : (decide ((↑text.size : Int) > (65536 : Int)) = true →
    Sub
    (AV.cons (1 : Nat)
    (AV.cons (1 : Nat) (AV.sc (Value.slice none (0 : Nat) (0 : Nat)))
    (AV.cons (1 : Nat) (AV.sc (Value.slice none (0 : Nat) (0 : Nat)))
    (AV.cons (1 : Nat) (AV.sc (Value.slice none (0 : Nat) (0 : Nat))) (AV.cons (1 : Nat) (AV.sc (Value.slice none (0 : Nat) (0 : Nat))) AV.nil))))
    (AV.cons (1 : Nat) (AV.sc (Value.int IntKind.i64 (3 : Int))) AV.nil)).tup
    res) ∧
  (decide ((↑text.size : Int) > (65536 : Int)) = false →
    ∃ (r : Bool),
    Ok Proofs.Try.prog (73 : Nat)
    [AV.sc (Value.int IntKind.i64 (↑text.size : Int)),
    AV.vec true (3 : Nat) ln ln fun (i : Nat) =>
    AV.cons (1 : Nat) (AV.sc (Value.int IntKind.i64 (lfa i)))
    (AV.cons (1 : Nat) (AV.sc (Value.int IntKind.i64 (lfba i))) (AV.cons (1 : Nat) (AV.sc (Value.int IntKind.i64 (lfbba i))) AV.nil))]
    [] (AV.sc (Value.bool r)) [] ∧
    ((!r) = true →
    Sub
    (AV.cons (1 : Nat)
    (AV.cons (1 : Nat) (AV.sc (Value.slice none (0 : Nat) (0 : Nat)))
    (AV.cons (1 : Nat) (AV.sc (Value.slice none (0 : Nat) (0 : Nat)))
    (AV.cons (1 : Nat) (AV.sc (Value.slice none (0 : Nat) (0 : Nat)))
    (AV.cons (1 : Nat) (AV.sc (Value.slice none (0 : Nat) (0 : Nat))) AV.nil))))
    (AV.cons (1 : Nat) (AV.sc (Value.int IntKind.i64 (2 : Int))) AV.nil)).tup
    res) ∧
    ((!r) = false →
    ∃ (r : Nat × (Nat → Int) × (Nat → Int) × (Nat → Int)),
    Ok Proofs.Try.prog (74 : Nat)
    [AV.vec true (3 : Nat) ln ln fun (i : Nat) =>
    AV.cons (1 : Nat) (AV.sc (Value.int IntKind.i64 (lfa i)))
    (AV.cons (1 : Nat) (AV.sc (Value.int IntKind.i64 (lfba i))) (AV.cons (1 : Nat) (AV.sc (Value.int IntKind.i64 (lfbba i))) AV.nil))]
    []
    (AV.vec false (3 : Nat) r.fst r.fst fun (i0 : Nat) =>
    AV.cons (1 : Nat) (AV.sc (Value.int IntKind.i64 (r.snd.fst i0)))
    (AV.cons (1 : Nat) (AV.sc (Value.int IntKind.i64 (r.snd.snd.fst i0)))
    (AV.cons (1 : Nat) (AV.sc (Value.int IntKind.i64 (r.snd.snd.snd i0))) AV.nil)))
    [] ∧
    ∃ (r_1 : Nat × Int × Int × Bool × Int × Nat × (Nat → Int)),
    Ok Proofs.Try.prog (31 : Nat) [] []
    (AV.cons (1 : Nat) (AV.rf (1000 : Nat) (1 : Nat) (0 : Nat) r_1.fst)
    (AV.cons (1 : Nat) (AV.sc (Value.int IntKind.i64 r_1.snd.fst))
    (AV.cons (1 : Nat) (AV.sc (Value.int IntKind.i64 r_1.snd.snd.fst))
    (AV.cons (1 : Nat) (AV.sc (Value.bool r_1.snd.snd.snd.fst))
    (AV.cons (1 : Nat) (AV.sc (Value.int IntKind.i64 r_1.snd.snd.snd.snd.fst)) AV.nil)))))
    [((1000 : Nat), (3 : Nat),
    AV.ar r_1.snd.snd.snd.snd.snd.fst (1 : Nat) fun (i0 : Nat) => AV.sc (Value.int IntKind.i64 (r_1.snd.snd.snd.snd.snd.snd i0)))] ∧
    (0 : Nat) + r_1.fst ≤ r_1.snd.snd.snd.snd.snd.fst ∧
    ∃ (r_2 : Nat × Int × Int × Bool × Int × Nat × (Nat → Int)),
    Ok Proofs.Try.prog (31 : Nat) [] []
    (AV.cons (1 : Nat) (AV.rf (1000 : Nat) (1 : Nat) (0 : Nat) r_2.fst)
    (AV.cons (1 : Nat) (AV.sc (Value.int IntKind.i64 r_2.snd.fst))
    (AV.cons (1 : Nat) (AV.sc (Value.int IntKind.i64 r_2.snd.snd.fst))
    (AV.cons (1 : Nat) (AV.sc (Value.bool r_2.snd.snd.snd.fst))
    (AV.cons (1 : Nat) (AV.sc (Value.int IntKind.i64 r_2.snd.snd.snd.snd.fst)) AV.nil)))))
    [((1000 : Nat), (3 : Nat),
    AV.ar r_2.snd.snd.snd.snd.snd.fst (1 : Nat) fun (i0 : Nat) => AV.sc (Value.int IntKind.i64 (r_2.snd.snd.snd.snd.snd.snd i0)))] ∧
    SubB
    (AV.ar (1 : Nat) (5 : Nat) fun (x : Nat) =>
    AV.cons (1 : Nat)
    (AV.vec false (1 : Nat) r_1.fst (r_1.snd.snd.snd.snd.snd.fst - (0 : Nat)) fun (i : Nat) =>
    AV.sc (Value.int IntKind.i64 (r_1.snd.snd.snd.snd.snd.snd (plus (0 : Nat) i))))
    (AV.cons (1 : Nat) (AV.sc (Value.int IntKind.i64 r_1.snd.fst))
    (AV.cons (1 : Nat) (AV.sc (Value.int IntKind.i64 r_1.snd.snd.fst))
    (AV.cons (1 : Nat) (AV.sc (Value.bool r_1.snd.snd.snd.fst))
    (AV.cons (1 : Nat) (AV.sc (Value.int IntKind.i64 r_1.snd.snd.snd.snd.fst)) AV.nil)))))
    (AV.ar (1 : Nat) (5 : Nat) fun (i0 : Nat) =>
    AV.cons (1 : Nat)
    (AV.vec false (1 : Nat) r_1.fst r_1.fst fun (i1 : Nat) =>
    AV.sc (Value.int IntKind.i64 (r_1.snd.snd.snd.snd.snd.snd (plus (0 : Nat) i1))))
    (AV.cons (1 : Nat) (AV.sc (Value.int IntKind.i64 r_1.snd.fst))
    (AV.cons (1 : Nat) (AV.sc (Value.int IntKind.i64 r_1.snd.snd.fst))
    (AV.cons (1 : Nat) (AV.sc (Value.bool r_1.snd.snd.snd.fst))
    (AV.cons (1 : Nat) (AV.sc (Value.int IntKind.i64 r_1.snd.snd.snd.snd.fst)) AV.nil))))) ∧
    L41_0 text ln lfa lfba lfbba (↑ln : Int) (0 : Int) r.fst r.snd.fst r.snd.snd.fst r.snd.snd.snd (1 : Nat) (1 : Nat) (0 : Nat) r_2.fst
    r_2.snd.fst r_2.snd.snd.fst r_2.snd.snd.snd.fst r_2.snd.snd.snd.snd.fst (1 : Nat) (fun (x : Nat) => r_1.fst)
    (fun (x i : Nat) => r_1.snd.snd.snd.snd.snd.snd (plus (0 : Nat) i)) (fun (x : Nat) => r_1.snd.fst)
    (fun (x : Nat) => r_1.snd.snd.fst) (fun (x : Nat) => r_1.snd.snd.snd.fst) (fun (x : Nat) => r_1.snd.snd.snd.snd.fst) (1 : Nat)
    (fun (x : Nat) => (0 : Int)) r_2.snd.snd.snd.snd.snd.fst r_2.snd.snd.snd.snd.snd.snd (0 : Nat)
    (fun (i : Nat) => Int.ofNat (0 : Nat)) (fun (i : Nat) => Int.ofNat (0 : Nat)) (fun (i : Nat) => Int.ofNat (0 : Nat)) res))) :
    L41_e text ln lfa lfba lfbba res :=
  rule Go.Am.Seat.tabOk 41 [] Go.Proofs.Try.f41 hf41 [] (s41_e text ln lfa lfba lfbba) (m41_e text ln lfa lfba lfbba) res [] 400
    ((Orc.fin
    (AV.cons (1 : Nat)
    (AV.cons (1 : Nat) (AV.sc (Value.slice none (0 : Nat) (0 : Nat)))
    (AV.cons (1 : Nat) (AV.sc (Value.slice none (0 : Nat) (0 : Nat)))
    (AV.cons (1 : Nat) (AV.sc (Value.slice none (0 : Nat) (0 : Nat))) (AV.cons (1 : Nat) (AV.sc (Value.slice none (0 : Nat) (0 : Nat))) AV.nil))))
    (AV.cons (1 : Nat) (AV.sc (Value.int IntKind.i64 (3 : Int))) AV.nil)).tup
    [] []).br
  (Orc.call [] [] (fun (r73 : Bool) => AV.sc (Value.bool r73)) (fun (r73 : Bool) => []) fun (r73 : Bool) =>
    (Orc.fin
    (AV.cons (1 : Nat)
    (AV.cons (1 : Nat) (AV.sc (Value.slice none (0 : Nat) (0 : Nat)))
    (AV.cons (1 : Nat) (AV.sc (Value.slice none (0 : Nat) (0 : Nat)))
    (AV.cons (1 : Nat) (AV.sc (Value.slice none (0 : Nat) (0 : Nat))) (AV.cons (1 : Nat) (AV.sc (Value.slice none (0 : Nat) (0 : Nat))) AV.nil))))
    (AV.cons (1 : Nat) (AV.sc (Value.int IntKind.i64 (2 : Int))) AV.nil)).tup
    [] []).br
    (Orc.call [] []
    (fun (r74 : Nat × (Nat → Int) × (Nat → Int) × (Nat → Int)) =>
    AV.vec false (3 : Nat) r74.fst r74.fst fun (i0 : Nat) =>
    AV.cons (1 : Nat) (AV.sc (Value.int IntKind.i64 (r74.snd.fst i0)))
    (AV.cons (1 : Nat) (AV.sc (Value.int IntKind.i64 (r74.snd.snd.fst i0)))
    (AV.cons (1 : Nat) (AV.sc (Value.int IntKind.i64 (r74.snd.snd.snd i0))) AV.nil)))
    (fun (r74 : Nat × (Nat → Int) × (Nat → Int) × (Nat → Int)) => []) fun (r74 : Nat × (Nat → Int) × (Nat → Int) × (Nat → Int)) =>
    Orc.call [] [((100260 : Nat), (1000 : Nat))]
    (fun (r31 : Nat × Int × Int × Bool × Int × Nat × (Nat → Int)) =>
    AV.cons (1 : Nat) (AV.rf (1000 : Nat) (1 : Nat) (0 : Nat) r31.fst)
    (AV.cons (1 : Nat) (AV.sc (Value.int IntKind.i64 r31.snd.fst))
    (AV.cons (1 : Nat) (AV.sc (Value.int IntKind.i64 r31.snd.snd.fst))
    (AV.cons (1 : Nat) (AV.sc (Value.bool r31.snd.snd.snd.fst))
    (AV.cons (1 : Nat) (AV.sc (Value.int IntKind.i64 r31.snd.snd.snd.snd.fst)) AV.nil)))))
    (fun (r31 : Nat × Int × Int × Bool × Int × Nat × (Nat → Int)) =>
    [((1000 : Nat), (3 : Nat),
    AV.ar r31.snd.snd.snd.snd.snd.fst (1 : Nat) fun (i0 : Nat) => AV.sc (Value.int IntKind.i64 (r31.snd.snd.snd.snd.snd.snd i0)))])
    fun (r31 : Nat × Int × Int × Bool × Int × Nat × (Nat → Int)) =>
    Orc.call [] [((100300 : Nat), (1000 : Nat))]
    (fun (r31 : Nat × Int × Int × Bool × Int × Nat × (Nat → Int)) =>
    AV.cons (1 : Nat) (AV.rf (1000 : Nat) (1 : Nat) (0 : Nat) r31.fst)
    (AV.cons (1 : Nat) (AV.sc (Value.int IntKind.i64 r31.snd.fst))
    (AV.cons (1 : Nat) (AV.sc (Value.int IntKind.i64 r31.snd.snd.fst))
    (AV.cons (1 : Nat) (AV.sc (Value.bool r31.snd.snd.snd.fst))
    (AV.cons (1 : Nat) (AV.sc (Value.int IntKind.i64 r31.snd.snd.snd.snd.fst)) AV.nil)))))
    (fun (r31 : Nat × Int × Int × Bool × Int × Nat × (Nat → Int)) =>
    [((1000 : Nat), (3 : Nat),
    AV.ar r31.snd.snd.snd.snd.snd.fst (1 : Nat) fun (i0 : Nat) => AV.sc (Value.int IntKind.i64 (r31.snd.snd.snd.snd.snd.snd i0)))])
    fun (r31_1 : Nat × Int × Int × Bool × Int × Nat × (Nat → Int)) =>
    Orc.cut (nat_lit 5)
    (s41_0 text ln lfa lfba lfbba (↑ln : Int) (0 : Int) r74.fst r74.snd.fst r74.snd.snd.fst r74.snd.snd.snd (1 : Nat) (1 : Nat) (0 : Nat) r31_1.fst
    r31_1.snd.fst r31_1.snd.snd.fst r31_1.snd.snd.snd.fst r31_1.snd.snd.snd.snd.fst (1 : Nat) (fun (x : Nat) => r31.fst)
    (fun (x i : Nat) => r31.snd.snd.snd.snd.snd.snd (plus (0 : Nat) i)) (fun (x : Nat) => r31.snd.fst) (fun (x : Nat) => r31.snd.snd.fst)
    (fun (x : Nat) => r31.snd.snd.snd.fst) (fun (x : Nat) => r31.snd.snd.snd.snd.fst) (1 : Nat) (fun (x : Nat) => (0 : Int))
    r31_1.snd.snd.snd.snd.snd.fst r31_1.snd.snd.snd.snd.snd.snd (0 : Nat) (fun (i : Nat) => Int.ofNat (0 : Nat))
    (fun (i : Nat) => Int.ofNat (0 : Nat)) fun (i : Nat) => Int.ofNat (0 : Nat))
    (m41_0 text ln lfa lfba lfbba (↑ln : Int) (0 : Int) r74.fst r74.snd.fst r74.snd.snd.fst r74.snd.snd.snd (1 : Nat) (1 : Nat) (0 : Nat) r31_1.fst
    r31_1.snd.fst r31_1.snd.snd.fst r31_1.snd.snd.snd.fst r31_1.snd.snd.snd.snd.fst (1 : Nat) (fun (x : Nat) => r31.fst)
    (fun (x i : Nat) => r31.snd.snd.snd.snd.snd.snd (plus (0 : Nat) i)) (fun (x : Nat) => r31.snd.fst) (fun (x : Nat) => r31.snd.snd.fst)
    (fun (x : Nat) => r31.snd.snd.snd.fst) (fun (x : Nat) => r31.snd.snd.snd.snd.fst) (1 : Nat) (fun (x : Nat) => (0 : Int))
    r31_1.snd.snd.snd.snd.snd.fst r31_1.snd.snd.snd.snd.snd.snd (0 : Nat) (fun (i : Nat) => Int.ofNat (0 : Nat))
    (fun (i : Nat) => Int.ofNat (0 : Nat)) fun (i : Nat) => Int.ofNat (0 : Nat))
    [((1000 : Nat), some (4 : Nat)), ((1001 : Nat), some (6 : Nat)), ((1002 : Nat), some (7 : Nat)), ((1007 : Nat), some (27 : Nat)),
    ((1008 : Nat), some (28 : Nat)), ((1010 : Nat), some (100300 : Nat)), ((1009 : Nat), none)]))) _ _ (by kernel_rfl) (by kernel_rfl) (show True ∧
  True ∧
    True ∧
    True ∧
    True ∧
    True ∧
    (decide ((↑text.size : Int) > (65536 : Int)) = true →
    True ∧
    ((0 : Nat) = (0 : Nat) ∧ True) ∧
    True ∧
    (((0 : Nat) = (0 : Nat) ∧ True) ∧ True ∧ True) ∧
    ((((True ∧ True ∧ True ∧ True ∧ True) ∧ True ∧ True) ∧
    Sub
    (AV.cons (1 : Nat)
    (AV.cons (1 : Nat) (AV.sc (Value.slice none (0 : Nat) (0 : Nat)))
    (AV.cons (1 : Nat) (AV.sc (Value.slice none (0 : Nat) (0 : Nat)))
    (AV.cons (1 : Nat) (AV.sc (Value.slice none (0 : Nat) (0 : Nat)))
    (AV.cons (1 : Nat) (AV.sc (Value.slice none (0 : Nat) (0 : Nat))) AV.nil))))
    (AV.cons (1 : Nat) (AV.sc (Value.int IntKind.i64 (3 : Int))) AV.nil)).tup
    (AV.cons (1 : Nat)
    (AV.cons (1 : Nat) (AV.sc (Value.slice none (0 : Nat) (0 : Nat)))
    (AV.cons (1 : Nat) (AV.sc (Value.slice none (0 : Nat) (0 : Nat)))
    (AV.cons (1 : Nat) (AV.sc (Value.slice none (0 : Nat) (0 : Nat)))
    (AV.cons (1 : Nat) (AV.sc (Value.slice none (0 : Nat) (0 : Nat))) AV.nil))))
    (AV.cons (1 : Nat) (AV.sc (Value.int IntKind.i64 (3 : Int))) AV.nil)).tup ∧
    True) ∧
    True) ∧
    Sub
    (AV.cons (1 : Nat)
    (AV.cons (1 : Nat) (AV.sc (Value.slice none (0 : Nat) (0 : Nat)))
    (AV.cons (1 : Nat) (AV.sc (Value.slice none (0 : Nat) (0 : Nat)))
    (AV.cons (1 : Nat) (AV.sc (Value.slice none (0 : Nat) (0 : Nat)))
    (AV.cons (1 : Nat) (AV.sc (Value.slice none (0 : Nat) (0 : Nat))) AV.nil))))
    (AV.cons (1 : Nat) (AV.sc (Value.int IntKind.i64 (3 : Int))) AV.nil)).tup
    res ∧
    SubOut [] []) ∧
    (decide ((↑text.size : Int) > (65536 : Int)) = false →
    True ∧
    True ∧
    True ∧
    ∃ (r : Bool),
    ((True ∧ True ∧ True) ∧
    True ∧
    Ok Proofs.Try.prog (73 : Nat)
    [AV.sc (Value.int IntKind.i64 (↑text.size : Int)),
    AV.vec true (3 : Nat) ln ln fun (i : Nat) =>
    AV.cons (1 : Nat) (AV.sc (Value.int IntKind.i64 (lfa i)))
    (AV.cons (1 : Nat) (AV.sc (Value.int IntKind.i64 (lfba i)))
    (AV.cons (1 : Nat) (AV.sc (Value.int IntKind.i64 (lfbba i))) AV.nil))]
    [] (AV.sc (Value.bool r)) []) ∧
    True ∧
    True ∧
    ((!r) = true →
    True ∧
    ((0 : Nat) = (0 : Nat) ∧ True) ∧
    True ∧
    (((0 : Nat) = (0 : Nat) ∧ True) ∧ True ∧ True) ∧
    ((((True ∧ True ∧ True ∧ True ∧ True) ∧ True ∧ True) ∧
    Sub
    (AV.cons (1 : Nat)
    (AV.cons (1 : Nat) (AV.sc (Value.slice none (0 : Nat) (0 : Nat)))
    (AV.cons (1 : Nat) (AV.sc (Value.slice none (0 : Nat) (0 : Nat)))
    (AV.cons (1 : Nat) (AV.sc (Value.slice none (0 : Nat) (0 : Nat)))
    (AV.cons (1 : Nat) (AV.sc (Value.slice none (0 : Nat) (0 : Nat))) AV.nil))))
    (AV.cons (1 : Nat) (AV.sc (Value.int IntKind.i64 (2 : Int))) AV.nil)).tup
    (AV.cons (1 : Nat)
    (AV.cons (1 : Nat) (AV.sc (Value.slice none (0 : Nat) (0 : Nat)))
    (AV.cons (1 : Nat) (AV.sc (Value.slice none (0 : Nat) (0 : Nat)))
    (AV.cons (1 : Nat) (AV.sc (Value.slice none (0 : Nat) (0 : Nat)))
    (AV.cons (1 : Nat) (AV.sc (Value.slice none (0 : Nat) (0 : Nat))) AV.nil))))
    (AV.cons (1 : Nat) (AV.sc (Value.int IntKind.i64 (2 : Int))) AV.nil)).tup ∧
    True) ∧
    True) ∧
    Sub
    (AV.cons (1 : Nat)
    (AV.cons (1 : Nat) (AV.sc (Value.slice none (0 : Nat) (0 : Nat)))
    (AV.cons (1 : Nat) (AV.sc (Value.slice none (0 : Nat) (0 : Nat)))
    (AV.cons (1 : Nat) (AV.sc (Value.slice none (0 : Nat) (0 : Nat)))
    (AV.cons (1 : Nat) (AV.sc (Value.slice none (0 : Nat) (0 : Nat))) AV.nil))))
    (AV.cons (1 : Nat) (AV.sc (Value.int IntKind.i64 (2 : Int))) AV.nil)).tup
    res ∧
    SubOut [] []) ∧
    ((!r) = false →
    True ∧
    ∃ (r : Nat × (Nat → Int) × (Nat → Int) × (Nat → Int)),
    ((True ∧ True) ∧
    True ∧
    Ok Proofs.Try.prog (74 : Nat)
    [AV.vec true (3 : Nat) ln ln fun (i : Nat) =>
    AV.cons (1 : Nat) (AV.sc (Value.int IntKind.i64 (lfa i)))
    (AV.cons (1 : Nat) (AV.sc (Value.int IntKind.i64 (lfba i)))
    (AV.cons (1 : Nat) (AV.sc (Value.int IntKind.i64 (lfbba i))) AV.nil))]
    []
    (AV.vec false (3 : Nat) r.fst r.fst fun (i0 : Nat) =>
    AV.cons (1 : Nat) (AV.sc (Value.int IntKind.i64 (r.snd.fst i0)))
    (AV.cons (1 : Nat) (AV.sc (Value.int IntKind.i64 (r.snd.snd.fst i0)))
    (AV.cons (1 : Nat) (AV.sc (Value.int IntKind.i64 (r.snd.snd.snd i0))) AV.nil)))
    []) ∧
    ∃ (r_1 : Nat × Int × Int × Bool × Int × Nat × (Nat → Int)),
    (True ∧
    True ∧
    Ok Proofs.Try.prog (31 : Nat) [] []
    (AV.cons (1 : Nat) (AV.rf (1000 : Nat) (1 : Nat) (0 : Nat) r_1.fst)
    (AV.cons (1 : Nat) (AV.sc (Value.int IntKind.i64 r_1.snd.fst))
    (AV.cons (1 : Nat) (AV.sc (Value.int IntKind.i64 r_1.snd.snd.fst))
    (AV.cons (1 : Nat) (AV.sc (Value.bool r_1.snd.snd.snd.fst))
    (AV.cons (1 : Nat) (AV.sc (Value.int IntKind.i64 r_1.snd.snd.snd.snd.fst)) AV.nil)))))
    [((1000 : Nat), (3 : Nat),
    AV.ar r_1.snd.snd.snd.snd.snd.fst (1 : Nat) fun (i0 : Nat) =>
    AV.sc (Value.int IntKind.i64 (r_1.snd.snd.snd.snd.snd.snd i0)))]) ∧
    ((((0 : Nat) + r_1.fst ≤ r_1.snd.snd.snd.snd.snd.fst ∧ True ∧ True ∧ True ∧ True ∧ True) ∧ True) ∧ True) ∧
    ((True ∧ True) ∧ True) ∧
    True ∧
    True ∧
    ((0 : Nat) = (0 : Nat) ∧ True) ∧
    ∃ (r_2 : Nat × Int × Int × Bool × Int × Nat × (Nat → Int)),
    (True ∧
    True ∧
    Ok Proofs.Try.prog (31 : Nat) [] []
    (AV.cons (1 : Nat) (AV.rf (1000 : Nat) (1 : Nat) (0 : Nat) r_2.fst)
    (AV.cons (1 : Nat) (AV.sc (Value.int IntKind.i64 r_2.snd.fst))
    (AV.cons (1 : Nat) (AV.sc (Value.int IntKind.i64 r_2.snd.snd.fst))
    (AV.cons (1 : Nat) (AV.sc (Value.bool r_2.snd.snd.snd.fst))
    (AV.cons (1 : Nat) (AV.sc (Value.int IntKind.i64 r_2.snd.snd.snd.snd.fst)) AV.nil)))))
    [((1000 : Nat), (3 : Nat),
    AV.ar r_2.snd.snd.snd.snd.snd.fst (1 : Nat) fun (i0 : Nat) =>
    AV.sc (Value.int IntKind.i64 (r_2.snd.snd.snd.snd.snd.snd i0)))]) ∧
    True ∧
    ((0 : Nat) = (0 : Nat) ∧ True) ∧
    True ∧
    True ∧
    True ∧
    ((True ∧
    Sub (AV.sc (Value.string text)) (AV.sc (Value.string text)) ∧
    True ∧
    Sub (AV.pt (1000 : Nat) [] (0 : Nat)) (AV.pt (1000 : Nat) [] (0 : Nat)) ∧
    True ∧
    Sub (AV.pt (1001 : Nat) [] (0 : Nat)) (AV.pt (1001 : Nat) [] (0 : Nat)) ∧
    True ∧
    Sub (AV.pt (1002 : Nat) [] (0 : Nat)) (AV.pt (1002 : Nat) [] (0 : Nat)) ∧
    True ∧
    Sub
    (AV.vec true (3 : Nat) ln ln fun (i0 : Nat) =>
    AV.cons (1 : Nat) (AV.sc (Value.int IntKind.i64 (lfa i0)))
    (AV.cons (1 : Nat) (AV.sc (Value.int IntKind.i64 (lfba i0)))
    (AV.cons (1 : Nat)
    (AV.sc (Value.int IntKind.i64 (lfbba i0))) AV.nil)))
    (AV.vec true (3 : Nat) ln ln fun (i0 : Nat) =>
    AV.cons (1 : Nat) (AV.sc (Value.int IntKind.i64 (lfa i0)))
    (AV.cons (1 : Nat) (AV.sc (Value.int IntKind.i64 (lfba i0)))
    (AV.cons (1 : Nat)
    (AV.sc (Value.int IntKind.i64 (lfbba i0))) AV.nil))) ∧
    True ∧
    Sub (AV.sc (Value.int IntKind.i64 (↑ln : Int)))
    (AV.sc (Value.int IntKind.i64 (↑ln : Int))) ∧
    True ∧
    Sub (AV.sc (Value.int IntKind.i64 (0 : Int)))
    (AV.sc (Value.int IntKind.i64 (0 : Int))) ∧
    True) ∧
    (True ∧ True ∧ True ∧ True ∧ True) ∧
    SubB
    (AV.cons (1 : Nat) (AV.sc (Value.slice none (0 : Nat) (0 : Nat)))
    (AV.cons (1 : Nat) (AV.sc (Value.slice none (0 : Nat) (0 : Nat)))
    (AV.cons (1 : Nat) (AV.sc (Value.slice none (0 : Nat) (0 : Nat)))
    (AV.cons (1 : Nat) (AV.sc (Value.slice none (0 : Nat) (0 : Nat))) AV.nil))))
    (AV.cons (1 : Nat) (AV.sc (Value.slice none (0 : Nat) (0 : Nat)))
    (AV.cons (1 : Nat) (AV.sc (Value.slice none (0 : Nat) (0 : Nat)))
    (AV.cons (1 : Nat) (AV.sc (Value.slice none (0 : Nat) (0 : Nat)))
    (AV.cons (1 : Nat) (AV.sc (Value.slice none (0 : Nat) (0 : Nat)))
    AV.nil)))) ∧
    (True ∧ True ∧ True ∧ True ∧ True) ∧
    SubB
    (AV.cons (1 : Nat)
    (AV.vec false (3 : Nat) r.fst r.fst fun (i0 : Nat) =>
    AV.cons (1 : Nat) (AV.sc (Value.int IntKind.i64 (r.snd.fst i0)))
    (AV.cons (1 : Nat) (AV.sc (Value.int IntKind.i64 (r.snd.snd.fst i0)))
    (AV.cons (1 : Nat) (AV.sc (Value.int IntKind.i64 (r.snd.snd.snd i0)))
    AV.nil)))
    (AV.cons (1 : Nat) (AV.rf (1007 : Nat) (5 : Nat) (0 : Nat) (1 : Nat))
    (AV.cons (1 : Nat) (AV.rf (1008 : Nat) (1 : Nat) (0 : Nat) (1 : Nat))
    (AV.cons (1 : Nat) (AV.rf (1009 : Nat) (3 : Nat) (0 : Nat) (0 : Nat))
    AV.nil))))
    (AV.cons (1 : Nat)
    (AV.vec false (3 : Nat) r.fst r.fst fun (i0 : Nat) =>
    AV.cons (1 : Nat) (AV.sc (Value.int IntKind.i64 (r.snd.fst i0)))
    (AV.cons (1 : Nat) (AV.sc (Value.int IntKind.i64 (r.snd.snd.fst i0)))
    (AV.cons (1 : Nat) (AV.sc (Value.int IntKind.i64 (r.snd.snd.snd i0)))
    AV.nil)))
    (AV.cons (1 : Nat) (AV.rf (1007 : Nat) (5 : Nat) (0 : Nat) (1 : Nat))
    (AV.cons (1 : Nat) (AV.rf (1008 : Nat) (1 : Nat) (0 : Nat) (1 : Nat))
    (AV.cons (1 : Nat) (AV.rf (1009 : Nat) (3 : Nat) (0 : Nat) (0 : Nat))
    AV.nil)))) ∧
    (True ∧ True ∧ True ∧ True ∧ True ∧ True) ∧
    SubB
    (AV.cons (1 : Nat) (AV.rf (1010 : Nat) (1 : Nat) (0 : Nat) r_2.fst)
    (AV.cons (1 : Nat) (AV.sc (Value.int IntKind.i64 r_2.snd.fst))
    (AV.cons (1 : Nat) (AV.sc (Value.int IntKind.i64 r_2.snd.snd.fst))
    (AV.cons (1 : Nat) (AV.sc (Value.bool r_2.snd.snd.snd.fst))
    (AV.cons (1 : Nat)
    (AV.sc (Value.int IntKind.i64 r_2.snd.snd.snd.snd.fst))
    AV.nil)))))
    (AV.cons (1 : Nat) (AV.rf (1010 : Nat) (1 : Nat) (0 : Nat) r_2.fst)
    (AV.cons (1 : Nat) (AV.sc (Value.int IntKind.i64 r_2.snd.fst))
    (AV.cons (1 : Nat) (AV.sc (Value.int IntKind.i64 r_2.snd.snd.fst))
    (AV.cons (1 : Nat) (AV.sc (Value.bool r_2.snd.snd.snd.fst))
    (AV.cons (1 : Nat)
    (AV.sc (Value.int IntKind.i64 r_2.snd.snd.snd.snd.fst))
    AV.nil))))) ∧
    True ∧
    SubB
    (AV.ar (1 : Nat) (5 : Nat) fun (x : Nat) =>
    AV.cons (1 : Nat)
    (AV.vec false (1 : Nat) r_1.fst
    (r_1.snd.snd.snd.snd.snd.fst - (0 : Nat)) fun (i : Nat) =>
    AV.sc
    (Value.int IntKind.i64
    (r_1.snd.snd.snd.snd.snd.snd (plus (0 : Nat) i))))
    (AV.cons (1 : Nat) (AV.sc (Value.int IntKind.i64 r_1.snd.fst))
    (AV.cons (1 : Nat)
    (AV.sc (Value.int IntKind.i64 r_1.snd.snd.fst))
    (AV.cons (1 : Nat) (AV.sc (Value.bool r_1.snd.snd.snd.fst))
    (AV.cons (1 : Nat)
    (AV.sc (Value.int IntKind.i64 r_1.snd.snd.snd.snd.fst))
    AV.nil)))))
    (AV.ar (1 : Nat) (5 : Nat) fun (i0 : Nat) =>
    AV.cons (1 : Nat)
    (AV.vec false (1 : Nat) r_1.fst r_1.fst fun (i1 : Nat) =>
    AV.sc
    (Value.int IntKind.i64
    (r_1.snd.snd.snd.snd.snd.snd (plus (0 : Nat) i1))))
    (AV.cons (1 : Nat) (AV.sc (Value.int IntKind.i64 r_1.snd.fst))
    (AV.cons (1 : Nat)
    (AV.sc (Value.int IntKind.i64 r_1.snd.snd.fst))
    (AV.cons (1 : Nat) (AV.sc (Value.bool r_1.snd.snd.snd.fst))
    (AV.cons (1 : Nat)
    (AV.sc (Value.int IntKind.i64 r_1.snd.snd.snd.snd.fst))
    AV.nil))))) ∧
    True ∧
    SubB
    (AV.ar (1 : Nat) (1 : Nat) fun (x : Nat) =>
    AV.sc (Value.int IntKind.i64 (0 : Int)))
    (AV.ar (1 : Nat) (1 : Nat) fun (i0 : Nat) =>
    AV.sc (Value.int IntKind.i64 (0 : Int))) ∧
    True ∧
    SubB
    (AV.ar r_2.snd.snd.snd.snd.snd.fst (1 : Nat) fun (i0 : Nat) =>
    AV.sc
    (Value.int IntKind.i64 (r_2.snd.snd.snd.snd.snd.snd i0)))
    (AV.ar r_2.snd.snd.snd.snd.snd.fst (1 : Nat) fun (i0 : Nat) =>
    AV.sc
    (Value.int IntKind.i64
    (r_2.snd.snd.snd.snd.snd.snd i0))) ∧
    True) ∧
    L41_0 text ln lfa lfba lfbba (↑ln : Int) (0 : Int) r.fst r.snd.fst r.snd.snd.fst
    r.snd.snd.snd (1 : Nat) (1 : Nat) (0 : Nat) r_2.fst r_2.snd.fst r_2.snd.snd.fst
    r_2.snd.snd.snd.fst r_2.snd.snd.snd.snd.fst (1 : Nat) (fun (x : Nat) => r_1.fst)
    (fun (x i : Nat) => r_1.snd.snd.snd.snd.snd.snd (plus (0 : Nat) i))
    (fun (x : Nat) => r_1.snd.fst) (fun (x : Nat) => r_1.snd.snd.fst)
    (fun (x : Nat) => r_1.snd.snd.snd.fst) (fun (x : Nat) => r_1.snd.snd.snd.snd.fst)
    (1 : Nat) (fun (x : Nat) => (0 : Int)) r_2.snd.snd.snd.snd.snd.fst
    r_2.snd.snd.snd.snd.snd.snd (0 : Nat) (fun (i : Nat) => Int.ofNat (0 : Nat))
    (fun (i : Nat) => Int.ofNat (0 : Nat)) (fun (i : Nat) => Int.ofNat (0 : Nat)) res)) from
    ⟨trivial, ⟨trivial, ⟨trivial, ⟨trivial, ⟨trivial, ⟨trivial, (And.elim (fun h6 k6 => ⟨(fun x7 => (fun h7 => ⟨trivial, ⟨⟨rfl, trivial⟩, ⟨trivial, ⟨⟨⟨rfl, trivial⟩, ⟨trivial, trivial⟩⟩, ⟨⟨⟨⟨⟨trivial, ⟨trivial, ⟨trivial, ⟨trivial, trivial⟩⟩⟩⟩, ⟨trivial, trivial⟩⟩, ⟨Sub.refl _, trivial⟩⟩, trivial⟩, ((fun h13 => ⟨h13, trivial⟩) h7)⟩⟩⟩⟩⟩) (h6 x7)), (fun x7 => (fun h7 => ⟨trivial, ⟨trivial, ⟨trivial, (Exists.elim h7 fun x11 h11 => ⟨x11, (And.elim (fun h12 k12 => ⟨⟨⟨trivial, ⟨trivial, trivial⟩⟩, ⟨trivial, h12⟩⟩, ⟨trivial, ⟨trivial, (And.elim (fun h15 k15 => ⟨(fun x16 => (fun h16 => ⟨trivial, ⟨⟨rfl, trivial⟩, ⟨trivial, ⟨⟨⟨rfl, trivial⟩, ⟨trivial, trivial⟩⟩, ⟨⟨⟨⟨⟨trivial, ⟨trivial, ⟨trivial, ⟨trivial, trivial⟩⟩⟩⟩, ⟨trivial, trivial⟩⟩, ⟨Sub.refl _, trivial⟩⟩, trivial⟩, ((fun h22 => ⟨h22, trivial⟩) h16)⟩⟩⟩⟩⟩) (h15 x16)), (fun x16 => (fun h16 => ⟨trivial, (Exists.elim h16 fun x18 h18 => ⟨x18, (And.elim (fun h19 k19 => ⟨⟨⟨trivial, trivial⟩, ⟨trivial, h19⟩⟩, (Exists.elim k19 fun x20 h20 => ⟨x20, (And.elim (fun h21 k21 => ⟨⟨trivial, ⟨trivial, h21⟩⟩, (And.elim (fun h22 k22 => ⟨((fun h23 => ⟨((fun h24 => ⟨((fun h25 => ⟨h25, ⟨trivial, ⟨trivial, ⟨trivial, ⟨trivial, trivial⟩⟩⟩⟩⟩) h24), trivial⟩) h23), trivial⟩) h22), ⟨⟨⟨trivial, trivial⟩, trivial⟩, ⟨trivial, ⟨trivial, ⟨⟨rfl, trivial⟩, (Exists.elim k22 fun x27 h27 => ⟨x27, (And.elim (fun h28 k28 => ⟨⟨trivial, ⟨trivial, h28⟩⟩, ⟨trivial, ⟨⟨rfl, trivial⟩, ⟨trivial, ⟨trivial, ⟨trivial, (And.elim (fun h34 k34 => ⟨⟨⟨trivial, ⟨Sub.refl _, ⟨trivial, ⟨Sub.refl _, ⟨trivial, ⟨Sub.refl _, ⟨trivial, ⟨Sub.refl _, ⟨trivial, ⟨Sub.refl _, ⟨trivial, ⟨Sub.refl _, ⟨trivial, ⟨Sub.refl _, trivial⟩⟩⟩⟩⟩⟩⟩⟩⟩⟩⟩⟩⟩⟩, ⟨⟨trivial, ⟨trivial, ⟨trivial, ⟨trivial, trivial⟩⟩⟩⟩, ⟨SubB.refl _, ⟨⟨trivial, ⟨trivial, ⟨trivial, ⟨trivial, trivial⟩⟩⟩⟩, ⟨SubB.refl _, ⟨⟨trivial, ⟨trivial, ⟨trivial, ⟨trivial, ⟨trivial, trivial⟩⟩⟩⟩⟩, ⟨SubB.refl _, ⟨trivial, ((fun h43 => ⟨h43, ⟨trivial, ⟨SubB.refl _, ⟨trivial, ⟨SubB.refl _, trivial⟩⟩⟩⟩⟩) h34)⟩⟩⟩⟩⟩⟩⟩⟩, k34⟩) k28)⟩⟩⟩⟩⟩⟩) h27)⟩)⟩⟩⟩⟩⟩) k21)⟩) h20)⟩)⟩) h18)⟩)⟩) (k15 x16))⟩) k12)⟩⟩⟩) h11)⟩)⟩⟩⟩) (k6 x7))⟩) h)⟩⟩⟩⟩⟩⟩)
theorem r41_0 (text : ByteArray) (t31n : Nat) (t31fa : Nat → Int) (t31fba : Nat → Int) (t31fbba : Nat → Int) (t32 : Int) (t33 : Int) (b1an : Nat) (b1afa : Nat → Int) (b1afba : Nat → Int) (b1afbba : Nat → Int) (b1ban : Nat) (b1bban : Nat) (b1bbban : Nat) (b2an : Nat) (b2ba : Int) (b2bba : Int) (b2bbba : Bool) (b2bbbba : Int) (b7n : Nat) (b7fan : Nat → Nat) (b7faf : Nat → Nat → Int) (b7fba : Nat → Int) (b7fbba : Nat → Int) (b7fbbba : Nat → Bool) (b7fbbbba : Nat → Int) (b8n : Nat) (b8f : Nat → Int) (b10n : Nat) (b10f : Nat → Int) (b9n : Nat) (b9fa : Nat → Int) (b9fba : Nat → Int) (b9fbba : Nat → Int) (res : AV)
    (h : (decide (t33 < t32) = true →
    ((0 : Int) ≤ t33 ∧ t33 < (↑t31n : Int)) ∧
    ((0 : Int) ≤ (0 : Int) ∧ (0 : Int) ≤ t31fba t33.toNat ∧ t31fba t33.toNat ≤ (↑text.size : Int)) ∧
    ∃ (r : Nat × Int × Int × Bool × Int × Nat × Nat × (Nat → Int) × Nat × (Nat → Int) × (Nat → Int) × (Nat → Int)),
    ((0 : Nat) + b2an ≤ b10n ∧
    Ok Proofs.Try.prog (75 : Nat)
    [AV.cons (1 : Nat) (AV.vec true (1 : Nat) b2an (b10n - (0 : Nat)) fun (i : Nat) => AV.sc (Value.int IntKind.i64 (b10f (plus (0 : Nat) i))))
    (AV.cons (1 : Nat) (AV.sc (Value.int IntKind.i64 b2ba))
    (AV.cons (1 : Nat) (AV.sc (Value.int IntKind.i64 b2bba))
    (AV.cons (1 : Nat) (AV.sc (Value.bool b2bbba)) (AV.cons (1 : Nat) (AV.sc (Value.int IntKind.i64 b2bbbba)) AV.nil)))),
    AV.sc (Value.string (text.extract (Int.toNat (0 : Int)) (t31fba t33.toNat).toNat)),
    AV.cons (1 : Nat) (AV.sc (Value.int IntKind.i64 (t31fa t33.toNat)))
    (AV.cons (1 : Nat) (AV.sc (Value.int IntKind.i64 (t31fba t33.toNat)))
    (AV.cons (1 : Nat) (AV.sc (Value.int IntKind.i64 (t31fbba t33.toNat))) AV.nil))]
    []
    (AV.cons (5 : Nat)
    (AV.cons (1 : Nat) (AV.rf (1000 : Nat) (1 : Nat) (0 : Nat) r.fst)
    (AV.cons (1 : Nat) (AV.sc (Value.int IntKind.i64 r.snd.fst))
    (AV.cons (1 : Nat) (AV.sc (Value.int IntKind.i64 r.snd.snd.fst))
    (AV.cons (1 : Nat) (AV.sc (Value.bool r.snd.snd.snd.fst))
    (AV.cons (1 : Nat) (AV.sc (Value.int IntKind.i64 r.snd.snd.snd.snd.fst)) AV.nil)))))
    (AV.cons (1 : Nat) (AV.rf (1001 : Nat) (3 : Nat) (0 : Nat) r.snd.snd.snd.snd.snd.fst) AV.nil)).tup
    [((1000 : Nat), (3 : Nat),
    AV.ar r.snd.snd.snd.snd.snd.snd.fst (1 : Nat) fun (i0 : Nat) => AV.sc (Value.int IntKind.i64 (r.snd.snd.snd.snd.snd.snd.snd.fst i0))),
    ((1001 : Nat), (81 : Nat),
    AV.ar r.snd.snd.snd.snd.snd.snd.snd.snd.fst (3 : Nat) fun (i0 : Nat) =>
    AV.cons (1 : Nat) (AV.sc (Value.int IntKind.i64 (r.snd.snd.snd.snd.snd.snd.snd.snd.snd.fst i0)))
    (AV.cons (1 : Nat) (AV.sc (Value.int IntKind.i64 (r.snd.snd.snd.snd.snd.snd.snd.snd.snd.snd.fst i0)))
    (AV.cons (1 : Nat) (AV.sc (Value.int IntKind.i64 (r.snd.snd.snd.snd.snd.snd.snd.snd.snd.snd.snd i0))) AV.nil)))]) ∧
    ((0 : Int) ≤ t31fba t33.toNat ∧ t31fba t33.toNat ≤ (↑text.size : Int) ∧ (↑text.size : Int) ≤ (↑text.size : Int)) ∧
    (b1bbban ≤ b9n ∧
    (0 : Nat) + r.snd.snd.snd.snd.snd.fst ≤ r.snd.snd.snd.snd.snd.snd.snd.snd.fst ∧
    (b1bbban + r.snd.snd.snd.snd.snd.fst) * (24 : Nat) ≤ (140737488355328 : Nat) ∧ b1bbban + r.snd.snd.snd.snd.snd.fst ≤ maxLen) ∧
    (b1bban ≤ b8n ∧ (0 : Nat) + (1 : Nat) ≤ (1 : Nat) ∧ (b1bban + (1 : Nat)) * (8 : Nat) ≤ (140737488355328 : Nat) ∧ b1bban + (1 : Nat) ≤ maxLen) ∧
    ∃ (r_1 : Nat × Nat × (Nat → Int)),
    ((0 : Nat) + r.fst ≤ r.snd.snd.snd.snd.snd.snd.fst ∧
    Ok Proofs.Try.prog (76 : Nat)
    [AV.vec true (1 : Nat) r.fst (r.snd.snd.snd.snd.snd.snd.fst - (0 : Nat)) fun (i : Nat) =>
    AV.sc (Value.int IntKind.i64 (r.snd.snd.snd.snd.snd.snd.snd.fst (plus (0 : Nat) i)))]
    [] (AV.rf (1000 : Nat) (1 : Nat) (0 : Nat) r_1.fst)
    [((1000 : Nat), (3 : Nat), AV.ar r_1.snd.fst (1 : Nat) fun (i0 : Nat) => AV.sc (Value.int IntKind.i64 (r_1.snd.snd i0)))]) ∧
    (0 : Nat) + r_1.fst ≤ r_1.snd.fst ∧
    (b1ban ≤ b7n ∧
    (0 : Nat) + (1 : Nat) ≤ (1 : Nat) ∧ (b1ban + (1 : Nat)) * (56 : Nat) ≤ (140737488355328 : Nat) ∧ b1ban + (1 : Nat) ≤ maxLen) ∧
    SubB
    (AV.ar (b1ban + (1 : Nat)) (5 : Nat) fun (i : Nat) =>
    AV.cons (1 : Nat)
    (AV.vec false (1 : Nat) (bif i.blt b1ban then b7fan i else r_1.fst)
    (bif i.blt b1ban then b7fan i else r_1.snd.fst - (0 : Nat)) fun (i_1 : Nat) =>
    AV.sc (Value.int IntKind.i64 (bif i.blt b1ban then b7faf i i_1 else r_1.snd.snd (plus (0 : Nat) i_1))))
    (AV.cons (1 : Nat) (AV.sc (Value.int IntKind.i64 (bif i.blt b1ban then b7fba i else r.snd.fst)))
    (AV.cons (1 : Nat) (AV.sc (Value.int IntKind.i64 (bif i.blt b1ban then b7fbba i else r.snd.snd.fst)))
    (AV.cons (1 : Nat) (AV.sc (Value.bool (bif i.blt b1ban then b7fbbba i else r.snd.snd.snd.fst)))
    (AV.cons (1 : Nat) (AV.sc (Value.int IntKind.i64 (bif i.blt b1ban then b7fbbbba i else r.snd.snd.snd.snd.fst)))
    AV.nil)))))
    (AV.ar (b1ban + (1 : Nat)) (5 : Nat) fun (i0 : Nat) =>
    AV.cons (1 : Nat)
    (AV.vec false (1 : Nat) (bif i0.blt b1ban then b7fan i0 else r_1.fst) (bif i0.blt b1ban then b7fan i0 else r_1.fst)
    fun (i1 : Nat) => AV.sc (Value.int IntKind.i64 (bif i0.blt b1ban then b7faf i0 i1 else r_1.snd.snd (plus (0 : Nat) i1))))
    (AV.cons (1 : Nat) (AV.sc (Value.int IntKind.i64 (bif i0.blt b1ban then b7fba i0 else r.snd.fst)))
    (AV.cons (1 : Nat) (AV.sc (Value.int IntKind.i64 (bif i0.blt b1ban then b7fbba i0 else r.snd.snd.fst)))
    (AV.cons (1 : Nat) (AV.sc (Value.bool (bif i0.blt b1ban then b7fbbba i0 else r.snd.snd.snd.fst)))
    (AV.cons (1 : Nat) (AV.sc (Value.int IntKind.i64 (bif i0.blt b1ban then b7fbbbba i0 else r.snd.snd.snd.snd.fst)))
    AV.nil))))) ∧
    L41_0 (text.extract (t31fba t33.toNat).toNat (↑text.size : Int).toNat) t31n t31fa t31fba t31fbba t32
    (IntKind.i64.wrap (t33 + (1 : Int))) b1an b1afa b1afba b1afbba (b1ban + (1 : Nat)) (b1bban + (1 : Nat))
    (b1bbban + r.snd.snd.snd.snd.snd.fst) r.fst r.snd.fst r.snd.snd.fst r.snd.snd.snd.fst r.snd.snd.snd.snd.fst (b1ban + (1 : Nat))
    (fun (i : Nat) => bif i.blt b1ban then b7fan i else r_1.fst)
    (fun (i i_1 : Nat) => bif i.blt b1ban then b7faf i i_1 else r_1.snd.snd (plus (0 : Nat) i_1))
    (fun (i : Nat) => bif i.blt b1ban then b7fba i else r.snd.fst) (fun (i : Nat) => bif i.blt b1ban then b7fbba i else r.snd.snd.fst)
    (fun (i : Nat) => bif i.blt b1ban then b7fbbba i else r.snd.snd.snd.fst)
    (fun (i : Nat) => bif i.blt b1ban then b7fbbbba i else r.snd.snd.snd.snd.fst) (b1bban + (1 : Nat))
    (fun (i : Nat) => bif i.blt b1bban then b8f i else (↑(b1bbban + r.snd.snd.snd.snd.snd.fst) : Int)) r.snd.snd.snd.snd.snd.snd.fst
    r.snd.snd.snd.snd.snd.snd.snd.fst (b1bbban + r.snd.snd.snd.snd.snd.fst)
    (fun (i : Nat) => bif i.blt b1bbban then b9fa i else r.snd.snd.snd.snd.snd.snd.snd.snd.snd.fst ((0 : Nat) + (i - b1bbban)))
    (fun (i : Nat) => bif i.blt b1bbban then b9fba i else r.snd.snd.snd.snd.snd.snd.snd.snd.snd.snd.fst ((0 : Nat) + (i - b1bbban)))
    (fun (i : Nat) => bif i.blt b1bbban then b9fbba i else r.snd.snd.snd.snd.snd.snd.snd.snd.snd.snd.snd ((0 : Nat) + (i - b1bbban)))
    res) ∧
  (decide (t33 < t32) = false →
    ∃ (r : Nat × (Nat → Int) × (Nat → Int) × (Nat → Int)),
    ((0 : Nat) + b2an ≤ b10n ∧
    Ok Proofs.Try.prog (36 : Nat)
    [AV.cons (1 : Nat) (AV.vec true (1 : Nat) b2an (b10n - (0 : Nat)) fun (i : Nat) => AV.sc (Value.int IntKind.i64 (b10f (plus (0 : Nat) i))))
    (AV.cons (1 : Nat) (AV.sc (Value.int IntKind.i64 b2ba))
    (AV.cons (1 : Nat) (AV.sc (Value.int IntKind.i64 b2bba))
    (AV.cons (1 : Nat) (AV.sc (Value.bool b2bbba)) (AV.cons (1 : Nat) (AV.sc (Value.int IntKind.i64 b2bbbba)) AV.nil))))]
    []
    (AV.vec false (3 : Nat) r.fst r.fst fun (i0 : Nat) =>
    AV.cons (1 : Nat) (AV.sc (Value.int IntKind.i64 (r.snd.fst i0)))
    (AV.cons (1 : Nat) (AV.sc (Value.int IntKind.i64 (r.snd.snd.fst i0)))
    (AV.cons (1 : Nat) (AV.sc (Value.int IntKind.i64 (r.snd.snd.snd i0))) AV.nil)))
    []) ∧
    (b1bbban ≤ b9n ∧ (b1bbban + r.fst) * (24 : Nat) ≤ (140737488355328 : Nat) ∧ b1bbban + r.fst ≤ maxLen) ∧
    (((0 : Nat) + b1ban ≤ b7n ∧ (0 : Nat) + b1bban ≤ b8n ∧ (0 : Nat) + (b1bbban + r.fst) ≤ b1bbban + r.fst) ∧
    Sub
    (AV.cons (1 : Nat)
    (AV.cons (1 : Nat)
    (AV.vec false (3 : Nat) b1an b1an fun (i0 : Nat) =>
    AV.cons (1 : Nat) (AV.sc (Value.int IntKind.i64 (b1afa i0)))
    (AV.cons (1 : Nat) (AV.sc (Value.int IntKind.i64 (b1afba i0)))
    (AV.cons (1 : Nat) (AV.sc (Value.int IntKind.i64 (b1afbba i0))) AV.nil)))
    (AV.cons (1 : Nat)
    (AV.vec false (5 : Nat) b1ban (b7n - (0 : Nat)) fun (i : Nat) =>
    AV.cons (1 : Nat)
    (AV.vec false (1 : Nat) (b7fan (plus (0 : Nat) i)) (b7fan (plus (0 : Nat) i)) fun (i1 : Nat) =>
    AV.sc (Value.int IntKind.i64 (b7faf (plus (0 : Nat) i) i1)))
    (AV.cons (1 : Nat) (AV.sc (Value.int IntKind.i64 (b7fba (plus (0 : Nat) i))))
    (AV.cons (1 : Nat) (AV.sc (Value.int IntKind.i64 (b7fbba (plus (0 : Nat) i))))
    (AV.cons (1 : Nat) (AV.sc (Value.bool (b7fbbba (plus (0 : Nat) i))))
    (AV.cons (1 : Nat) (AV.sc (Value.int IntKind.i64 (b7fbbbba (plus (0 : Nat) i)))) AV.nil)))))
    (AV.cons (1 : Nat)
    (AV.vec false (1 : Nat) b1bban (b8n - (0 : Nat)) fun (i : Nat) => AV.sc (Value.int IntKind.i64 (b8f (plus (0 : Nat) i))))
    (AV.cons (1 : Nat)
    (AV.vec false (3 : Nat) (b1bbban + r.fst) (b1bbban + r.fst - (0 : Nat)) fun (i : Nat) =>
    AV.cons (1 : Nat)
    (AV.sc
    (Value.int IntKind.i64
    (bif (plus (0 : Nat) i).blt b1bbban then b9fa (plus (0 : Nat) i) else r.snd.fst (plus (0 : Nat) i - b1bbban))))
    (AV.cons (1 : Nat)
    (AV.sc
    (Value.int IntKind.i64
    (bif (plus (0 : Nat) i).blt b1bbban then b9fba (plus (0 : Nat) i) else r.snd.snd.fst (plus (0 : Nat) i - b1bbban))))
    (AV.cons (1 : Nat)
    (AV.sc
    (Value.int IntKind.i64
    (bif (plus (0 : Nat) i).blt b1bbban then b9fbba (plus (0 : Nat) i) else r.snd.snd.snd (plus (0 : Nat) i - b1bbban))))
    AV.nil)))
    AV.nil))))
    (AV.cons (1 : Nat) (AV.sc (Value.int IntKind.i64 (0 : Int))) AV.nil)).tup
    (AV.cons (1 : Nat)
    (AV.cons (1 : Nat)
    (AV.vec false (3 : Nat) b1an b1an fun (i0 : Nat) =>
    AV.cons (1 : Nat) (AV.sc (Value.int IntKind.i64 (b1afa i0)))
    (AV.cons (1 : Nat) (AV.sc (Value.int IntKind.i64 (b1afba i0)))
    (AV.cons (1 : Nat) (AV.sc (Value.int IntKind.i64 (b1afbba i0))) AV.nil)))
    (AV.cons (1 : Nat)
    (AV.vec false (5 : Nat) b1ban b1ban fun (i : Nat) =>
    AV.cons (1 : Nat)
    (AV.vec false (1 : Nat) (b7fan (plus (0 : Nat) i)) (b7fan (plus (0 : Nat) i)) fun (i1 : Nat) =>
    AV.sc (Value.int IntKind.i64 (b7faf (plus (0 : Nat) i) i1)))
    (AV.cons (1 : Nat) (AV.sc (Value.int IntKind.i64 (b7fba (plus (0 : Nat) i))))
    (AV.cons (1 : Nat) (AV.sc (Value.int IntKind.i64 (b7fbba (plus (0 : Nat) i))))
    (AV.cons (1 : Nat) (AV.sc (Value.bool (b7fbbba (plus (0 : Nat) i))))
    (AV.cons (1 : Nat) (AV.sc (Value.int IntKind.i64 (b7fbbbba (plus (0 : Nat) i)))) AV.nil)))))
    (AV.cons (1 : Nat) (AV.vec false (1 : Nat) b1bban b1bban fun (i : Nat) => AV.sc (Value.int IntKind.i64 (b8f (plus (0 : Nat) i))))
    (AV.cons (1 : Nat)
    (AV.vec false (3 : Nat) (b1bbban + r.fst) (b1bbban + r.fst) fun (i : Nat) =>
    AV.cons (1 : Nat)
    (AV.sc
    (Value.int IntKind.i64
    (bif (plus (0 : Nat) i).blt b1bbban then b9fa (plus (0 : Nat) i) else r.snd.fst (plus (0 : Nat) i - b1bbban))))
    (AV.cons (1 : Nat)
    (AV.sc
    (Value.int IntKind.i64
    (bif (plus (0 : Nat) i).blt b1bbban then b9fba (plus (0 : Nat) i) else r.snd.snd.fst (plus (0 : Nat) i - b1bbban))))
    (AV.cons (1 : Nat)
    (AV.sc
    (Value.int IntKind.i64
    (bif (plus (0 : Nat) i).blt b1bbban then b9fbba (plus (0 : Nat) i) else r.snd.snd.snd (plus (0 : Nat) i - b1bbban))))
    AV.nil)))
    AV.nil))))
    (AV.cons (1 : Nat) (AV.sc (Value.int IntKind.i64 (0 : Int))) AV.nil)).tup) ∧
    Sub
    (AV.cons (1 : Nat)
    (AV.cons (1 : Nat)
    (AV.vec false (3 : Nat) b1an b1an fun (i0 : Nat) =>
    AV.cons (1 : Nat) (AV.sc (Value.int IntKind.i64 (b1afa i0)))
    (AV.cons (1 : Nat) (AV.sc (Value.int IntKind.i64 (b1afba i0))) (AV.cons (1 : Nat) (AV.sc (Value.int IntKind.i64 (b1afbba i0))) AV.nil)))
    (AV.cons (1 : Nat)
    (AV.vec false (5 : Nat) b1ban b1ban fun (i : Nat) =>
    AV.cons (1 : Nat)
    (AV.vec false (1 : Nat) (b7fan (plus (0 : Nat) i)) (b7fan (plus (0 : Nat) i)) fun (i1 : Nat) =>
    AV.sc (Value.int IntKind.i64 (b7faf (plus (0 : Nat) i) i1)))
    (AV.cons (1 : Nat) (AV.sc (Value.int IntKind.i64 (b7fba (plus (0 : Nat) i))))
    (AV.cons (1 : Nat) (AV.sc (Value.int IntKind.i64 (b7fbba (plus (0 : Nat) i))))
    (AV.cons (1 : Nat) (AV.sc (Value.bool (b7fbbba (plus (0 : Nat) i))))
    (AV.cons (1 : Nat) (AV.sc (Value.int IntKind.i64 (b7fbbbba (plus (0 : Nat) i)))) AV.nil)))))
    (AV.cons (1 : Nat) (AV.vec false (1 : Nat) b1bban b1bban fun (i : Nat) => AV.sc (Value.int IntKind.i64 (b8f (plus (0 : Nat) i))))
    (AV.cons (1 : Nat)
    (AV.vec false (3 : Nat) (b1bbban + r.fst) (b1bbban + r.fst) fun (i : Nat) =>
    AV.cons (1 : Nat)
    (AV.sc
    (Value.int IntKind.i64
    (bif (plus (0 : Nat) i).blt b1bbban then b9fa (plus (0 : Nat) i) else r.snd.fst (plus (0 : Nat) i - b1bbban))))
    (AV.cons (1 : Nat)
    (AV.sc
    (Value.int IntKind.i64
    (bif (plus (0 : Nat) i).blt b1bbban then b9fba (plus (0 : Nat) i) else r.snd.snd.fst (plus (0 : Nat) i - b1bbban))))
    (AV.cons (1 : Nat)
    (AV.sc
    (Value.int IntKind.i64
    (bif (plus (0 : Nat) i).blt b1bbban then b9fbba (plus (0 : Nat) i) else r.snd.snd.snd (plus (0 : Nat) i - b1bbban))))
    AV.nil)))
    AV.nil))))
    (AV.cons (1 : Nat) (AV.sc (Value.int IntKind.i64 (0 : Int))) AV.nil)).tup
    res)) :
    L41_0 text t31n t31fa t31fba t31fbba t32 t33 b1an b1afa b1afba b1afbba b1ban b1bban b1bbban b2an b2ba b2bba b2bbba b2bbbba b7n b7fan b7faf b7fba b7fbba b7fbbba b7fbbbba b8n b8f b10n b10f b9n b9fa b9fba b9fbba res :=
  rule Go.Am.Seat.tabOk 41 [] Go.Proofs.Try.f41 hf41 [1, 1, 1, 1, 0, 1, 0, 0] (s41_0 text t31n t31fa t31fba t31fbba t32 t33 b1an b1afa b1afba b1afbba b1ban b1bban b1bbban b2an b2ba b2bba b2bbba b2bbbba b7n b7fan b7faf b7fba b7fbba b7fbbba b7fbbbba b8n b8f b10n b10f b9n b9fa b9fba b9fbba) (m41_0 text t31n t31fa t31fba t31fbba t32 t33 b1an b1afa b1afba b1afbba b1ban b1bban b1bbban b2an b2ba b2bba b2bbba b2bbbba b7n b7fan b7faf b7fba b7fbba b7fbbba b7fbbbba b8n b8f b10n b10f b9n b9fa b9fba b9fbba) res [] 400
    ((Orc.call [] [((100440 : Nat), (1000 : Nat)), ((100441 : Nat), (1001 : Nat))]
    (fun (r75 : Nat × Int × Int × Bool × Int × Nat × Nat × (Nat → Int) × Nat × (Nat → Int) × (Nat → Int) × (Nat → Int)) =>
    (AV.cons (5 : Nat)
    (AV.cons (1 : Nat) (AV.rf (1000 : Nat) (1 : Nat) (0 : Nat) r75.fst)
    (AV.cons (1 : Nat) (AV.sc (Value.int IntKind.i64 r75.snd.fst))
    (AV.cons (1 : Nat) (AV.sc (Value.int IntKind.i64 r75.snd.snd.fst))
    (AV.cons (1 : Nat) (AV.sc (Value.bool r75.snd.snd.snd.fst))
    (AV.cons (1 : Nat) (AV.sc (Value.int IntKind.i64 r75.snd.snd.snd.snd.fst)) AV.nil)))))
    (AV.cons (1 : Nat) (AV.rf (1001 : Nat) (3 : Nat) (0 : Nat) r75.snd.snd.snd.snd.snd.fst) AV.nil)).tup)
    (fun (r75 : Nat × Int × Int × Bool × Int × Nat × Nat × (Nat → Int) × Nat × (Nat → Int) × (Nat → Int) × (Nat → Int)) =>
    [((1000 : Nat), (3 : Nat),
    AV.ar r75.snd.snd.snd.snd.snd.snd.fst (1 : Nat) fun (i0 : Nat) => AV.sc (Value.int IntKind.i64 (r75.snd.snd.snd.snd.snd.snd.snd.fst i0))),
    ((1001 : Nat), (81 : Nat),
    AV.ar r75.snd.snd.snd.snd.snd.snd.snd.snd.fst (3 : Nat) fun (i0 : Nat) =>
    AV.cons (1 : Nat) (AV.sc (Value.int IntKind.i64 (r75.snd.snd.snd.snd.snd.snd.snd.snd.snd.fst i0)))
    (AV.cons (1 : Nat) (AV.sc (Value.int IntKind.i64 (r75.snd.snd.snd.snd.snd.snd.snd.snd.snd.snd.fst i0)))
    (AV.cons (1 : Nat) (AV.sc (Value.int IntKind.i64 (r75.snd.snd.snd.snd.snd.snd.snd.snd.snd.snd.snd i0))) AV.nil)))])
    fun (r75 : Nat × Int × Int × Bool × Int × Nat × Nat × (Nat → Int) × Nat × (Nat → Int) × (Nat → Int) × (Nat → Int)) =>
    Orc.call [] [((100670 : Nat), (1000 : Nat))] (fun (r76 : Nat × Nat × (Nat → Int)) => AV.rf (1000 : Nat) (1 : Nat) (0 : Nat) r76.fst)
    (fun (r76 : Nat × Nat × (Nat → Int)) =>
    [((1000 : Nat), (3 : Nat), AV.ar r76.snd.fst (1 : Nat) fun (i0 : Nat) => AV.sc (Value.int IntKind.i64 (r76.snd.snd i0)))])
    fun (r76 : Nat × Nat × (Nat → Int)) =>
    Orc.cut (nat_lit 4)
    (s41_0 (text.extract (IntKind.i64, t31fba t33.toNat).snd.toNat (↑text.size : Int).toNat) t31n t31fa t31fba t31fbba t32
    (IntKind.i64.wrap (t33 + (1 : Int))) b1an b1afa b1afba b1afbba (b1ban + (1 : Nat)) (b1bban + (1 : Nat)) (b1bbban + r75.snd.snd.snd.snd.snd.fst)
    r75.fst r75.snd.fst r75.snd.snd.fst r75.snd.snd.snd.fst r75.snd.snd.snd.snd.fst (b1ban + (1 : Nat))
    (fun (i : Nat) => bif i.blt b1ban then b7fan i else r76.fst)
    (fun (i i_1 : Nat) => bif i.blt b1ban then b7faf i i_1 else r76.snd.snd (plus (0 : Nat) i_1))
    (fun (i : Nat) => bif i.blt b1ban then b7fba i else r75.snd.fst) (fun (i : Nat) => bif i.blt b1ban then b7fbba i else r75.snd.snd.fst)
    (fun (i : Nat) => bif i.blt b1ban then b7fbbba i else r75.snd.snd.snd.fst)
    (fun (i : Nat) => bif i.blt b1ban then b7fbbbba i else r75.snd.snd.snd.snd.fst) (b1bban + (1 : Nat))
    (fun (i : Nat) => bif i.blt b1bban then b8f i else (↑(b1bbban + r75.snd.snd.snd.snd.snd.fst) : Int)) r75.snd.snd.snd.snd.snd.snd.fst
    r75.snd.snd.snd.snd.snd.snd.snd.fst (b1bbban + r75.snd.snd.snd.snd.snd.fst)
    (fun (i : Nat) => bif i.blt b1bbban then b9fa i else r75.snd.snd.snd.snd.snd.snd.snd.snd.snd.fst ((0 : Nat) + (i - b1bbban)))
    (fun (i : Nat) => bif i.blt b1bbban then b9fba i else r75.snd.snd.snd.snd.snd.snd.snd.snd.snd.snd.fst ((0 : Nat) + (i - b1bbban))) fun (i : Nat) =>
    bif i.blt b1bbban then b9fbba i else r75.snd.snd.snd.snd.snd.snd.snd.snd.snd.snd.snd ((0 : Nat) + (i - b1bbban)))
    (m41_0 (text.extract (IntKind.i64, t31fba t33.toNat).snd.toNat (↑text.size : Int).toNat) t31n t31fa t31fba t31fbba t32
    (IntKind.i64.wrap (t33 + (1 : Int))) b1an b1afa b1afba b1afbba (b1ban + (1 : Nat)) (b1bban + (1 : Nat)) (b1bbban + r75.snd.snd.snd.snd.snd.fst)
    r75.fst r75.snd.fst r75.snd.snd.fst r75.snd.snd.snd.fst r75.snd.snd.snd.snd.fst (b1ban + (1 : Nat))
    (fun (i : Nat) => bif i.blt b1ban then b7fan i else r76.fst)
    (fun (i i_1 : Nat) => bif i.blt b1ban then b7faf i i_1 else r76.snd.snd (plus (0 : Nat) i_1))
    (fun (i : Nat) => bif i.blt b1ban then b7fba i else r75.snd.fst) (fun (i : Nat) => bif i.blt b1ban then b7fbba i else r75.snd.snd.fst)
    (fun (i : Nat) => bif i.blt b1ban then b7fbbba i else r75.snd.snd.snd.fst)
    (fun (i : Nat) => bif i.blt b1ban then b7fbbbba i else r75.snd.snd.snd.snd.fst) (b1bban + (1 : Nat))
    (fun (i : Nat) => bif i.blt b1bban then b8f i else (↑(b1bbban + r75.snd.snd.snd.snd.snd.fst) : Int)) r75.snd.snd.snd.snd.snd.snd.fst
    r75.snd.snd.snd.snd.snd.snd.snd.fst (b1bbban + r75.snd.snd.snd.snd.snd.fst)
    (fun (i : Nat) => bif i.blt b1bbban then b9fa i else r75.snd.snd.snd.snd.snd.snd.snd.snd.snd.fst ((0 : Nat) + (i - b1bbban)))
    (fun (i : Nat) => bif i.blt b1bbban then b9fba i else r75.snd.snd.snd.snd.snd.snd.snd.snd.snd.snd.fst ((0 : Nat) + (i - b1bbban))) fun (i : Nat) =>
    bif i.blt b1bbban then b9fbba i else r75.snd.snd.snd.snd.snd.snd.snd.snd.snd.snd.snd ((0 : Nat) + (i - b1bbban)))
    [((1000 : Nat), some (1000 : Nat)), ((1001 : Nat), some (1001 : Nat)), ((1002 : Nat), some (1002 : Nat)), ((1007 : Nat), some (73 : Nat)),
    ((1008 : Nat), some (62 : Nat)), ((1010 : Nat), some (100440 : Nat)), ((1009 : Nat), some (54 : Nat))]).br
  (Orc.call [] []
    (fun (r36 : Nat × (Nat → Int) × (Nat → Int) × (Nat → Int)) =>
    AV.vec false (3 : Nat) r36.fst r36.fst fun (i0 : Nat) =>
    AV.cons (1 : Nat) (AV.sc (Value.int IntKind.i64 (r36.snd.fst i0)))
    (AV.cons (1 : Nat) (AV.sc (Value.int IntKind.i64 (r36.snd.snd.fst i0)))
    (AV.cons (1 : Nat) (AV.sc (Value.int IntKind.i64 (r36.snd.snd.snd i0))) AV.nil)))
    (fun (r36 : Nat × (Nat → Int) × (Nat → Int) × (Nat → Int)) => []) fun (r36 : Nat × (Nat → Int) × (Nat → Int) × (Nat → Int)) =>
    Orc.fin
    (AV.cons (1 : Nat)
    (AV.cons (1 : Nat)
    (AV.vec false (3 : Nat) b1an b1an fun (i0 : Nat) =>
    AV.cons (1 : Nat) (AV.sc (Value.int IntKind.i64 (b1afa i0)))
    (AV.cons (1 : Nat) (AV.sc (Value.int IntKind.i64 (b1afba i0))) (AV.cons (1 : Nat) (AV.sc (Value.int IntKind.i64 (b1afbba i0))) AV.nil)))
    (AV.cons (1 : Nat)
    (AV.vec false (5 : Nat) b1ban b1ban fun (i : Nat) =>
    AV.cons (1 : Nat)
    (AV.vec false (1 : Nat) (b7fan (plus (0 : Nat) i)) (b7fan (plus (0 : Nat) i)) fun (i1 : Nat) =>
    AV.sc (Value.int IntKind.i64 (b7faf (plus (0 : Nat) i) i1)))
    (AV.cons (1 : Nat) (AV.sc (Value.int IntKind.i64 (b7fba (plus (0 : Nat) i))))
    (AV.cons (1 : Nat) (AV.sc (Value.int IntKind.i64 (b7fbba (plus (0 : Nat) i))))
    (AV.cons (1 : Nat) (AV.sc (Value.bool (b7fbbba (plus (0 : Nat) i))))
    (AV.cons (1 : Nat) (AV.sc (Value.int IntKind.i64 (b7fbbbba (plus (0 : Nat) i)))) AV.nil)))))
    (AV.cons (1 : Nat) (AV.vec false (1 : Nat) b1bban b1bban fun (i : Nat) => AV.sc (Value.int IntKind.i64 (b8f (plus (0 : Nat) i))))
    (AV.cons (1 : Nat)
    (AV.vec false (3 : Nat) (b1bbban + r36.fst) (b1bbban + r36.fst) fun (i : Nat) =>
    AV.cons (1 : Nat)
    (AV.sc
    (Value.int IntKind.i64 (bif (plus (0 : Nat) i).blt b1bbban then b9fa (plus (0 : Nat) i) else r36.snd.fst (plus (0 : Nat) i - b1bbban))))
    (AV.cons (1 : Nat)
    (AV.sc
    (Value.int IntKind.i64
    (bif (plus (0 : Nat) i).blt b1bbban then b9fba (plus (0 : Nat) i) else r36.snd.snd.fst (plus (0 : Nat) i - b1bbban))))
    (AV.cons (1 : Nat)
    (AV.sc
    (Value.int IntKind.i64
    (bif (plus (0 : Nat) i).blt b1bbban then b9fbba (plus (0 : Nat) i) else r36.snd.snd.snd (plus (0 : Nat) i - b1bbban))))
    AV.nil)))
    AV.nil))))
    (AV.cons (1 : Nat) (AV.sc (Value.int IntKind.i64 (0 : Int))) AV.nil)).tup
    [] [])) _ _ (by kernel_rfl) (by kernel_rfl) (show True ∧
  (decide (t33 < t32) = true →
    ((0 : Int) ≤ t33 ∧ t33 < (↑t31n : Int)) ∧
    True ∧
    True ∧
    ((0 : Nat) = (0 : Nat) ∧ True) ∧
    True ∧
    ((0 : Nat) = (0 : Nat) ∧ True) ∧
    True ∧
    True ∧
    ((1 : Nat) + (0 : Nat) = plus (0 : Nat) (1 : Nat) ∧ True) ∧
    ((0 : Int) ≤ (0 : Int) ∧ (0 : Int) ≤ t31fba t33.toNat ∧ t31fba t33.toNat ≤ (↑text.size : Int)) ∧
    ((0 : Nat) = (0 : Nat) ∧ True) ∧
    ∃ (r : Nat × Int × Int × Bool × Int × Nat × Nat × (Nat → Int) × Nat × (Nat → Int) × (Nat → Int) × (Nat → Int)),
    ((((0 : Nat) + b2an ≤ b10n ∧ True ∧ True ∧ True ∧ True ∧ True) ∧ True ∧ (True ∧ True ∧ True ∧ True) ∧ True) ∧
    True ∧
    Ok Proofs.Try.prog (75 : Nat)
    [AV.cons (1 : Nat)
    (AV.vec true (1 : Nat) b2an (b10n - (0 : Nat)) fun (i : Nat) =>
    AV.sc (Value.int IntKind.i64 (b10f (plus (0 : Nat) i))))
    (AV.cons (1 : Nat) (AV.sc (Value.int IntKind.i64 b2ba))
    (AV.cons (1 : Nat) (AV.sc (Value.int IntKind.i64 b2bba))
    (AV.cons (1 : Nat) (AV.sc (Value.bool b2bbba))
    (AV.cons (1 : Nat) (AV.sc (Value.int IntKind.i64 b2bbbba)) AV.nil)))),
    AV.sc (Value.string (text.extract (Int.toNat (0 : Int)) (t31fba t33.toNat).toNat)),
    AV.cons (1 : Nat) (AV.sc (Value.int IntKind.i64 (t31fa t33.toNat)))
    (AV.cons (1 : Nat) (AV.sc (Value.int IntKind.i64 (t31fba t33.toNat)))
    (AV.cons (1 : Nat) (AV.sc (Value.int IntKind.i64 (t31fbba t33.toNat))) AV.nil))]
    []
    (AV.cons (5 : Nat)
    (AV.cons (1 : Nat) (AV.rf (1000 : Nat) (1 : Nat) (0 : Nat) r.fst)
    (AV.cons (1 : Nat) (AV.sc (Value.int IntKind.i64 r.snd.fst))
    (AV.cons (1 : Nat) (AV.sc (Value.int IntKind.i64 r.snd.snd.fst))
    (AV.cons (1 : Nat) (AV.sc (Value.bool r.snd.snd.snd.fst))
    (AV.cons (1 : Nat) (AV.sc (Value.int IntKind.i64 r.snd.snd.snd.snd.fst)) AV.nil)))))
    (AV.cons (1 : Nat) (AV.rf (1001 : Nat) (3 : Nat) (0 : Nat) r.snd.snd.snd.snd.snd.fst) AV.nil)).tup
    [((1000 : Nat), (3 : Nat),
    AV.ar r.snd.snd.snd.snd.snd.snd.fst (1 : Nat) fun (i0 : Nat) =>
    AV.sc (Value.int IntKind.i64 (r.snd.snd.snd.snd.snd.snd.snd.fst i0))),
    ((1001 : Nat), (81 : Nat),
    AV.ar r.snd.snd.snd.snd.snd.snd.snd.snd.fst (3 : Nat) fun (i0 : Nat) =>
    AV.cons (1 : Nat) (AV.sc (Value.int IntKind.i64 (r.snd.snd.snd.snd.snd.snd.snd.snd.snd.fst i0)))
    (AV.cons (1 : Nat) (AV.sc (Value.int IntKind.i64 (r.snd.snd.snd.snd.snd.snd.snd.snd.snd.snd.fst i0)))
    (AV.cons (1 : Nat) (AV.sc (Value.int IntKind.i64 (r.snd.snd.snd.snd.snd.snd.snd.snd.snd.snd.snd i0)))
    AV.nil)))]) ∧
    True ∧
    True ∧
    True ∧
    ((0 : Nat) = (0 : Nat) ∧ True) ∧
    True ∧
    True ∧
    True ∧
    ((1 : Nat) + (0 : Nat) = plus (0 : Nat) (1 : Nat) ∧ True) ∧
    ((0 : Int) ≤ t31fba t33.toNat ∧
    t31fba t33.toNat ≤ (↑text.size : Int) ∧ (↑text.size : Int) ≤ (↑text.size : Int)) ∧
    True ∧
    True ∧
    ((1 : Nat) + ((1 : Nat) + ((1 : Nat) + (0 : Nat))) = plus (0 : Nat) (3 : Nat) ∧ True) ∧
    True ∧
    (b1bbban ≤ b9n ∧
    ((0 : Nat) + r.snd.snd.snd.snd.snd.fst ≤ r.snd.snd.snd.snd.snd.snd.snd.snd.fst ∧
    (3 : Nat) = (3 : Nat)) ∧
    (b1bbban + r.snd.snd.snd.snd.snd.fst) * (24 : Nat) ≤ (140737488355328 : Nat) ∧
    b1bbban + r.snd.snd.snd.snd.snd.fst ≤ maxLen) ∧
    True ∧
    ((1 : Nat) + ((1 : Nat) + ((1 : Nat) + (0 : Nat))) = plus (0 : Nat) (3 : Nat) ∧ True) ∧
    True ∧
    ((1 : Nat) + ((1 : Nat) + (0 : Nat)) = plus (0 : Nat) (2 : Nat) ∧ True) ∧
    True ∧
    ((1 : Nat) + ((1 : Nat) + ((1 : Nat) + (0 : Nat))) = plus (0 : Nat) (3 : Nat) ∧ True) ∧
    True ∧
    ((True ∧ True) ∧ True) ∧
    (b1bban ≤ b8n ∧
    ((0 : Nat) + (1 : Nat) ≤ (1 : Nat) ∧ (1 : Nat) = (1 : Nat)) ∧
    (b1bban + (1 : Nat)) * (8 : Nat) ≤ (140737488355328 : Nat) ∧
    b1bban + (1 : Nat) ≤ maxLen) ∧
    True ∧
    ((1 : Nat) + ((1 : Nat) + (0 : Nat)) = plus (0 : Nat) (2 : Nat) ∧ True) ∧
    ((0 : Nat) = (0 : Nat) ∧ True) ∧
    True ∧
    ((0 : Nat) = (0 : Nat) ∧ True) ∧
    True ∧
    ((0 : Nat) = plus (0 : Nat) (0 : Nat) ∧ True) ∧
    ∃ (r_1 : Nat × Nat × (Nat → Int)),
    (((0 : Nat) + r.fst ≤ r.snd.snd.snd.snd.snd.snd.fst ∧ True) ∧
    True ∧
    Ok Proofs.Try.prog (76 : Nat)
    [AV.vec true (1 : Nat) r.fst
    (r.snd.snd.snd.snd.snd.snd.fst - (0 : Nat))
    fun (i : Nat) =>
    AV.sc
    (Value.int IntKind.i64
    (r.snd.snd.snd.snd.snd.snd.snd.fst
    (plus (0 : Nat) i)))]
    [] (AV.rf (1000 : Nat) (1 : Nat) (0 : Nat) r_1.fst)
    [((1000 : Nat), (3 : Nat),
    AV.ar r_1.snd.fst (1 : Nat) fun (i0 : Nat) =>
    AV.sc (Value.int IntKind.i64 (r_1.snd.snd i0)))]) ∧
    True ∧
    ((0 : Nat) = plus (0 : Nat) (0 : Nat) ∧ True) ∧
    True ∧
    ((1 : Nat) + (0 : Nat) = plus (0 : Nat) (1 : Nat) ∧
    True) ∧
    ((0 : Nat) = (0 : Nat) ∧ True) ∧
    ((((0 : Nat) + r_1.fst ≤ r_1.snd.fst ∧
    True ∧ True ∧ True ∧ True ∧ True) ∧
    True) ∧
    True) ∧
    (b1ban ≤ b7n ∧
    ((0 : Nat) + (1 : Nat) ≤ (1 : Nat) ∧
    (5 : Nat) = (5 : Nat)) ∧
    (b1ban + (1 : Nat)) * (56 : Nat) ≤
    (140737488355328 : Nat) ∧
    b1ban + (1 : Nat) ≤ maxLen) ∧
    True ∧
    ((1 : Nat) + (0 : Nat) =
    plus (0 : Nat) (1 : Nat) ∧
    True) ∧
    True ∧
    True ∧
    ((True ∧
    Sub
    (AV.sc
    (Value.string
    (text.extract
    (t31fba t33.toNat).toNat
    (↑text.size :
    Int).toNat)))
    (AV.sc
    (Value.string
    (text.extract
    (t31fba t33.toNat).toNat
    (↑text.size :
    Int).toNat))) ∧
    True ∧
    Sub
    (AV.pt (1000 : Nat) []
    (0 : Nat))
    (AV.pt (1000 : Nat) []
    (0 : Nat)) ∧
    True ∧
    Sub
    (AV.pt (1001 : Nat) []
    (0 : Nat))
    (AV.pt (1001 : Nat) []
    (0 : Nat)) ∧
    True ∧
    Sub
    (AV.pt (1002 : Nat)
    [] (0 : Nat))
    (AV.pt (1002 : Nat)
    [] (0 : Nat)) ∧
    True ∧
    Sub
    (AV.vec true
    (3 : Nat) t31n
    t31n
    fun
    (i0 :
    Nat) =>
    AV.cons
    (1 : Nat)
    (AV.sc
    (Value.int
    IntKind.i64
    (t31fa
    i0)))
    (AV.cons
    (1 : Nat)
    (AV.sc
    (Value.int
    IntKind.i64
    (t31fba
    i0)))
    (AV.cons
    (1 :
    Nat)
    (AV.sc
    (Value.int
    IntKind.i64
    (t31fbba
    i0)))
    AV.nil)))
    (AV.vec true
    (3 : Nat) t31n
    t31n
    fun
    (i0 :
    Nat) =>
    AV.cons
    (1 : Nat)
    (AV.sc
    (Value.int
    IntKind.i64
    (t31fa
    i0)))
    (AV.cons
    (1 : Nat)
    (AV.sc
    (Value.int
    IntKind.i64
    (t31fba
    i0)))
    (AV.cons
    (1 :
    Nat)
    (AV.sc
    (Value.int
    IntKind.i64
    (t31fbba
    i0)))
    AV.nil))) ∧
    True ∧
    Sub
    (AV.sc
    (Value.int
    IntKind.i64
    t32))
    (AV.sc
    (Value.int
    IntKind.i64
    t32)) ∧
    True ∧
    Sub
    (AV.sc
    (Value.int
    IntKind.i64
    (IntKind.i64.wrap
    (t33 +
    (1 :
    Int)))))
    (AV.sc
    (Value.int
    IntKind.i64
    (IntKind.i64.wrap
    (t33 +
    (1 :
    Int))))) ∧
    True) ∧
    (True ∧ True ∧ True ∧ True ∧ True) ∧
    SubB
    (AV.cons (1 : Nat)
    (AV.sc
    (Value.slice none (0 : Nat)
    (0 : Nat)))
    (AV.cons (1 : Nat)
    (AV.sc
    (Value.slice none
    (0 : Nat) (0 : Nat)))
    (AV.cons (1 : Nat)
    (AV.sc
    (Value.slice none
    (0 : Nat) (0 : Nat)))
    (AV.cons (1 : Nat)
    (AV.sc
    (Value.slice none
    (0 : Nat)
    (0 : Nat)))
    AV.nil))))
    (AV.cons (1 : Nat)
    (AV.sc
    (Value.slice none (0 : Nat)
    (0 : Nat)))
    (AV.cons (1 : Nat)
    (AV.sc
    (Value.slice none
    (0 : Nat) (0 : Nat)))
    (AV.cons (1 : Nat)
    (AV.sc
    (Value.slice none
    (0 : Nat) (0 : Nat)))
    (AV.cons (1 : Nat)
    (AV.sc
    (Value.slice none
    (0 : Nat)
    (0 : Nat)))
    AV.nil)))) ∧
    (True ∧
    True ∧ True ∧ True ∧ True) ∧
    SubB
    (AV.cons (1 : Nat)
    (AV.vec false (3 : Nat)
    b1an b1an
    fun (i0 : Nat) =>
    AV.cons (1 : Nat)
    (AV.sc
    (Value.int
    IntKind.i64
    (b1afa i0)))
    (AV.cons (1 : Nat)
    (AV.sc
    (Value.int
    IntKind.i64
    (b1afba i0)))
    (AV.cons (1 : Nat)
    (AV.sc
    (Value.int
    IntKind.i64
    (b1afbba i0)))
    AV.nil)))
    (AV.cons (1 : Nat)
    (AV.rf (1007 : Nat)
    (5 : Nat) (0 : Nat)
    (b1ban + (1 : Nat)))
    (AV.cons (1 : Nat)
    (AV.rf (1008 : Nat)
    (1 : Nat) (0 : Nat)
    (b1bban +
    (1 : Nat)))
    (AV.cons (1 : Nat)
    (AV.rf (1009 : Nat)
    (3 : Nat)
    (0 : Nat)
    (b1bbban +
    r.snd.snd.snd.snd.snd.fst))
    AV.nil))))
    (AV.cons (1 : Nat)
    (AV.vec false (3 : Nat)
    b1an b1an
    fun (i0 : Nat) =>
    AV.cons (1 : Nat)
    (AV.sc
    (Value.int
    IntKind.i64
    (b1afa i0)))
    (AV.cons (1 : Nat)
    (AV.sc
    (Value.int
    IntKind.i64
    (b1afba i0)))
    (AV.cons (1 : Nat)
    (AV.sc
    (Value.int
    IntKind.i64
    (b1afbba i0)))
    AV.nil)))
    (AV.cons (1 : Nat)
    (AV.rf (1007 : Nat)
    (5 : Nat) (0 : Nat)
    (b1ban + (1 : Nat)))
    (AV.cons (1 : Nat)
    (AV.rf (1008 : Nat)
    (1 : Nat) (0 : Nat)
    (b1bban +
    (1 : Nat)))
    (AV.cons (1 : Nat)
    (AV.rf (1009 : Nat)
    (3 : Nat)
    (0 : Nat)
    (b1bbban +
    r.snd.snd.snd.snd.snd.fst))
    AV.nil)))) ∧
    (True ∧
    True ∧
    True ∧
    True ∧ True ∧ True) ∧
    SubB
    (AV.cons (1 : Nat)
    (AV.rf (1010 : Nat)
    (1 : Nat) (0 : Nat)
    r.fst)
    (AV.cons (1 : Nat)
    (AV.sc
    (Value.int
    IntKind.i64
    r.snd.fst))
    (AV.cons (1 : Nat)
    (AV.sc
    (Value.int
    IntKind.i64
    r.snd.snd.fst))
    (AV.cons (1 : Nat)
    (AV.sc
    (Value.bool
    r.snd.snd.snd.fst))
    (AV.cons
    (1 : Nat)
    (AV.sc
    (Value.int
    IntKind.i64
    r.snd.snd.snd.snd.fst))
    AV.nil)))))
    (AV.cons (1 : Nat)
    (AV.rf (1010 : Nat)
    (1 : Nat) (0 : Nat)
    r.fst)
    (AV.cons (1 : Nat)
    (AV.sc
    (Value.int
    IntKind.i64
    r.snd.fst))
    (AV.cons (1 : Nat)
    (AV.sc
    (Value.int
    IntKind.i64
    r.snd.snd.fst))
    (AV.cons (1 : Nat)
    (AV.sc
    (Value.bool
    r.snd.snd.snd.fst))
    (AV.cons
    (1 : Nat)
    (AV.sc
    (Value.int
    IntKind.i64
    r.snd.snd.snd.snd.fst))
    AV.nil))))) ∧
    True ∧
    SubB
    (AV.ar
    (b1ban +
    (1 : Nat))
    (5 : Nat)
    fun (i : Nat) =>
    AV.cons (1 : Nat)
    (AV.vec false
    (1 : Nat)
    (bif
    i.blt
    b1ban then
    b7fan i
    else r_1.fst)
    (bif
    i.blt
    b1ban then
    b7fan i
    else
    r_1.snd.fst -
    (0 : Nat))
    fun
    (i_1 :
    Nat) =>
    AV.sc
    (Value.int
    IntKind.i64
    (bif
    i.blt
    b1ban then
    b7faf i
    i_1
    else
    r_1.snd.snd
    (plus
    (0 :
    Nat)
    i_1))))
    (AV.cons
    (1 : Nat)
    (AV.sc
    (Value.int
    IntKind.i64
    (bif
    i.blt
    b1ban then
    b7fba i
    else
    r.snd.fst)))
    (AV.cons
    (1 : Nat)
    (AV.sc
    (Value.int
    IntKind.i64
    (bif
    i.blt
    b1ban then
    b7fbba
    i
    else
    r.snd.snd.fst)))
    (AV.cons
    (1 : Nat)
    (AV.sc
    (Value.bool
    (bif
    i.blt
    b1ban then
    b7fbbba
    i
    else
    r.snd.snd.snd.fst)))
    (AV.cons
    (1 :
    Nat)
    (AV.sc
    (Value.int
    IntKind.i64
    (bif
    i.blt
    b1ban then
    b7fbbbba
    i
    else
    r.snd.snd.snd.snd.fst)))
    AV.nil)))))
    (AV.ar
    (b1ban +
    (1 : Nat))
    (5 : Nat)
    fun (i0 : Nat) =>
    AV.cons (1 : Nat)
    (AV.vec false
    (1 : Nat)
    (bif
    i0.blt
    b1ban then
    b7fan i0
    else r_1.fst)
    (bif
    i0.blt
    b1ban then
    b7fan i0
    else r_1.fst)
    fun
    (i1 :
    Nat) =>
    AV.sc
    (Value.int
    IntKind.i64
    (bif
    i0.blt
    b1ban then
    b7faf i0
    i1
    else
    r_1.snd.snd
    (plus
    (0 :
    Nat)
    i1))))
    (AV.cons
    (1 : Nat)
    (AV.sc
    (Value.int
    IntKind.i64
    (bif
    i0.blt
    b1ban then
    b7fba i0
    else
    r.snd.fst)))
    (AV.cons
    (1 : Nat)
    (AV.sc
    (Value.int
    IntKind.i64
    (bif
    i0.blt
    b1ban then
    b7fbba
    i0
    else
    r.snd.snd.fst)))
    (AV.cons
    (1 : Nat)
    (AV.sc
    (Value.bool
    (bif
    i0.blt
    b1ban then
    b7fbbba
    i0
    else
    r.snd.snd.snd.fst)))
    (AV.cons
    (1 :
    Nat)
    (AV.sc
    (Value.int
    IntKind.i64
    (bif
    i0.blt
    b1ban then
    b7fbbbba
    i0
    else
    r.snd.snd.snd.snd.fst)))
    AV.nil))))) ∧
    True ∧
    SubB
    (AV.ar
    (b1bban +
    (1 : Nat))
    (1 : Nat)
    fun
    (i : Nat) =>
    AV.sc
    (Value.int
    IntKind.i64
    (bif
    i.blt
    b1bban then
    b8f i
    else
    (↑(b1bbban +
    r.snd.snd.snd.snd.snd.fst) :
    Int))))
    (AV.ar
    (b1bban +
    (1 : Nat))
    (1 : Nat)
    fun
    (i0 :
    Nat) =>
    AV.sc
    (Value.int
    IntKind.i64
    (bif
    i0.blt
    b1bban then
    b8f i0
    else
    (↑(b1bbban +
    r.snd.snd.snd.snd.snd.fst) :
    Int)))) ∧
    True ∧
    SubB
    (AV.ar
    r.snd.snd.snd.snd.snd.snd.fst
    (1 : Nat)
    fun
    (i0 :
    Nat) =>
    AV.sc
    (Value.int
    IntKind.i64
    (r.snd.snd.snd.snd.snd.snd.snd.fst
    i0)))
    (AV.ar
    r.snd.snd.snd.snd.snd.snd.fst
    (1 : Nat)
    fun
    (i0 :
    Nat) =>
    AV.sc
    (Value.int
    IntKind.i64
    (r.snd.snd.snd.snd.snd.snd.snd.fst
    i0))) ∧
    True ∧
    SubB
    (AV.ar
    (b1bbban +
    r.snd.snd.snd.snd.snd.fst)
    (3 :
    Nat)
    fun
    (i :
    Nat) =>
    AV.cons
    (1 :
    Nat)
    (AV.sc
    (Value.int
    IntKind.i64
    (bif
    i.blt
    b1bbban then
    b9fa
    i
    else
    r.snd.snd.snd.snd.snd.snd.snd.snd.snd.fst
    ((0 :
    Nat) +
    (i -
    b1bbban)))))
    (AV.cons
    (1 :
    Nat)
    (AV.sc
    (Value.int
    IntKind.i64
    (bif
    i.blt
    b1bbban then
    b9fba
    i
    else
    r.snd.snd.snd.snd.snd.snd.snd.snd.snd.snd.fst
    ((0 :
    Nat) +
    (i -
    b1bbban)))))
    (AV.cons
    (1 :
    Nat)
    (AV.sc
    (Value.int
    IntKind.i64
    (bif
    i.blt
    b1bbban then
    b9fbba
    i
    else
    r.snd.snd.snd.snd.snd.snd.snd.snd.snd.snd.snd
    ((0 :
    Nat) +
    (i -
    b1bbban)))))
    AV.nil)))
    (AV.ar
    (b1bbban +
    r.snd.snd.snd.snd.snd.fst)
    (3 :
    Nat)
    fun
    (i0 :
    Nat) =>
    AV.cons
    (1 :
    Nat)
    (AV.sc
    (Value.int
    IntKind.i64
    (bif
    i0.blt
    b1bbban then
    b9fa
    i0
    else
    r.snd.snd.snd.snd.snd.snd.snd.snd.snd.fst
    ((0 :
    Nat) +
    (i0 -
    b1bbban)))))
    (AV.cons
    (1 :
    Nat)
    (AV.sc
    (Value.int
    IntKind.i64
    (bif
    i0.blt
    b1bbban then
    b9fba
    i0
    else
    r.snd.snd.snd.snd.snd.snd.snd.snd.snd.snd.fst
    ((0 :
    Nat) +
    (i0 -
    b1bbban)))))
    (AV.cons
    (1 :
    Nat)
    (AV.sc
    (Value.int
    IntKind.i64
    (bif
    i0.blt
    b1bbban then
    b9fbba
    i0
    else
    r.snd.snd.snd.snd.snd.snd.snd.snd.snd.snd.snd
    ((0 :
    Nat) +
    (i0 -
    b1bbban)))))
    AV.nil))) ∧
    True) ∧
    L41_0
    (text.extract (t31fba t33.toNat).toNat
    (↑text.size : Int).toNat)
    t31n t31fa t31fba t31fbba t32
    (IntKind.i64.wrap (t33 + (1 : Int)))
    b1an b1afa b1afba b1afbba
    (b1ban + (1 : Nat))
    (b1bban + (1 : Nat))
    (b1bbban + r.snd.snd.snd.snd.snd.fst)
    r.fst r.snd.fst r.snd.snd.fst
    r.snd.snd.snd.fst
    r.snd.snd.snd.snd.fst
    (b1ban + (1 : Nat))
    (fun (i : Nat) =>
    bif i.blt b1ban then b7fan i
    else r_1.fst)
    (fun (i i_1 : Nat) =>
    bif i.blt b1ban then b7faf i i_1
    else
    r_1.snd.snd (plus (0 : Nat) i_1))
    (fun (i : Nat) =>
    bif i.blt b1ban then b7fba i
    else r.snd.fst)
    (fun (i : Nat) =>
    bif i.blt b1ban then b7fbba i
    else r.snd.snd.fst)
    (fun (i : Nat) =>
    bif i.blt b1ban then b7fbbba i
    else r.snd.snd.snd.fst)
    (fun (i : Nat) =>
    bif i.blt b1ban then b7fbbbba i
    else r.snd.snd.snd.snd.fst)
    (b1bban + (1 : Nat))
    (fun (i : Nat) =>
    bif i.blt b1bban then b8f i
    else
    (↑(b1bbban +
    r.snd.snd.snd.snd.snd.fst) :
    Int))
    r.snd.snd.snd.snd.snd.snd.fst
    r.snd.snd.snd.snd.snd.snd.snd.fst
    (b1bbban + r.snd.snd.snd.snd.snd.fst)
    (fun (i : Nat) =>
    bif i.blt b1bbban then b9fa i
    else
    r.snd.snd.snd.snd.snd.snd.snd.snd.snd.fst
    ((0 : Nat) + (i - b1bbban)))
    (fun (i : Nat) =>
    bif i.blt b1bbban then b9fba i
    else
    r.snd.snd.snd.snd.snd.snd.snd.snd.snd.snd.fst
    ((0 : Nat) + (i - b1bbban)))
    (fun (i : Nat) =>
    bif i.blt b1bbban then b9fbba i
    else
    r.snd.snd.snd.snd.snd.snd.snd.snd.snd.snd.snd
    ((0 : Nat) + (i - b1bbban)))
    res) ∧
    (decide (t33 < t32) = false →
    True ∧
    ((1 : Nat) + ((1 : Nat) + ((1 : Nat) + (0 : Nat))) = plus (0 : Nat) (3 : Nat) ∧ True) ∧
    ((0 : Nat) = (0 : Nat) ∧ True) ∧
    ∃ (r : Nat × (Nat → Int) × (Nat → Int) × (Nat → Int)),
    ((((0 : Nat) + b2an ≤ b10n ∧ True ∧ True ∧ True ∧ True ∧ True) ∧ True) ∧
    True ∧
    Ok Proofs.Try.prog (36 : Nat)
    [AV.cons (1 : Nat)
    (AV.vec true (1 : Nat) b2an (b10n - (0 : Nat)) fun (i : Nat) => AV.sc (Value.int IntKind.i64 (b10f (plus (0 : Nat) i))))
    (AV.cons (1 : Nat) (AV.sc (Value.int IntKind.i64 b2ba))
    (AV.cons (1 : Nat) (AV.sc (Value.int IntKind.i64 b2bba))
    (AV.cons (1 : Nat) (AV.sc (Value.bool b2bbba)) (AV.cons (1 : Nat) (AV.sc (Value.int IntKind.i64 b2bbbba)) AV.nil))))]
    []
    (AV.vec false (3 : Nat) r.fst r.fst fun (i0 : Nat) =>
    AV.cons (1 : Nat) (AV.sc (Value.int IntKind.i64 (r.snd.fst i0)))
    (AV.cons (1 : Nat) (AV.sc (Value.int IntKind.i64 (r.snd.snd.fst i0)))
    (AV.cons (1 : Nat) (AV.sc (Value.int IntKind.i64 (r.snd.snd.snd i0))) AV.nil)))
    []) ∧
    (b1bbban ≤ b9n ∧ True ∧ (b1bbban + r.fst) * (24 : Nat) ≤ (140737488355328 : Nat) ∧ b1bbban + r.fst ≤ maxLen) ∧
    True ∧
    ((1 : Nat) + ((1 : Nat) + ((1 : Nat) + (0 : Nat))) = plus (0 : Nat) (3 : Nat) ∧ True) ∧
    ((0 : Nat) = (0 : Nat) ∧ True) ∧
    ((0 : Nat) = (0 : Nat) ∧ True) ∧
    True ∧
    (((0 : Nat) = (0 : Nat) ∧ True) ∧ True ∧ True) ∧
    ((((True ∧ (0 : Nat) + b1ban ≤ b7n ∧ (0 : Nat) + b1bban ≤ b8n ∧ (0 : Nat) + (b1bbban + r.fst) ≤ b1bbban + r.fst ∧ True) ∧
    True ∧ True) ∧
    Sub
    (AV.cons (1 : Nat)
    (AV.cons (1 : Nat)
    (AV.vec false (3 : Nat) b1an b1an fun (i0 : Nat) =>
    AV.cons (1 : Nat) (AV.sc (Value.int IntKind.i64 (b1afa i0)))
    (AV.cons (1 : Nat) (AV.sc (Value.int IntKind.i64 (b1afba i0)))
    (AV.cons (1 : Nat) (AV.sc (Value.int IntKind.i64 (b1afbba i0))) AV.nil)))
    (AV.cons (1 : Nat)
    (AV.vec false (5 : Nat) b1ban (b7n - (0 : Nat)) fun (i : Nat) =>
    AV.cons (1 : Nat)
    (AV.vec false (1 : Nat) (b7fan (plus (0 : Nat) i)) (b7fan (plus (0 : Nat) i)) fun (i1 : Nat) =>
    AV.sc (Value.int IntKind.i64 (b7faf (plus (0 : Nat) i) i1)))
    (AV.cons (1 : Nat) (AV.sc (Value.int IntKind.i64 (b7fba (plus (0 : Nat) i))))
    (AV.cons (1 : Nat) (AV.sc (Value.int IntKind.i64 (b7fbba (plus (0 : Nat) i))))
    (AV.cons (1 : Nat) (AV.sc (Value.bool (b7fbbba (plus (0 : Nat) i))))
    (AV.cons (1 : Nat) (AV.sc (Value.int IntKind.i64 (b7fbbbba (plus (0 : Nat) i)))) AV.nil)))))
    (AV.cons (1 : Nat)
    (AV.vec false (1 : Nat) b1bban (b8n - (0 : Nat)) fun (i : Nat) =>
    AV.sc (Value.int IntKind.i64 (b8f (plus (0 : Nat) i))))
    (AV.cons (1 : Nat)
    (AV.vec false (3 : Nat) (b1bbban + r.fst) (b1bbban + r.fst - (0 : Nat)) fun (i : Nat) =>
    AV.cons (1 : Nat)
    (AV.sc
    (Value.int IntKind.i64
    (bif (plus (0 : Nat) i).blt b1bbban then b9fa (plus (0 : Nat) i)
    else r.snd.fst (plus (0 : Nat) i - b1bbban))))
    (AV.cons (1 : Nat)
    (AV.sc
    (Value.int IntKind.i64
    (bif (plus (0 : Nat) i).blt b1bbban then b9fba (plus (0 : Nat) i)
    else r.snd.snd.fst (plus (0 : Nat) i - b1bbban))))
    (AV.cons (1 : Nat)
    (AV.sc
    (Value.int IntKind.i64
    (bif (plus (0 : Nat) i).blt b1bbban then b9fbba (plus (0 : Nat) i)
    else r.snd.snd.snd (plus (0 : Nat) i - b1bbban))))
    AV.nil)))
    AV.nil))))
    (AV.cons (1 : Nat) (AV.sc (Value.int IntKind.i64 (0 : Int))) AV.nil)).tup
    (AV.cons (1 : Nat)
    (AV.cons (1 : Nat)
    (AV.vec false (3 : Nat) b1an b1an fun (i0 : Nat) =>
    AV.cons (1 : Nat) (AV.sc (Value.int IntKind.i64 (b1afa i0)))
    (AV.cons (1 : Nat) (AV.sc (Value.int IntKind.i64 (b1afba i0)))
    (AV.cons (1 : Nat) (AV.sc (Value.int IntKind.i64 (b1afbba i0))) AV.nil)))
    (AV.cons (1 : Nat)
    (AV.vec false (5 : Nat) b1ban b1ban fun (i : Nat) =>
    AV.cons (1 : Nat)
    (AV.vec false (1 : Nat) (b7fan (plus (0 : Nat) i)) (b7fan (plus (0 : Nat) i)) fun (i1 : Nat) =>
    AV.sc (Value.int IntKind.i64 (b7faf (plus (0 : Nat) i) i1)))
    (AV.cons (1 : Nat) (AV.sc (Value.int IntKind.i64 (b7fba (plus (0 : Nat) i))))
    (AV.cons (1 : Nat) (AV.sc (Value.int IntKind.i64 (b7fbba (plus (0 : Nat) i))))
    (AV.cons (1 : Nat) (AV.sc (Value.bool (b7fbbba (plus (0 : Nat) i))))
    (AV.cons (1 : Nat) (AV.sc (Value.int IntKind.i64 (b7fbbbba (plus (0 : Nat) i)))) AV.nil)))))
    (AV.cons (1 : Nat)
    (AV.vec false (1 : Nat) b1bban b1bban fun (i : Nat) => AV.sc (Value.int IntKind.i64 (b8f (plus (0 : Nat) i))))
    (AV.cons (1 : Nat)
    (AV.vec false (3 : Nat) (b1bbban + r.fst) (b1bbban + r.fst) fun (i : Nat) =>
    AV.cons (1 : Nat)
    (AV.sc
    (Value.int IntKind.i64
    (bif (plus (0 : Nat) i).blt b1bbban then b9fa (plus (0 : Nat) i)
    else r.snd.fst (plus (0 : Nat) i - b1bbban))))
    (AV.cons (1 : Nat)
    (AV.sc
    (Value.int IntKind.i64
    (bif (plus (0 : Nat) i).blt b1bbban then b9fba (plus (0 : Nat) i)
    else r.snd.snd.fst (plus (0 : Nat) i - b1bbban))))
    (AV.cons (1 : Nat)
    (AV.sc
    (Value.int IntKind.i64
    (bif (plus (0 : Nat) i).blt b1bbban then b9fbba (plus (0 : Nat) i)
    else r.snd.snd.snd (plus (0 : Nat) i - b1bbban))))
    AV.nil)))
    AV.nil))))
    (AV.cons (1 : Nat) (AV.sc (Value.int IntKind.i64 (0 : Int))) AV.nil)).tup ∧
    True) ∧
    True) ∧
    Sub
    (AV.cons (1 : Nat)
    (AV.cons (1 : Nat)
    (AV.vec false (3 : Nat) b1an b1an fun (i0 : Nat) =>
    AV.cons (1 : Nat) (AV.sc (Value.int IntKind.i64 (b1afa i0)))
    (AV.cons (1 : Nat) (AV.sc (Value.int IntKind.i64 (b1afba i0)))
    (AV.cons (1 : Nat) (AV.sc (Value.int IntKind.i64 (b1afbba i0))) AV.nil)))
    (AV.cons (1 : Nat)
    (AV.vec false (5 : Nat) b1ban b1ban fun (i : Nat) =>
    AV.cons (1 : Nat)
    (AV.vec false (1 : Nat) (b7fan (plus (0 : Nat) i)) (b7fan (plus (0 : Nat) i)) fun (i1 : Nat) =>
    AV.sc (Value.int IntKind.i64 (b7faf (plus (0 : Nat) i) i1)))
    (AV.cons (1 : Nat) (AV.sc (Value.int IntKind.i64 (b7fba (plus (0 : Nat) i))))
    (AV.cons (1 : Nat) (AV.sc (Value.int IntKind.i64 (b7fbba (plus (0 : Nat) i))))
    (AV.cons (1 : Nat) (AV.sc (Value.bool (b7fbbba (plus (0 : Nat) i))))
    (AV.cons (1 : Nat) (AV.sc (Value.int IntKind.i64 (b7fbbbba (plus (0 : Nat) i)))) AV.nil)))))
    (AV.cons (1 : Nat)
    (AV.vec false (1 : Nat) b1bban b1bban fun (i : Nat) => AV.sc (Value.int IntKind.i64 (b8f (plus (0 : Nat) i))))
    (AV.cons (1 : Nat)
    (AV.vec false (3 : Nat) (b1bbban + r.fst) (b1bbban + r.fst) fun (i : Nat) =>
    AV.cons (1 : Nat)
    (AV.sc
    (Value.int IntKind.i64
    (bif (plus (0 : Nat) i).blt b1bbban then b9fa (plus (0 : Nat) i)
    else r.snd.fst (plus (0 : Nat) i - b1bbban))))
    (AV.cons (1 : Nat)
    (AV.sc
    (Value.int IntKind.i64
    (bif (plus (0 : Nat) i).blt b1bbban then b9fba (plus (0 : Nat) i)
    else r.snd.snd.fst (plus (0 : Nat) i - b1bbban))))
    (AV.cons (1 : Nat)
    (AV.sc
    (Value.int IntKind.i64
    (bif (plus (0 : Nat) i).blt b1bbban then b9fbba (plus (0 : Nat) i)
    else r.snd.snd.snd (plus (0 : Nat) i - b1bbban))))
    AV.nil)))
    AV.nil))))
    (AV.cons (1 : Nat) (AV.sc (Value.int IntKind.i64 (0 : Int))) AV.nil)).tup
    res ∧
    SubOut [] []) from
    ⟨trivial, (And.elim (fun h1 k1 => ⟨(fun x2 => (fun h2 => (And.elim (fun h3 k3 => ⟨(And.elim (fun h4 k4 => ⟨h4, k4⟩) h3), ⟨trivial, ⟨trivial, ⟨⟨rfl, trivial⟩, ⟨trivial, ⟨⟨rfl, trivial⟩, ⟨trivial, ⟨trivial, ⟨⟨rfl, trivial⟩, (And.elim (fun h12 k12 => ⟨(And.elim (fun h13 k13 => ⟨h13, (And.elim (fun h14 k14 => ⟨h14, k14⟩) k13)⟩) h12), ⟨⟨rfl, trivial⟩, (Exists.elim k12 fun x14 h14 => ⟨x14, (And.elim (fun h15 k15 => ⟨(And.elim (fun h16 k16 => ⟨((fun h17 => ⟨((fun h18 => ⟨h18, ⟨trivial, ⟨trivial, ⟨trivial, ⟨trivial, trivial⟩⟩⟩⟩⟩) h17), ⟨trivial, ⟨⟨trivial, ⟨trivial, ⟨trivial, trivial⟩⟩⟩, trivial⟩⟩⟩) h16), ⟨trivial, k16⟩⟩) h15), ⟨trivial, ⟨trivial, ⟨trivial, ⟨⟨rfl, trivial⟩, ⟨trivial, ⟨trivial, ⟨trivial, ⟨⟨rfl, trivial⟩, (And.elim (fun h24 k24 => ⟨(And.elim (fun h25 k25 => ⟨h25, (And.elim (fun h26 k26 => ⟨h26, k26⟩) k25)⟩) h24), ⟨trivial, ⟨trivial, ⟨⟨rfl, trivial⟩, ⟨trivial, (And.elim (fun h29 k29 => ⟨(And.elim (fun h30 k30 => ⟨h30, (And.elim (fun h31 k31 => ⟨((fun h32 => ⟨h32, rfl⟩) h31), (And.elim (fun h32 k32 => ⟨h32, k32⟩) k31)⟩) k30)⟩) h29), ⟨trivial, ⟨⟨rfl, trivial⟩, ⟨trivial, ⟨⟨rfl, trivial⟩, ⟨trivial, ⟨⟨rfl, trivial⟩, ⟨trivial, ⟨⟨⟨trivial, trivial⟩, trivial⟩, (And.elim (fun h38 k38 => ⟨(And.elim (fun h39 k39 => ⟨h39, (And.elim (fun h40 k40 => ⟨((fun h41 => ⟨h41, rfl⟩) h40), (And.elim (fun h41 k41 => ⟨h41, k41⟩) k40)⟩) k39)⟩) h38), ⟨trivial, ⟨⟨rfl, trivial⟩, ⟨⟨rfl, trivial⟩, ⟨trivial, ⟨⟨rfl, trivial⟩, ⟨trivial, ⟨⟨rfl, trivial⟩, (Exists.elim k38 fun x46 h46 => ⟨x46, (And.elim (fun h47 k47 => ⟨(And.elim (fun h48 k48 => ⟨((fun h49 => ⟨h49, trivial⟩) h48), ⟨trivial, k48⟩⟩) h47), ⟨trivial, ⟨⟨rfl, trivial⟩, ⟨trivial, ⟨⟨rfl, trivial⟩, ⟨⟨rfl, trivial⟩, (And.elim (fun h53 k53 => ⟨((fun h54 => ⟨((fun h55 => ⟨((fun h56 => ⟨h56, ⟨trivial, ⟨trivial, ⟨trivial, ⟨trivial, trivial⟩⟩⟩⟩⟩) h55), trivial⟩) h54), trivial⟩) h53), (And.elim (fun h54 k54 => ⟨(And.elim (fun h55 k55 => ⟨h55, (And.elim (fun h56 k56 => ⟨((fun h57 => ⟨h57, rfl⟩) h56), (And.elim (fun h57 k57 => ⟨h57, k57⟩) k56)⟩) k55)⟩) h54), ⟨trivial, ⟨⟨rfl, trivial⟩, ⟨trivial, ⟨trivial, (And.elim (fun h59 k59 => ⟨⟨⟨trivial, ⟨Sub.refl _, ⟨trivial, ⟨Sub.refl _, ⟨trivial, ⟨Sub.refl _, ⟨trivial, ⟨Sub.refl _, ⟨trivial, ⟨Sub.refl _, ⟨trivial, ⟨Sub.refl _, ⟨trivial, ⟨Sub.refl _, trivial⟩⟩⟩⟩⟩⟩⟩⟩⟩⟩⟩⟩⟩⟩, ⟨⟨trivial, ⟨trivial, ⟨trivial, ⟨trivial, trivial⟩⟩⟩⟩, ⟨SubB.refl _, ⟨⟨trivial, ⟨trivial, ⟨trivial, ⟨trivial, trivial⟩⟩⟩⟩, ⟨SubB.refl _, ⟨⟨trivial, ⟨trivial, ⟨trivial, ⟨trivial, ⟨trivial, trivial⟩⟩⟩⟩⟩, ⟨SubB.refl _, ⟨trivial, ((fun h68 => ⟨h68, ⟨trivial, ⟨SubB.refl _, ⟨trivial, ⟨SubB.refl _, ⟨trivial, ⟨SubB.refl _, trivial⟩⟩⟩⟩⟩⟩⟩) h59)⟩⟩⟩⟩⟩⟩⟩⟩, k59⟩) k54)⟩⟩⟩⟩⟩) k53)⟩) k47)⟩⟩⟩⟩⟩⟩) h46)⟩)⟩⟩⟩⟩⟩⟩⟩⟩) k29)⟩⟩⟩⟩⟩⟩⟩⟩⟩) k24)⟩⟩⟩⟩⟩) k15)⟩⟩⟩⟩⟩⟩⟩⟩⟩) h14)⟩)⟩⟩) k3)⟩⟩⟩⟩⟩⟩⟩⟩⟩) h2)) (h1 x2)), (fun x2 => (fun h2 => ⟨trivial, ⟨⟨rfl, trivial⟩, ⟨⟨rfl, trivial⟩, (Exists.elim h2 fun x6 h6 => ⟨x6, (And.elim (fun h7 k7 => ⟨(And.elim (fun h8 k8 => ⟨((fun h9 => ⟨((fun h10 => ⟨h10, ⟨trivial, ⟨trivial, ⟨trivial, ⟨trivial, trivial⟩⟩⟩⟩⟩) h9), trivial⟩) h8), ⟨trivial, k8⟩⟩) h7), (And.elim (fun h8 k8 => ⟨(And.elim (fun h9 k9 => ⟨h9, ⟨trivial, (And.elim (fun h11 k11 => ⟨h11, k11⟩) k9)⟩⟩) h8), ⟨trivial, ⟨⟨rfl, trivial⟩, ⟨⟨rfl, trivial⟩, ⟨⟨rfl, trivial⟩, ⟨trivial, ⟨⟨⟨rfl, trivial⟩, ⟨trivial, trivial⟩⟩, (And.elim (fun h15 k15 => ⟨((fun h16 => ⟨(And.elim (fun h17 k17 => ⟨((fun h18 => ⟨⟨trivial, (And.elim (fun h20 k20 => ⟨h20, (And.elim (fun h21 k21 => ⟨h21, ((fun h22 => ⟨h22, trivial⟩) k21)⟩) k20)⟩) h18)⟩, ⟨trivial, trivial⟩⟩) h17), ((fun h18 => ⟨h18, trivial⟩) k17)⟩) h16), trivial⟩) h15), ((fun h16 => ⟨h16, trivial⟩) k15)⟩) k8)⟩⟩⟩⟩⟩⟩⟩) k7)⟩) h6)⟩)⟩⟩⟩) (k1 x2))⟩) h)⟩)
theorem hf53 : Go.Proofs.Try.prog.funcs[53]? = some Go.Proofs.Try.f53 := by kernel_rfl
abbrev s53_e (ln : Nat) (lf : Nat → Int) : List (Nat × AV) := [(0, (.vec true 1 ln ln (fun i0 => (.sc (.int .i64 (lf i0))))))]
abbrev m53_e (ln : Nat) (lf : Nat → Int) : List (Nat × Nat × AV) := []
def L53_e (ln : Nat) (lf : Nat → Int) (res : AV) : Prop := Goes ⟨Go.Proofs.Try.prog, 53, [], res, []⟩ (place Go.Proofs.Try.f53 []) (s53_e ln lf) (m53_e ln lf)
abbrev s53_0 (ln : Nat) (lf : Nat → Int) (out_n : Nat) (i : Int) (b0n : Nat) (b0f : Nat → Int) : List (Nat × AV) := [(0, (.vec true 1 ln ln (fun i0 => (.sc (.int .i64 (lf i0)))))), (3, (.rf 1000 1 0 out_n)), (4, (.sc (.int .i64 i)))]
abbrev m53_0 (ln : Nat) (lf : Nat → Int) (out_n : Nat) (i : Int) (b0n : Nat) (b0f : Nat → Int) : List (Nat × Nat × AV) := [(1000, 3, (.ar b0n 1 (fun i0 => (.sc (.int .i64 (b0f i0))))))]
def L53_0 (ln : Nat) (lf : Nat → Int) (out_n : Nat) (i : Int) (b0n : Nat) (b0f : Nat → Int) (res : AV) : Prop := Goes ⟨Go.Proofs.Try.prog, 53, [], res, []⟩ (place Go.Proofs.Try.f53 [1, 1, 0, 1, 0, 0]) (s53_0 ln lf out_n i b0n b0f) (m53_0 ln lf out_n i b0n b0f)
theorem o53 (ln : Nat) (lf : Nat → Int) (res : AV) (hnew : newOnly res) (h : L53_e ln lf res) : Ok Go.Proofs.Try.prog 53 [(.vec true 1 ln ln (fun i0 => (.sc (.int .i64 (lf i0)))))] [] res [] :=
  okRule2 53 Go.Proofs.Try.f53 hf53 [(.vec true 1 ln ln (fun i0 => (.sc (.int .i64 (lf i0)))))] [] res [] [] rfl (by kernel_rfl) (by kernel_rfl) (by kernel_rfl) ⟨hnew, by simp⟩ (L53_e ln lf res) (by kernel_rfl) h
theorem r53_e (ln : Nat) (lf : Nat → Int) (res : AV)
    (h : ((0 : Nat) ≤ (0 : Nat) ∧ ((0 : Nat) + ln) * (8 : Nat) ≤ (140737488355328 : Nat) ∧ (0 : Nat) + ln ≤ maxLen) ∧
  L53_0 ln lf ((0 : Nat) + ln) (0 : Int) ((0 : Nat) + ln) (fun (i : Nat) => lf (i - (0 : Nat))) res) :
    L53_e ln lf res :=
  rule Go.Am.Seat.tabOk 53 [] Go.Proofs.Try.f53 hf53 [] (s53_e ln lf) (m53_e ln lf) res [] 400
    (Orc.cut (nat_lit 9) (s53_0 ln lf ((0 : Nat) + ln) (0 : Int) ((0 : Nat) + ln) fun (i : Nat) => bif i.blt (0 : Nat) then (0 : Int) else lf (i - (0 : Nat)))
  (m53_0 ln lf ((0 : Nat) + ln) (0 : Int) ((0 : Nat) + ln) fun (i : Nat) => bif i.blt (0 : Nat) then (0 : Int) else lf (i - (0 : Nat)))
  [((1000 : Nat), some (7 : Nat))]) _ _ (by kernel_rfl) (by kernel_rfl) (show True ∧
  (True ∧ True) ∧
    True ∧
    ((0 : Nat) ≤ (0 : Nat) ∧ True ∧ ((0 : Nat) + ln) * (8 : Nat) ≤ (140737488355328 : Nat) ∧ (0 : Nat) + ln ≤ maxLen) ∧
    True ∧
    True ∧
    ((True ∧
    Sub (AV.vec true (1 : Nat) ln ln fun (i0 : Nat) => AV.sc (Value.int IntKind.i64 (lf i0)))
    (AV.vec true (1 : Nat) ln ln fun (i0 : Nat) => AV.sc (Value.int IntKind.i64 (lf i0))) ∧
    True ∧
    Sub (AV.rf (1000 : Nat) (1 : Nat) (0 : Nat) ((0 : Nat) + ln)) (AV.rf (1000 : Nat) (1 : Nat) (0 : Nat) ((0 : Nat) + ln)) ∧
    True ∧ Sub (AV.sc (Value.int IntKind.i64 (0 : Int))) (AV.sc (Value.int IntKind.i64 (0 : Int))) ∧ True) ∧
    True ∧
    SubB (AV.ar ((0 : Nat) + ln) (1 : Nat) fun (i : Nat) => AV.sc (Value.int IntKind.i64 (lf (i - (0 : Nat)))))
    (AV.ar ((0 : Nat) + ln) (1 : Nat) fun (i0 : Nat) => AV.sc (Value.int IntKind.i64 (lf (i0 - (0 : Nat))))) ∧
    True) ∧
    L53_0 ln lf ((0 : Nat) + ln) (0 : Int) ((0 : Nat) + ln) (fun (i : Nat) => lf (i - (0 : Nat))) res from
    ⟨trivial, ⟨⟨trivial, trivial⟩, ⟨trivial, (And.elim (fun h3 k3 => ⟨(And.elim (fun h4 k4 => ⟨h4, ⟨trivial, (And.elim (fun h6 k6 => ⟨h6, k6⟩) k4)⟩⟩) h3), ⟨trivial, ⟨trivial, ⟨⟨⟨trivial, ⟨Sub.refl _, ⟨trivial, ⟨Sub.refl _, ⟨trivial, ⟨Sub.refl _, trivial⟩⟩⟩⟩⟩⟩, ⟨trivial, ⟨SubB.refl _, trivial⟩⟩⟩, k3⟩⟩⟩⟩) h)⟩⟩⟩)
theorem r53_0 (ln : Nat) (lf : Nat → Int) (out_n : Nat) (i : Int) (b0n : Nat) (b0f : Nat → Int) (res : AV)
    (h : (decide (i < (3 : Int)) = true →
    (out_n ≤ b0n ∧ (0 : Nat) + (1 : Nat) ≤ (1 : Nat) ∧ (out_n + (1 : Nat)) * (8 : Nat) ≤ (140737488355328 : Nat) ∧ out_n + (1 : Nat) ≤ maxLen) ∧
    L53_0 ln lf (out_n + (1 : Nat)) (IntKind.i64.wrap (i + (1 : Int))) (out_n + (1 : Nat))
    (fun (i_1 : Nat) => bif i_1.blt out_n then b0f i_1 else IntKind.i64.wrap ((-7000 : Int) - i)) res) ∧
  (decide (i < (3 : Int)) = false →
    ((0 : Int) ≤ (0 : Int) ∧ (0 : Int) ≤ (↑ln : Int) ∧ (0 : Nat) + (↑ln : Int).toNat ≤ b0n ∧ ((0 : Int) = (0 : Int) ∨ (0 : Nat) + Int.toNat (0 : Int) < b0n)) ∧
    plus (0 : Nat) (Int.toNat (0 : Int)) + ((↑ln : Int) - (0 : Int)).toNat ≤ b0n ∧
    Sub
    (AV.vec false (1 : Nat) ((↑ln : Int) - (0 : Int)).toNat (b0n - plus (0 : Nat) (Int.toNat (0 : Int))) fun (i : Nat) =>
    AV.sc (Value.int IntKind.i64 (b0f (plus (plus (0 : Nat) (Int.toNat (0 : Int))) i))))
    res)) :
    L53_0 ln lf out_n i b0n b0f res :=
  rule Go.Am.Seat.tabOk 53 [] Go.Proofs.Try.f53 hf53 [1, 1, 0, 1, 0, 0] (s53_0 ln lf out_n i b0n b0f) (m53_0 ln lf out_n i b0n b0f) res [] 400
    ((Orc.cut (nat_lit 7)
    (s53_0 ln lf (out_n + (1 : Nat)) (IntKind.i64.wrap (i + (1 : Int))) (out_n + (1 : Nat)) fun (i_1 : Nat) =>
    bif i_1.blt out_n then b0f i_1 else IntKind.i64.wrap ((-7000 : Int) - i))
    (m53_0 ln lf (out_n + (1 : Nat)) (IntKind.i64.wrap (i + (1 : Int))) (out_n + (1 : Nat)) fun (i_1 : Nat) =>
    bif i_1.blt out_n then b0f i_1 else IntKind.i64.wrap ((-7000 : Int) - i))
    [((1000 : Nat), some (16 : Nat))]).br
  (Orc.fin
    (AV.vec false (1 : Nat) ((IntKind.i64, (↑ln : Int)).snd - (0 : Int)).toNat (b0n - plus (0 : Nat) (Int.toNat (0 : Int))) fun (i : Nat) =>
    AV.sc (Value.int IntKind.i64 (b0f (plus (plus (0 : Nat) (Int.toNat (0 : Int))) i))))
    [] [])) _ _ (by kernel_rfl) (by kernel_rfl) (show True ∧
  True ∧
    (decide (i < (3 : Int)) = true →
    True ∧
    True ∧
    True ∧
    ((True ∧ True) ∧ True) ∧
    (out_n ≤ b0n ∧
    ((0 : Nat) + (1 : Nat) ≤ (1 : Nat) ∧ (1 : Nat) = (1 : Nat)) ∧
    (out_n + (1 : Nat)) * (8 : Nat) ≤ (140737488355328 : Nat) ∧ out_n + (1 : Nat) ≤ maxLen) ∧
    True ∧
    True ∧
    True ∧
    True ∧
    ((True ∧
    Sub (AV.vec true (1 : Nat) ln ln fun (i0 : Nat) => AV.sc (Value.int IntKind.i64 (lf i0)))
    (AV.vec true (1 : Nat) ln ln fun (i0 : Nat) => AV.sc (Value.int IntKind.i64 (lf i0))) ∧
    True ∧
    Sub (AV.rf (1000 : Nat) (1 : Nat) (0 : Nat) (out_n + (1 : Nat)))
    (AV.rf (1000 : Nat) (1 : Nat) (0 : Nat) (out_n + (1 : Nat))) ∧
    True ∧
    Sub (AV.sc (Value.int IntKind.i64 (IntKind.i64.wrap (i + (1 : Int)))))
    (AV.sc (Value.int IntKind.i64 (IntKind.i64.wrap (i + (1 : Int))))) ∧
    True) ∧
    True ∧
    SubB
    (AV.ar (out_n + (1 : Nat)) (1 : Nat) fun (i_1 : Nat) =>
    AV.sc (Value.int IntKind.i64 (bif i_1.blt out_n then b0f i_1 else IntKind.i64.wrap ((-7000 : Int) - i))))
    (AV.ar (out_n + (1 : Nat)) (1 : Nat) fun (i0 : Nat) =>
    AV.sc (Value.int IntKind.i64 (bif i0.blt out_n then b0f i0 else IntKind.i64.wrap ((-7000 : Int) - i)))) ∧
    True) ∧
    L53_0 ln lf (out_n + (1 : Nat)) (IntKind.i64.wrap (i + (1 : Int))) (out_n + (1 : Nat))
    (fun (i_1 : Nat) => bif i_1.blt out_n then b0f i_1 else IntKind.i64.wrap ((-7000 : Int) - i)) res) ∧
    (decide (i < (3 : Int)) = false →
    True ∧
    True ∧
    True ∧
    ((0 : Int) ≤ (0 : Int) ∧
    (0 : Int) ≤ (↑ln : Int) ∧ (0 : Nat) + (↑ln : Int).toNat ≤ b0n ∧ ((0 : Int) = (0 : Int) ∨ (0 : Nat) + Int.toNat (0 : Int) < b0n)) ∧
    True ∧
    True ∧
    ((plus (0 : Nat) (Int.toNat (0 : Int)) + ((↑ln : Int) - (0 : Int)).toNat ≤ b0n ∧
    Sub
    (AV.vec false (1 : Nat) ((↑ln : Int) - (0 : Int)).toNat (b0n - plus (0 : Nat) (Int.toNat (0 : Int))) fun (i : Nat) =>
    AV.sc (Value.int IntKind.i64 (b0f (plus (plus (0 : Nat) (Int.toNat (0 : Int))) i))))
    (AV.vec false (1 : Nat) ((↑ln : Int) - (0 : Int)).toNat (b0n - plus (0 : Nat) (Int.toNat (0 : Int))) fun (i : Nat) =>
    AV.sc (Value.int IntKind.i64 (b0f (plus (plus (0 : Nat) (Int.toNat (0 : Int))) i)))) ∧
    True) ∧
    True) ∧
    Sub
    (AV.vec false (1 : Nat) ((↑ln : Int) - (0 : Int)).toNat (b0n - plus (0 : Nat) (Int.toNat (0 : Int))) fun (i : Nat) =>
    AV.sc (Value.int IntKind.i64 (b0f (plus (plus (0 : Nat) (Int.toNat (0 : Int))) i))))
    res ∧
    SubOut [] []) from
    ⟨trivial, ⟨trivial, (And.elim (fun h2 k2 => ⟨(fun x3 => (fun h3 => ⟨trivial, ⟨trivial, ⟨trivial, ⟨⟨⟨trivial, trivial⟩, trivial⟩, (And.elim (fun h8 k8 => ⟨(And.elim (fun h9 k9 => ⟨h9, (And.elim (fun h10 k10 => ⟨((fun h11 => ⟨h11, rfl⟩) h10), (And.elim (fun h11 k11 => ⟨h11, k11⟩) k10)⟩) k9)⟩) h8), ⟨trivial, ⟨trivial, ⟨trivial, ⟨trivial, ⟨⟨⟨trivial, ⟨Sub.refl _, ⟨trivial, ⟨Sub.refl _, ⟨trivial, ⟨Sub.refl _, trivial⟩⟩⟩⟩⟩⟩, ⟨trivial, ⟨SubB.refl _, trivial⟩⟩⟩, k8⟩⟩⟩⟩⟩⟩) h3)⟩⟩⟩⟩) (h2 x3)), (fun x3 => (fun h3 => ⟨trivial, ⟨trivial, ⟨trivial, (And.elim (fun h7 k7 => ⟨(And.elim (fun h8 k8 => ⟨h8, (And.elim (fun h9 k9 => ⟨h9, (And.elim (fun h10 k10 => ⟨h10, k10⟩) k9)⟩) k8)⟩) h7), ⟨trivial, ⟨trivial, (And.elim (fun h10 k10 => ⟨((fun h11 => ⟨((fun h12 => ⟨h12, ⟨Sub.refl _, trivial⟩⟩) h11), trivial⟩) h10), ((fun h11 => ⟨h11, trivial⟩) k10)⟩) k7)⟩⟩⟩) h3)⟩⟩⟩) (k2 x3))⟩) h)⟩⟩)
theorem hf59 : Go.Proofs.Try.prog.funcs[59]? = some Go.Proofs.Try.f59 := by kernel_rfl
abbrev s59_e (tn : Nat) (tm : Nat) (tf : Nat → Int) (ln : Nat) (lf : Nat → Int) : List (Nat × AV) := [(0, (.vec true 1 tn tm (fun i0 => (.sc (.int .i64 (tf i0)))))), (1, (.vec true 1 ln ln (fun i0 => (.sc (.int .i64 (lf i0))))))]
abbrev m59_e (tn : Nat) (tm : Nat) (tf : Nat → Int) (ln : Nat) (lf : Nat → Int) : List (Nat × Nat × AV) := []
def L59_e (tn : Nat) (tm : Nat) (tf : Nat → Int) (ln : Nat) (lf : Nat → Int) (res : AV) : Prop := Goes ⟨Go.Proofs.Try.prog, 59, [], res, []⟩ (place Go.Proofs.Try.f59 []) (s59_e tn tm tf ln lf) (m59_e tn tm tf ln lf)
abbrev s59_0 (ln : Nat) (lf : Nat → Int) (alln : Nat) (allf : Nat → Int) (i : Int) : List (Nat × AV) := [(1, (.vec true 1 ln ln (fun i0 => (.sc (.int .i64 (lf i0)))))), (5, (.vec true 1 alln alln (fun i0 => (.sc (.int .i64 (allf i0)))))), (6, (.sc (.int .i64 i)))]
abbrev m59_0 (ln : Nat) (lf : Nat → Int) (alln : Nat) (allf : Nat → Int) (i : Int) : List (Nat × Nat × AV) := []
def L59_0 (ln : Nat) (lf : Nat → Int) (alln : Nat) (allf : Nat → Int) (i : Int) (res : AV) : Prop := Goes ⟨Go.Proofs.Try.prog, 59, [], res, []⟩ (place Go.Proofs.Try.f59 [1, 1, 1, 0, 1, 0, 0]) (s59_0 ln lf alln allf i) (m59_0 ln lf alln allf i)
theorem o59 (tn : Nat) (tm : Nat) (tf : Nat → Int) (ln : Nat) (lf : Nat → Int) (res : AV) (hnew : newOnly res) (h : L59_e tn tm tf ln lf res) : Ok Go.Proofs.Try.prog 59 [(.vec true 1 tn tm (fun i0 => (.sc (.int .i64 (tf i0))))), (.vec true 1 ln ln (fun i0 => (.sc (.int .i64 (lf i0)))))] [] res [] :=
  okRule2 59 Go.Proofs.Try.f59 hf59 [(.vec true 1 tn tm (fun i0 => (.sc (.int .i64 (tf i0))))), (.vec true 1 ln ln (fun i0 => (.sc (.int .i64 (lf i0)))))] [] res [] [] rfl (by kernel_rfl) (by kernel_rfl) (by kernel_rfl) ⟨hnew, by simp⟩ (L59_e tn tm tf ln lf res) (by kernel_rfl) h
theorem r59_e (tn : Nat) (tm : Nat) (tf : Nat → Int) (ln : Nat) (lf : Nat → Int) (res : AV)
    (h : ∃ (r : Bool),
  Ok Proofs.Try.prog (60 : Nat)
    [AV.vec true (1 : Nat) tn tm fun (i : Nat) => AV.sc (Value.int IntKind.i64 (tf i)),
    AV.vec true (1 : Nat) ln ln fun (i : Nat) => AV.sc (Value.int IntKind.i64 (lf i))]
    [] (AV.sc (Value.bool r)) [] ∧
    ((!r) = false →
    IntKind.i64.wrap ((↑ln : Int) + (3 : Int)) ≤ (↑tm : Int) ∧
    ((0 : Int) ≤ (0 : Int) ∧ (0 : Int) ≤ IntKind.i64.wrap ((↑ln : Int) + (3 : Int))) ∧
    Sub
    (AV.vec true (1 : Nat) (IntKind.i64.wrap ((↑ln : Int) + (3 : Int)) - (0 : Int)).toNat (tm - Int.toNat (0 : Int)) fun (i : Nat) =>
    AV.sc (Value.int IntKind.i64 (tf (plus (Int.toNat (0 : Int)) i))))
    (AV.vec true (1 : Nat) (IntKind.i64.wrap ((↑ln : Int) + (3 : Int)) - (0 : Int)).toNat
    (IntKind.i64.wrap ((↑ln : Int) + (3 : Int)) - (0 : Int)).toNat fun (i0 : Nat) =>
    AV.sc (Value.int IntKind.i64 (tf (plus (Int.toNat (0 : Int)) i0)))) ∧
    L59_0 ln lf (IntKind.i64.wrap ((↑ln : Int) + (3 : Int)) - (0 : Int)).toNat (fun (i : Nat) => tf (plus (Int.toNat (0 : Int)) i)) (0 : Int) res) ∧
    ((!r) = !false → Sub (AV.sc (Value.bool false)) res)) :
    L59_e tn tm tf ln lf res :=
  rule Go.Am.Seat.tabOk 59 [] Go.Proofs.Try.f59 hf59 [] (s59_e tn tm tf ln lf) (m59_e tn tm tf ln lf) res [] 400
    (Orc.call [] [] (fun (r60 : Bool) => AV.sc (Value.bool r60)) (fun (r60 : Bool) => []) fun (r60 : Bool) =>
  (Orc.cut (nat_lit 8)
    (s59_0 ln lf ((IntKind.i64, IntKind.i64.wrap ((↑ln : Int) + (3 : Int))).snd - (0 : Int)).toNat
    (fun (i : Nat) => tf (plus (Int.toNat (0 : Int)) i)) (0 : Int))
    (m59_0 ln lf ((IntKind.i64, IntKind.i64.wrap ((↑ln : Int) + (3 : Int))).snd - (0 : Int)).toNat
    (fun (i : Nat) => tf (plus (Int.toNat (0 : Int)) i)) (0 : Int))
    []).no.yes.yes.yes.yes.yes.br
    (Orc.fin (AV.sc (Value.bool false)) [] []).yes.no.no.no.no.no) _ _ (by kernel_rfl) (by kernel_rfl) (show True ∧
  True ∧
    True ∧
    ∃ (r : Bool),
    ((True ∧ True ∧ True) ∧
    True ∧
    Ok Proofs.Try.prog (60 : Nat)
    [AV.vec true (1 : Nat) tn tm fun (i : Nat) => AV.sc (Value.int IntKind.i64 (tf i)),
    AV.vec true (1 : Nat) ln ln fun (i : Nat) => AV.sc (Value.int IntKind.i64 (lf i))]
    [] (AV.sc (Value.bool r)) []) ∧
    True ∧
    True ∧
    ((!r) = false →
    True ∧
    false = false ∧
    True ∧
    false = false ∧
    True ∧
    false = false ∧
    True ∧
    false = false ∧
    True ∧
    false = false ∧
    IntKind.i64.wrap ((↑ln : Int) + (3 : Int)) ≤ (↑tm : Int) ∧
    True ∧
    false = false ∧
    True ∧
    True ∧
    True ∧
    True ∧
    ((0 : Int) ≤ (0 : Int) ∧
    (0 : Int) ≤ IntKind.i64.wrap ((↑ln : Int) + (3 : Int)) ∧
    IntKind.i64.wrap ((↑ln : Int) + (3 : Int)) ≤ (↑tm : Int)) ∧
    True ∧
    True ∧
    ((True ∧
    Sub (AV.vec true (1 : Nat) ln ln fun (i0 : Nat) => AV.sc (Value.int IntKind.i64 (lf i0)))
    (AV.vec true (1 : Nat) ln ln fun (i0 : Nat) => AV.sc (Value.int IntKind.i64 (lf i0))) ∧
    True ∧
    Sub
    (AV.vec true (1 : Nat) (IntKind.i64.wrap ((↑ln : Int) + (3 : Int)) - (0 : Int)).toNat
    (tm - Int.toNat (0 : Int)) fun (i : Nat) =>
    AV.sc (Value.int IntKind.i64 (tf (plus (Int.toNat (0 : Int)) i))))
    (AV.vec true (1 : Nat) (IntKind.i64.wrap ((↑ln : Int) + (3 : Int)) - (0 : Int)).toNat
    (IntKind.i64.wrap ((↑ln : Int) + (3 : Int)) - (0 : Int)).toNat fun (i0 : Nat) =>
    AV.sc (Value.int IntKind.i64 (tf (plus (Int.toNat (0 : Int)) i0)))) ∧
    True ∧
    Sub (AV.sc (Value.int IntKind.i64 (0 : Int)))
    (AV.sc (Value.int IntKind.i64 (0 : Int))) ∧
    True) ∧
    True) ∧
    L59_0 ln lf (IntKind.i64.wrap ((↑ln : Int) + (3 : Int)) - (0 : Int)).toNat
    (fun (i : Nat) => tf (plus (Int.toNat (0 : Int)) i)) (0 : Int) res) ∧
    ((!r) = !false →
    true = true ∧
    (!false) = !false ∧
    true = true ∧
    (!false) = !false ∧
    true = true ∧
    (!false) = !false ∧
    true = true ∧
    (!false) = !false ∧
    true = true ∧
    (!false) = !false ∧
    true = true ∧
    True ∧
    true = true ∧
    True ∧
    True ∧
    ((True ∧ Sub (AV.sc (Value.bool false)) (AV.sc (Value.bool false)) ∧ True) ∧ True) ∧
    Sub (AV.sc (Value.bool false)) res ∧ SubOut [] []) from
    ⟨trivial, ⟨trivial, ⟨trivial, (Exists.elim h fun x3 h3 => ⟨x3, (And.elim (fun h4 k4 => ⟨⟨⟨trivial, ⟨trivial, trivial⟩⟩, ⟨trivial, h4⟩⟩, ⟨trivial, ⟨trivial, (And.elim (fun h7 k7 => ⟨(fun x8 => (fun h8 => ⟨trivial, ⟨rfl, ⟨trivial, ⟨rfl, ⟨trivial, ⟨rfl, ⟨trivial, ⟨rfl, ⟨trivial, ⟨rfl, (And.elim (fun h19 k19 => ⟨h19, ⟨trivial, ⟨rfl, ⟨trivial, ⟨trivial, ⟨trivial, ⟨trivial, (And.elim (fun h26 k26 => ⟨(And.elim (fun h27 k27 => ⟨h27, ((fun h28 => ⟨h28, h19⟩) k27)⟩) h26), ⟨trivial, ⟨trivial, (And.elim (fun h29 k29 => ⟨((fun h30 => ⟨⟨trivial, ⟨Sub.refl _, ⟨trivial, ((fun h34 => ⟨h34, ⟨trivial, ⟨Sub.refl _, trivial⟩⟩⟩) h30)⟩⟩⟩, trivial⟩) h29), k29⟩) k26)⟩⟩⟩) k19)⟩⟩⟩⟩⟩⟩⟩) h8)⟩⟩⟩⟩⟩⟩⟩⟩⟩⟩) (h7 x8)), (fun x8 => (fun h8 => ⟨rfl, ⟨rfl, ⟨rfl, ⟨rfl, ⟨rfl, ⟨rfl, ⟨rfl, ⟨rfl, ⟨rfl, ⟨rfl, ⟨rfl, ⟨trivial, ⟨rfl, ⟨trivial, ⟨trivial, ⟨⟨⟨trivial, ⟨Sub.refl _, trivial⟩⟩, trivial⟩, ((fun h25 => ⟨h25, trivial⟩) h8)⟩⟩⟩⟩⟩⟩⟩⟩⟩⟩⟩⟩⟩⟩⟩⟩) (k7 x8))⟩) k4)⟩⟩⟩) h3)⟩)⟩⟩⟩)
theorem r59_0 (ln : Nat) (lf : Nat → Int) (alln : Nat) (allf : Nat → Int) (i : Int) (res : AV)
    (h : (decide (i < (3 : Int)) = true →
    ((0 : Int) ≤ IntKind.i64.wrap ((↑ln : Int) + i) ∧ IntKind.i64.wrap ((↑ln : Int) + i) < (↑alln : Int)) ∧
    ((allf (IntKind.i64.wrap ((↑ln : Int) + i)).toNat != IntKind.i64.wrap ((-7000 : Int) - i)) = true → Sub (AV.sc (Value.bool false)) res) ∧
    ((allf (IntKind.i64.wrap ((↑ln : Int) + i)).toNat != IntKind.i64.wrap ((-7000 : Int) - i)) = false →
    L59_0 ln lf alln allf (IntKind.i64.wrap (i + (1 : Int))) res)) ∧
  (decide (i < (3 : Int)) = false → Sub (AV.sc (Value.bool true)) res)) :
    L59_0 ln lf alln allf i res :=
  rule Go.Am.Seat.tabOk 59 [] Go.Proofs.Try.f59 hf59 [1, 1, 1, 0, 1, 0, 0] (s59_0 ln lf alln allf i) (m59_0 ln lf alln allf i) res [] 400
    (((Orc.fin (AV.sc (Value.bool false)) [] []).br
    (Orc.cut (nat_lit 4) (s59_0 ln lf alln allf (IntKind.i64.wrap (i + (1 : Int)))) (m59_0 ln lf alln allf (IntKind.i64.wrap (i + (1 : Int)))) [])).br
  (Orc.fin (AV.sc (Value.bool true)) [] [])) _ _ (by kernel_rfl) (by kernel_rfl) (show True ∧
  True ∧
    (decide (i < (3 : Int)) = true →
    True ∧
    True ∧
    True ∧
    True ∧
    True ∧
    ((0 : Int) ≤ IntKind.i64.wrap ((↑ln : Int) + i) ∧ IntKind.i64.wrap ((↑ln : Int) + i) < (↑alln : Int)) ∧
    True ∧
    True ∧
    True ∧
    True ∧
    ((allf (IntKind.i64.wrap ((↑ln : Int) + i)).toNat != IntKind.i64.wrap ((-7000 : Int) - i)) = true →
    True ∧
    True ∧
    ((True ∧ Sub (AV.sc (Value.bool false)) (AV.sc (Value.bool false)) ∧ True) ∧ True) ∧
    Sub (AV.sc (Value.bool false)) res ∧ SubOut [] []) ∧
    ((allf (IntKind.i64.wrap ((↑ln : Int) + i)).toNat != IntKind.i64.wrap ((-7000 : Int) - i)) = false →
    True ∧
    True ∧
    True ∧
    ((True ∧
    Sub (AV.vec true (1 : Nat) ln ln fun (i0 : Nat) => AV.sc (Value.int IntKind.i64 (lf i0)))
    (AV.vec true (1 : Nat) ln ln fun (i0 : Nat) => AV.sc (Value.int IntKind.i64 (lf i0))) ∧
    True ∧
    Sub (AV.vec true (1 : Nat) alln alln fun (i0 : Nat) => AV.sc (Value.int IntKind.i64 (allf i0)))
    (AV.vec true (1 : Nat) alln alln fun (i0 : Nat) => AV.sc (Value.int IntKind.i64 (allf i0))) ∧
    True ∧
    Sub (AV.sc (Value.int IntKind.i64 (IntKind.i64.wrap (i + (1 : Int)))))
    (AV.sc (Value.int IntKind.i64 (IntKind.i64.wrap (i + (1 : Int))))) ∧
    True) ∧
    True) ∧
    L59_0 ln lf alln allf (IntKind.i64.wrap (i + (1 : Int))) res)) ∧
    (decide (i < (3 : Int)) = false →
    True ∧ True ∧ ((True ∧ Sub (AV.sc (Value.bool true)) (AV.sc (Value.bool true)) ∧ True) ∧ True) ∧ Sub (AV.sc (Value.bool true)) res ∧ SubOut [] []) from
    ⟨trivial, ⟨trivial, (And.elim (fun h2 k2 => ⟨(fun x3 => (fun h3 => ⟨trivial, ⟨trivial, ⟨trivial, ⟨trivial, ⟨trivial, (And.elim (fun h9 k9 => ⟨(And.elim (fun h10 k10 => ⟨h10, k10⟩) h9), ⟨trivial, ⟨trivial, ⟨trivial, ⟨trivial, (And.elim (fun h14 k14 => ⟨(fun x15 => (fun h15 => ⟨trivial, ⟨trivial, ⟨⟨⟨trivial, ⟨Sub.refl _, trivial⟩⟩, trivial⟩, ((fun h19 => ⟨h19, trivial⟩) h15)⟩⟩⟩) (h14 x15)), (fun x15 => (fun h15 => ⟨trivial, ⟨trivial, ⟨trivial, ⟨⟨⟨trivial, ⟨Sub.refl _, ⟨trivial, ⟨Sub.refl _, ⟨trivial, ⟨Sub.refl _, trivial⟩⟩⟩⟩⟩⟩, trivial⟩, h15⟩⟩⟩⟩) (k14 x15))⟩) k9)⟩⟩⟩⟩⟩) h3)⟩⟩⟩⟩⟩) (h2 x3)), (fun x3 => (fun h3 => ⟨trivial, ⟨trivial, ⟨⟨⟨trivial, ⟨Sub.refl _, trivial⟩⟩, trivial⟩, ((fun h7 => ⟨h7, trivial⟩) h3)⟩⟩⟩) (k2 x3))⟩) h)⟩⟩)
end Go.Am.Seat
