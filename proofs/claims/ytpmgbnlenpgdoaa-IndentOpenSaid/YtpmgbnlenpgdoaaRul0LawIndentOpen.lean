/- The rules of 6 functions: from what is owed at each place of a function the function goes on as it is told there. Printed by a program of this seat; Lean checks each. -/
import Derived.Test.YtpmgbnlenpgdoaaAmLawIndentOpen2
import Derived.Test.YtpmgbnlenpgdoaaTab
open Go Go.Am Go.Am.Seat
namespace Go.Am.Seat
set_option linter.unusedVariables false
set_option maxRecDepth 100000
theorem hf11 : Go.Proofs.Try.prog.funcs[11]? = some Go.Proofs.Try.f11 := by kernel_rfl
abbrev s11_e (t : ByteArray) (on : Nat) (ofa : Nat → Int) (ofba : Nat → Int) (ofbba : Nat → Int) : List (Nat × AV) := [(0, (.sc (.string t))), (1, (.vec true 3 on on (fun i0 => (.cons 1 (.sc (.int .i64 (ofa i0))) (.cons 1 (.sc (.int .i64 (ofba i0))) (.cons 1 (.sc (.int .i64 (ofbba i0))) .nil))))))]
abbrev m11_e (t : ByteArray) (on : Nat) (ofa : Nat → Int) (ofba : Nat → Int) (ofbba : Nat → Int) : List (Nat × Nat × AV) := []
def L11_e (t : ByteArray) (on : Nat) (ofa : Nat → Int) (ofba : Nat → Int) (ofbba : Nat → Int) (res : AV) : Prop := Goes ⟨Go.Proofs.Try.prog, 11, [], res, []⟩ (place Go.Proofs.Try.f11 []) (s11_e t on ofa ofba ofbba) (m11_e t on ofa ofba ofbba)
abbrev s11_0 (t : ByteArray) (on : Nat) (ofa : Nat → Int) (ofba : Nat → Int) (ofbba : Nat → Int) (a : Int) : List (Nat × AV) := [(0, (.sc (.string t))), (1, (.vec true 3 on on (fun i0 => (.cons 1 (.sc (.int .i64 (ofa i0))) (.cons 1 (.sc (.int .i64 (ofba i0))) (.cons 1 (.sc (.int .i64 (ofbba i0))) .nil)))))), (5, (.sc (.int .i64 a)))]
abbrev m11_0 (t : ByteArray) (on : Nat) (ofa : Nat → Int) (ofba : Nat → Int) (ofbba : Nat → Int) (a : Int) : List (Nat × Nat × AV) := []
def L11_0 (t : ByteArray) (on : Nat) (ofa : Nat → Int) (ofba : Nat → Int) (ofbba : Nat → Int) (a : Int) (res : AV) : Prop := Goes ⟨Go.Proofs.Try.prog, 11, [], res, []⟩ (place Go.Proofs.Try.f11 [1, 1, 0, 1, 0, 0]) (s11_0 t on ofa ofba ofbba a) (m11_0 t on ofa ofba ofbba a)
abbrev s11_1 (on : Nat) (ofa : Nat → Int) (ofba : Nat → Int) (ofbba : Nat → Int) (t8 : Int) (b0an : Nat) (b0afa : Nat → Int) (b0afba : Nat → Int) (b0afbba : Nat → Int) (b0ban : Nat) (b0bafan : Nat → Nat) (b0bafaf : Nat → Nat → Int) (b0bafba : Nat → Int) (b0bafbba : Nat → Int) (b0bafbbba : Nat → Bool) (b0bafbbbba : Nat → Int) (b0bban : Nat) (b0bbaf : Nat → Int) (b0bbban : Nat) (b0bbbafa : Nat → Int) (b0bbbafba : Nat → Int) (b0bbbafbba : Nat → Int) : List (Nat × AV) := [(1, (.vec true 3 on on (fun i0 => (.cons 1 (.sc (.int .i64 (ofa i0))) (.cons 1 (.sc (.int .i64 (ofba i0))) (.cons 1 (.sc (.int .i64 (ofbba i0))) .nil)))))), (6, (.pt 1000 [] 0)), (8, (.sc (.int .i64 t8)))]
abbrev m11_1 (on : Nat) (ofa : Nat → Int) (ofba : Nat → Int) (ofbba : Nat → Int) (t8 : Int) (b0an : Nat) (b0afa : Nat → Int) (b0afba : Nat → Int) (b0afbba : Nat → Int) (b0ban : Nat) (b0bafan : Nat → Nat) (b0bafaf : Nat → Nat → Int) (b0bafba : Nat → Int) (b0bafbba : Nat → Int) (b0bafbbba : Nat → Bool) (b0bafbbbba : Nat → Int) (b0bban : Nat) (b0bbaf : Nat → Int) (b0bbban : Nat) (b0bbbafa : Nat → Int) (b0bbbafba : Nat → Int) (b0bbbafbba : Nat → Int) : List (Nat × Nat × AV) := [(1000, 76, (.cons 1 (.vec false 3 b0an b0an (fun i0 => (.cons 1 (.sc (.int .i64 (b0afa i0))) (.cons 1 (.sc (.int .i64 (b0afba i0))) (.cons 1 (.sc (.int .i64 (b0afbba i0))) .nil))))) (.cons 1 (.vec false 5 b0ban b0ban (fun i0 => (.cons 1 (.vec false 1 (b0bafan i0) (b0bafan i0) (fun i1 => (.sc (.int .i64 (b0bafaf i0 i1))))) (.cons 1 (.sc (.int .i64 (b0bafba i0))) (.cons 1 (.sc (.int .i64 (b0bafbba i0))) (.cons 1 (.sc (.bool (b0bafbbba i0))) (.cons 1 (.sc (.int .i64 (b0bafbbbba i0))) .nil))))))) (.cons 1 (.vec false 1 b0bban b0bban (fun i0 => (.sc (.int .i64 (b0bbaf i0))))) (.cons 1 (.vec false 3 b0bbban b0bbban (fun i0 => (.cons 1 (.sc (.int .i64 (b0bbbafa i0))) (.cons 1 (.sc (.int .i64 (b0bbbafba i0))) (.cons 1 (.sc (.int .i64 (b0bbbafbba i0))) .nil))))) .nil)))))]
def L11_1 (on : Nat) (ofa : Nat → Int) (ofba : Nat → Int) (ofbba : Nat → Int) (t8 : Int) (b0an : Nat) (b0afa : Nat → Int) (b0afba : Nat → Int) (b0afbba : Nat → Int) (b0ban : Nat) (b0bafan : Nat → Nat) (b0bafaf : Nat → Nat → Int) (b0bafba : Nat → Int) (b0bafbba : Nat → Int) (b0bafbbba : Nat → Bool) (b0bafbbbba : Nat → Int) (b0bban : Nat) (b0bbaf : Nat → Int) (b0bbban : Nat) (b0bbbafa : Nat → Int) (b0bbbafba : Nat → Int) (b0bbbafbba : Nat → Int) (res : AV) : Prop := Goes ⟨Go.Proofs.Try.prog, 11, [], res, []⟩ (place Go.Proofs.Try.f11 [1, 1, 1, 1, 1, 1, 0, 1, 0, 0]) (s11_1 on ofa ofba ofbba t8 b0an b0afa b0afba b0afbba b0ban b0bafan b0bafaf b0bafba b0bafbba b0bafbbba b0bafbbbba b0bban b0bbaf b0bbban b0bbbafa b0bbbafba b0bbbafbba) (m11_1 on ofa ofba ofbba t8 b0an b0afa b0afba b0afbba b0ban b0bafan b0bafaf b0bafba b0bafbba b0bafbbba b0bafbbbba b0bban b0bbaf b0bbban b0bbbafa b0bbbafba b0bbbafbba)
abbrev s11_2 (on : Nat) (ofa : Nat → Int) (ofba : Nat → Int) (ofbba : Nat → Int) (t8 : Int) (t9 : Int) (b0an : Nat) (b0afa : Nat → Int) (b0afba : Nat → Int) (b0afbba : Nat → Int) (b0ban : Nat) (b0bafan : Nat → Nat) (b0bafaf : Nat → Nat → Int) (b0bafba : Nat → Int) (b0bafbba : Nat → Int) (b0bafbbba : Nat → Bool) (b0bafbbbba : Nat → Int) (b0bban : Nat) (b0bbaf : Nat → Int) (b0bbban : Nat) (b0bbbafa : Nat → Int) (b0bbbafba : Nat → Int) (b0bbbafbba : Nat → Int) : List (Nat × AV) := [(1, (.vec true 3 on on (fun i0 => (.cons 1 (.sc (.int .i64 (ofa i0))) (.cons 1 (.sc (.int .i64 (ofba i0))) (.cons 1 (.sc (.int .i64 (ofbba i0))) .nil)))))), (6, (.pt 1000 [] 0)), (8, (.sc (.int .i64 t8))), (9, (.sc (.int .i64 t9)))]
abbrev m11_2 (on : Nat) (ofa : Nat → Int) (ofba : Nat → Int) (ofbba : Nat → Int) (t8 : Int) (t9 : Int) (b0an : Nat) (b0afa : Nat → Int) (b0afba : Nat → Int) (b0afbba : Nat → Int) (b0ban : Nat) (b0bafan : Nat → Nat) (b0bafaf : Nat → Nat → Int) (b0bafba : Nat → Int) (b0bafbba : Nat → Int) (b0bafbbba : Nat → Bool) (b0bafbbbba : Nat → Int) (b0bban : Nat) (b0bbaf : Nat → Int) (b0bbban : Nat) (b0bbbafa : Nat → Int) (b0bbbafba : Nat → Int) (b0bbbafbba : Nat → Int) : List (Nat × Nat × AV) := [(1000, 76, (.cons 1 (.vec false 3 b0an b0an (fun i0 => (.cons 1 (.sc (.int .i64 (b0afa i0))) (.cons 1 (.sc (.int .i64 (b0afba i0))) (.cons 1 (.sc (.int .i64 (b0afbba i0))) .nil))))) (.cons 1 (.vec false 5 b0ban b0ban (fun i0 => (.cons 1 (.vec false 1 (b0bafan i0) (b0bafan i0) (fun i1 => (.sc (.int .i64 (b0bafaf i0 i1))))) (.cons 1 (.sc (.int .i64 (b0bafba i0))) (.cons 1 (.sc (.int .i64 (b0bafbba i0))) (.cons 1 (.sc (.bool (b0bafbbba i0))) (.cons 1 (.sc (.int .i64 (b0bafbbbba i0))) .nil))))))) (.cons 1 (.vec false 1 b0bban b0bban (fun i0 => (.sc (.int .i64 (b0bbaf i0))))) (.cons 1 (.vec false 3 b0bbban b0bbban (fun i0 => (.cons 1 (.sc (.int .i64 (b0bbbafa i0))) (.cons 1 (.sc (.int .i64 (b0bbbafba i0))) (.cons 1 (.sc (.int .i64 (b0bbbafbba i0))) .nil))))) .nil)))))]
def L11_2 (on : Nat) (ofa : Nat → Int) (ofba : Nat → Int) (ofbba : Nat → Int) (t8 : Int) (t9 : Int) (b0an : Nat) (b0afa : Nat → Int) (b0afba : Nat → Int) (b0afbba : Nat → Int) (b0ban : Nat) (b0bafan : Nat → Nat) (b0bafaf : Nat → Nat → Int) (b0bafba : Nat → Int) (b0bafbba : Nat → Int) (b0bafbbba : Nat → Bool) (b0bafbbbba : Nat → Int) (b0bban : Nat) (b0bbaf : Nat → Int) (b0bbban : Nat) (b0bbbafa : Nat → Int) (b0bbbafba : Nat → Int) (b0bbbafbba : Nat → Int) (res : AV) : Prop := Goes ⟨Go.Proofs.Try.prog, 11, [], res, []⟩ (place Go.Proofs.Try.f11 [1, 1, 1, 1, 1, 1, 0, 1, 0, 0, 1, 0, 0, 1, 1, 0, 0]) (s11_2 on ofa ofba ofbba t8 t9 b0an b0afa b0afba b0afbba b0ban b0bafan b0bafaf b0bafba b0bafbba b0bafbbba b0bafbbbba b0bban b0bbaf b0bbban b0bbbafa b0bbbafba b0bbbafbba) (m11_2 on ofa ofba ofbba t8 t9 b0an b0afa b0afba b0afbba b0ban b0bafan b0bafaf b0bafba b0bafbba b0bafbbba b0bafbbbba b0bban b0bbaf b0bbban b0bbbafa b0bbbafba b0bbbafbba)
theorem o11 (t : ByteArray) (on : Nat) (ofa : Nat → Int) (ofba : Nat → Int) (ofbba : Nat → Int) (res : AV) (hnew : newOnly res) (h : L11_e t on ofa ofba ofbba res) : Ok Go.Proofs.Try.prog 11 [(.sc (.string t)), (.vec true 3 on on (fun i0 => (.cons 1 (.sc (.int .i64 (ofa i0))) (.cons 1 (.sc (.int .i64 (ofba i0))) (.cons 1 (.sc (.int .i64 (ofbba i0))) .nil)))))] [] res [] :=
  okRule2 11 Go.Proofs.Try.f11 hf11 [(.sc (.string t)), (.vec true 3 on on (fun i0 => (.cons 1 (.sc (.int .i64 (ofa i0))) (.cons 1 (.sc (.int .i64 (ofba i0))) (.cons 1 (.sc (.int .i64 (ofbba i0))) .nil)))))] [] res [] [] rfl (by kernel_rfl) (by kernel_rfl) (by kernel_rfl) ⟨hnew, by simp⟩ (L11_e t on ofa ofba ofbba res) (by kernel_rfl) h
theorem r11_e (t : ByteArray) (on : Nat) (ofa : Nat → Int) (ofba : Nat → Int) (ofbba : Nat → Int) (res : AV)
    (h : (decide ((↑on : Int) > (2000 : Int)) = true → Sub (AV.sc (Value.bool true)) res) ∧
  (decide ((↑on : Int) > (2000 : Int)) = false → L11_0 t on ofa ofba ofbba (0 : Int) res)) :
    L11_e t on ofa ofba ofbba res :=
  rule Go.Am.Seat.tabOk 11 [] Go.Proofs.Try.f11 hf11 [] (s11_e t on ofa ofba ofbba) (m11_e t on ofa ofba ofbba) res [] 400
    ((Orc.fin (AV.sc (Value.bool true)) [] []).br (Orc.cut (nat_lit 6) (s11_0 t on ofa ofba ofbba (0 : Int)) (m11_0 t on ofa ofba ofbba (0 : Int)) [])) _ _ (by kernel_rfl) (by kernel_rfl) (show True ∧
  True ∧
    True ∧
    True ∧
    (decide ((↑on : Int) > (2000 : Int)) = true →
    True ∧ True ∧ ((True ∧ Sub (AV.sc (Value.bool true)) (AV.sc (Value.bool true)) ∧ True) ∧ True) ∧ Sub (AV.sc (Value.bool true)) res ∧ SubOut [] []) ∧
    (decide ((↑on : Int) > (2000 : Int)) = false →
    True ∧
    ((True ∧
    Sub (AV.sc (Value.string t)) (AV.sc (Value.string t)) ∧
    True ∧
    Sub
    (AV.vec true (3 : Nat) on on fun (i0 : Nat) =>
    AV.cons (1 : Nat) (AV.sc (Value.int IntKind.i64 (ofa i0)))
    (AV.cons (1 : Nat) (AV.sc (Value.int IntKind.i64 (ofba i0)))
    (AV.cons (1 : Nat) (AV.sc (Value.int IntKind.i64 (ofbba i0))) AV.nil)))
    (AV.vec true (3 : Nat) on on fun (i0 : Nat) =>
    AV.cons (1 : Nat) (AV.sc (Value.int IntKind.i64 (ofa i0)))
    (AV.cons (1 : Nat) (AV.sc (Value.int IntKind.i64 (ofba i0)))
    (AV.cons (1 : Nat) (AV.sc (Value.int IntKind.i64 (ofbba i0))) AV.nil))) ∧
    True ∧ Sub (AV.sc (Value.int IntKind.i64 (0 : Int))) (AV.sc (Value.int IntKind.i64 (0 : Int))) ∧ True) ∧
    True) ∧
    L11_0 t on ofa ofba ofbba (0 : Int) res) from
    ⟨trivial, ⟨trivial, ⟨trivial, ⟨trivial, (And.elim (fun h4 k4 => ⟨(fun x5 => (fun h5 => ⟨trivial, ⟨trivial, ⟨⟨⟨trivial, ⟨Sub.refl _, trivial⟩⟩, trivial⟩, ((fun h9 => ⟨h9, trivial⟩) h5)⟩⟩⟩) (h4 x5)), (fun x5 => (fun h5 => ⟨trivial, ⟨⟨⟨trivial, ⟨Sub.refl _, ⟨trivial, ⟨Sub.refl _, ⟨trivial, ⟨Sub.refl _, trivial⟩⟩⟩⟩⟩⟩, trivial⟩, h5⟩⟩) (k4 x5))⟩) h)⟩⟩⟩⟩)
theorem r11_0 (t : ByteArray) (on : Nat) (ofa : Nat → Int) (ofba : Nat → Int) (ofbba : Nat → Int) (a : Int) (res : AV)
    (h : (decide (a < (↑on : Int)) = true →
    ((0 : Int) ≤ a ∧ a < (↑on : Int)) ∧
    ((ofa a.toNat == (20 : Int)) = false →
    ((ofa a.toNat == (21 : Int)) = true → ∃ (r : Bool), Ok Proofs.Try.prog (39 : Nat) [] [] (AV.sc (Value.bool r)) [] ∧ Sub (AV.sc (Value.bool r)) res) ∧
    ((ofa a.toNat == (21 : Int)) = false → L11_0 t on ofa ofba ofbba (IntKind.i64.wrap (a + (1 : Int))) res)) ∧
    ((ofa a.toNat == (20 : Int)) = !false → ∃ (r : Bool), Ok Proofs.Try.prog (39 : Nat) [] [] (AV.sc (Value.bool r)) [] ∧ Sub (AV.sc (Value.bool r)) res)) ∧
  (decide (a < (↑on : Int)) = false →
    ∃ (r :
    Nat ×
    (Nat → Int) ×
    (Nat → Int) ×
    (Nat → Int) ×
    Nat ×
    (Nat → Nat) ×
    (Nat → Nat → Int) ×
    (Nat → Int) × (Nat → Int) × (Nat → Bool) × (Nat → Int) × Nat × (Nat → Int) × Nat × (Nat → Int) × (Nat → Int) × (Nat → Int) × Int),
    Ok Proofs.Try.prog (41 : Nat)
    [AV.sc (Value.string t),
    AV.vec true (3 : Nat) on on fun (i : Nat) =>
    AV.cons (1 : Nat) (AV.sc (Value.int IntKind.i64 (ofa i)))
    (AV.cons (1 : Nat) (AV.sc (Value.int IntKind.i64 (ofba i))) (AV.cons (1 : Nat) (AV.sc (Value.int IntKind.i64 (ofbba i))) AV.nil))]
    []
    (AV.cons (1 : Nat)
    (AV.cons (1 : Nat)
    (AV.vec false (3 : Nat) r.fst r.fst fun (i0 : Nat) =>
    AV.cons (1 : Nat) (AV.sc (Value.int IntKind.i64 (r.snd.fst i0)))
    (AV.cons (1 : Nat) (AV.sc (Value.int IntKind.i64 (r.snd.snd.fst i0)))
    (AV.cons (1 : Nat) (AV.sc (Value.int IntKind.i64 (r.snd.snd.snd.fst i0))) AV.nil)))
    (AV.cons (1 : Nat)
    (AV.vec false (5 : Nat) r.snd.snd.snd.snd.fst r.snd.snd.snd.snd.fst fun (i0 : Nat) =>
    AV.cons (1 : Nat)
    (AV.vec false (1 : Nat) (r.snd.snd.snd.snd.snd.fst i0) (r.snd.snd.snd.snd.snd.fst i0) fun (i1 : Nat) =>
    AV.sc (Value.int IntKind.i64 (r.snd.snd.snd.snd.snd.snd.fst i0 i1)))
    (AV.cons (1 : Nat) (AV.sc (Value.int IntKind.i64 (r.snd.snd.snd.snd.snd.snd.snd.fst i0)))
    (AV.cons (1 : Nat) (AV.sc (Value.int IntKind.i64 (r.snd.snd.snd.snd.snd.snd.snd.snd.fst i0)))
    (AV.cons (1 : Nat) (AV.sc (Value.bool (r.snd.snd.snd.snd.snd.snd.snd.snd.snd.fst i0)))
    (AV.cons (1 : Nat) (AV.sc (Value.int IntKind.i64 (r.snd.snd.snd.snd.snd.snd.snd.snd.snd.snd.fst i0))) AV.nil)))))
    (AV.cons (1 : Nat)
    (AV.vec false (1 : Nat) r.snd.snd.snd.snd.snd.snd.snd.snd.snd.snd.snd.fst r.snd.snd.snd.snd.snd.snd.snd.snd.snd.snd.snd.fst
    fun (i0 : Nat) => AV.sc (Value.int IntKind.i64 (r.snd.snd.snd.snd.snd.snd.snd.snd.snd.snd.snd.snd.fst i0)))
    (AV.cons (1 : Nat)
    (AV.vec false (3 : Nat) r.snd.snd.snd.snd.snd.snd.snd.snd.snd.snd.snd.snd.snd.fst
    r.snd.snd.snd.snd.snd.snd.snd.snd.snd.snd.snd.snd.snd.fst fun (i0 : Nat) =>
    AV.cons (1 : Nat) (AV.sc (Value.int IntKind.i64 (r.snd.snd.snd.snd.snd.snd.snd.snd.snd.snd.snd.snd.snd.snd.fst i0)))
    (AV.cons (1 : Nat) (AV.sc (Value.int IntKind.i64 (r.snd.snd.snd.snd.snd.snd.snd.snd.snd.snd.snd.snd.snd.snd.snd.fst i0)))
    (AV.cons (1 : Nat) (AV.sc (Value.int IntKind.i64 (r.snd.snd.snd.snd.snd.snd.snd.snd.snd.snd.snd.snd.snd.snd.snd.snd.fst i0)))
    AV.nil)))
    AV.nil))))
    (AV.cons (1 : Nat) (AV.sc (Value.int IntKind.i64 r.snd.snd.snd.snd.snd.snd.snd.snd.snd.snd.snd.snd.snd.snd.snd.snd.snd)) AV.nil)).tup
    [] ∧
    ((r.snd.snd.snd.snd.snd.snd.snd.snd.snd.snd.snd.snd.snd.snd.snd.snd.snd != (0 : Int)) = true →
    ∃ (r : Bool), Ok Proofs.Try.prog (39 : Nat) [] [] (AV.sc (Value.bool r)) [] ∧ Sub (AV.sc (Value.bool r)) res) ∧
    ((r.snd.snd.snd.snd.snd.snd.snd.snd.snd.snd.snd.snd.snd.snd.snd.snd.snd != (0 : Int)) = false →
    (((↑r.snd.snd.snd.snd.fst : Int) != IntKind.i64.wrap ((↑on : Int) + (1 : Int))) = false →
    (((↑r.snd.snd.snd.snd.snd.snd.snd.snd.snd.snd.snd.fst : Int) != IntKind.i64.wrap ((↑on : Int) + (1 : Int))) = false →
    ((0 : Int) ≤ (↑on : Int) ∧ (↑on : Int) < (↑r.snd.snd.snd.snd.snd.snd.snd.snd.snd.snd.snd.fst : Int)) ∧
    (decide
    (r.snd.snd.snd.snd.snd.snd.snd.snd.snd.snd.snd.snd.fst (↑on : Int).toNat >
    (↑r.snd.snd.snd.snd.snd.snd.snd.snd.snd.snd.snd.snd.snd.fst : Int)) =
    true →
    Sub (AV.sc (Value.bool false)) res) ∧
    (decide
    (r.snd.snd.snd.snd.snd.snd.snd.snd.snd.snd.snd.snd.fst (↑on : Int).toNat >
    (↑r.snd.snd.snd.snd.snd.snd.snd.snd.snd.snd.snd.snd.snd.fst : Int)) =
    false →
    L11_1 on ofa ofba ofbba (0 : Int) r.fst r.snd.fst r.snd.snd.fst r.snd.snd.snd.fst r.snd.snd.snd.snd.fst r.snd.snd.snd.snd.snd.fst
    r.snd.snd.snd.snd.snd.snd.fst r.snd.snd.snd.snd.snd.snd.snd.fst r.snd.snd.snd.snd.snd.snd.snd.snd.fst
    r.snd.snd.snd.snd.snd.snd.snd.snd.snd.fst r.snd.snd.snd.snd.snd.snd.snd.snd.snd.snd.fst
    r.snd.snd.snd.snd.snd.snd.snd.snd.snd.snd.snd.fst r.snd.snd.snd.snd.snd.snd.snd.snd.snd.snd.snd.snd.fst
    r.snd.snd.snd.snd.snd.snd.snd.snd.snd.snd.snd.snd.snd.fst r.snd.snd.snd.snd.snd.snd.snd.snd.snd.snd.snd.snd.snd.snd.fst
    r.snd.snd.snd.snd.snd.snd.snd.snd.snd.snd.snd.snd.snd.snd.snd.fst
    r.snd.snd.snd.snd.snd.snd.snd.snd.snd.snd.snd.snd.snd.snd.snd.snd.fst res)) ∧
    (((↑r.snd.snd.snd.snd.snd.snd.snd.snd.snd.snd.snd.fst : Int) != IntKind.i64.wrap ((↑on : Int) + (1 : Int))) = !false →
    Sub (AV.sc (Value.bool false)) res)) ∧
    (((↑r.snd.snd.snd.snd.fst : Int) != IntKind.i64.wrap ((↑on : Int) + (1 : Int))) = !false → Sub (AV.sc (Value.bool false)) res)))) :
    L11_0 t on ofa ofba ofbba a res :=
  rule Go.Am.Seat.tabOk 11 [] Go.Proofs.Try.f11 hf11 [1, 1, 0, 1, 0, 0] (s11_0 t on ofa ofba ofbba a) (m11_0 t on ofa ofba ofbba a) res [] 400
    ((((Orc.call [] [] (fun (r39 : Bool) => AV.sc (Value.bool r39)) (fun (r39 : Bool) => []) fun (r39 : Bool) => Orc.fin (AV.sc (Value.bool r39)) [] []).br
    (Orc.cut (nat_lit 4) (s11_0 t on ofa ofba ofbba (IntKind.i64.wrap (a + (1 : Int))))
    (m11_0 t on ofa ofba ofbba (IntKind.i64.wrap (a + (1 : Int)))) [])).yes.yes.yes.yes.yes.br
    (Orc.call [] [] (fun (r39 : Bool) => AV.sc (Value.bool r39)) (fun (r39 : Bool) => []) fun (r39 : Bool) =>
    Orc.fin (AV.sc (Value.bool r39)) [] []).yes.no.no.no.no.no).br
  (Orc.call [] []
    (fun
    (r41 :
    Nat ×
    (Nat → Int) ×
    (Nat → Int) ×
    (Nat → Int) ×
    Nat ×
    (Nat → Nat) ×
    (Nat → Nat → Int) ×
    (Nat → Int) × (Nat → Int) × (Nat → Bool) × (Nat → Int) × Nat × (Nat → Int) × Nat × (Nat → Int) × (Nat → Int) × (Nat → Int) × Int) =>
    (AV.cons (1 : Nat)
    (AV.cons (1 : Nat)
    (AV.vec false (3 : Nat) r41.fst r41.fst fun (i0 : Nat) =>
    AV.cons (1 : Nat) (AV.sc (Value.int IntKind.i64 (r41.snd.fst i0)))
    (AV.cons (1 : Nat) (AV.sc (Value.int IntKind.i64 (r41.snd.snd.fst i0)))
    (AV.cons (1 : Nat) (AV.sc (Value.int IntKind.i64 (r41.snd.snd.snd.fst i0))) AV.nil)))
    (AV.cons (1 : Nat)
    (AV.vec false (5 : Nat) r41.snd.snd.snd.snd.fst r41.snd.snd.snd.snd.fst fun (i0 : Nat) =>
    AV.cons (1 : Nat)
    (AV.vec false (1 : Nat) (r41.snd.snd.snd.snd.snd.fst i0) (r41.snd.snd.snd.snd.snd.fst i0) fun (i1 : Nat) =>
    AV.sc (Value.int IntKind.i64 (r41.snd.snd.snd.snd.snd.snd.fst i0 i1)))
    (AV.cons (1 : Nat) (AV.sc (Value.int IntKind.i64 (r41.snd.snd.snd.snd.snd.snd.snd.fst i0)))
    (AV.cons (1 : Nat) (AV.sc (Value.int IntKind.i64 (r41.snd.snd.snd.snd.snd.snd.snd.snd.fst i0)))
    (AV.cons (1 : Nat) (AV.sc (Value.bool (r41.snd.snd.snd.snd.snd.snd.snd.snd.snd.fst i0)))
    (AV.cons (1 : Nat) (AV.sc (Value.int IntKind.i64 (r41.snd.snd.snd.snd.snd.snd.snd.snd.snd.snd.fst i0))) AV.nil)))))
    (AV.cons (1 : Nat)
    (AV.vec false (1 : Nat) r41.snd.snd.snd.snd.snd.snd.snd.snd.snd.snd.snd.fst r41.snd.snd.snd.snd.snd.snd.snd.snd.snd.snd.snd.fst
    fun (i0 : Nat) => AV.sc (Value.int IntKind.i64 (r41.snd.snd.snd.snd.snd.snd.snd.snd.snd.snd.snd.snd.fst i0)))
    (AV.cons (1 : Nat)
    (AV.vec false (3 : Nat) r41.snd.snd.snd.snd.snd.snd.snd.snd.snd.snd.snd.snd.snd.fst
    r41.snd.snd.snd.snd.snd.snd.snd.snd.snd.snd.snd.snd.snd.fst fun (i0 : Nat) =>
    AV.cons (1 : Nat) (AV.sc (Value.int IntKind.i64 (r41.snd.snd.snd.snd.snd.snd.snd.snd.snd.snd.snd.snd.snd.snd.fst i0)))
    (AV.cons (1 : Nat) (AV.sc (Value.int IntKind.i64 (r41.snd.snd.snd.snd.snd.snd.snd.snd.snd.snd.snd.snd.snd.snd.snd.fst i0)))
    (AV.cons (1 : Nat) (AV.sc (Value.int IntKind.i64 (r41.snd.snd.snd.snd.snd.snd.snd.snd.snd.snd.snd.snd.snd.snd.snd.snd.fst i0)))
    AV.nil)))
    AV.nil))))
    (AV.cons (1 : Nat) (AV.sc (Value.int IntKind.i64 r41.snd.snd.snd.snd.snd.snd.snd.snd.snd.snd.snd.snd.snd.snd.snd.snd.snd)) AV.nil)).tup)
    (fun
    (r41 :
    Nat ×
    (Nat → Int) ×
    (Nat → Int) ×
    (Nat → Int) ×
    Nat ×
    (Nat → Nat) ×
    (Nat → Nat → Int) ×
    (Nat → Int) × (Nat → Int) × (Nat → Bool) × (Nat → Int) × Nat × (Nat → Int) × Nat × (Nat → Int) × (Nat → Int) × (Nat → Int) × Int) =>
    [])
    fun
    (r41 :
    Nat ×
    (Nat → Int) ×
    (Nat → Int) ×
    (Nat → Int) ×
    Nat ×
    (Nat → Nat) ×
    (Nat → Nat → Int) ×
    (Nat → Int) × (Nat → Int) × (Nat → Bool) × (Nat → Int) × Nat × (Nat → Int) × Nat × (Nat → Int) × (Nat → Int) × (Nat → Int) × Int) =>
    (Orc.call [] [] (fun (r39 : Bool) => AV.sc (Value.bool r39)) (fun (r39 : Bool) => []) fun (r39 : Bool) => Orc.fin (AV.sc (Value.bool r39)) [] []).br
    ((Orc.ch Ch.none
    (Orc.ch (Ch.p false)
    ((Orc.ch Ch.none
    (Orc.ch (Ch.p false)
    ((Orc.fin (AV.sc (Value.bool false)) [] []).br
    (Orc.cut (nat_lit 6)
    (s11_1 on ofa ofba ofbba (0 : Int) r41.fst r41.snd.fst r41.snd.snd.fst r41.snd.snd.snd.fst
    r41.snd.snd.snd.snd.fst r41.snd.snd.snd.snd.snd.fst r41.snd.snd.snd.snd.snd.snd.fst
    r41.snd.snd.snd.snd.snd.snd.snd.fst r41.snd.snd.snd.snd.snd.snd.snd.snd.fst
    r41.snd.snd.snd.snd.snd.snd.snd.snd.snd.fst r41.snd.snd.snd.snd.snd.snd.snd.snd.snd.snd.fst
    r41.snd.snd.snd.snd.snd.snd.snd.snd.snd.snd.snd.fst
    r41.snd.snd.snd.snd.snd.snd.snd.snd.snd.snd.snd.snd.fst
    r41.snd.snd.snd.snd.snd.snd.snd.snd.snd.snd.snd.snd.snd.fst
    r41.snd.snd.snd.snd.snd.snd.snd.snd.snd.snd.snd.snd.snd.snd.fst
    r41.snd.snd.snd.snd.snd.snd.snd.snd.snd.snd.snd.snd.snd.snd.snd.fst
    r41.snd.snd.snd.snd.snd.snd.snd.snd.snd.snd.snd.snd.snd.snd.snd.snd.fst)
    (m11_1 on ofa ofba ofbba (0 : Int) r41.fst r41.snd.fst r41.snd.snd.fst r41.snd.snd.snd.fst
    r41.snd.snd.snd.snd.fst r41.snd.snd.snd.snd.snd.fst r41.snd.snd.snd.snd.snd.snd.fst
    r41.snd.snd.snd.snd.snd.snd.snd.fst r41.snd.snd.snd.snd.snd.snd.snd.snd.fst
    r41.snd.snd.snd.snd.snd.snd.snd.snd.snd.fst r41.snd.snd.snd.snd.snd.snd.snd.snd.snd.snd.fst
    r41.snd.snd.snd.snd.snd.snd.snd.snd.snd.snd.snd.fst
    r41.snd.snd.snd.snd.snd.snd.snd.snd.snd.snd.snd.snd.fst
    r41.snd.snd.snd.snd.snd.snd.snd.snd.snd.snd.snd.snd.snd.fst
    r41.snd.snd.snd.snd.snd.snd.snd.snd.snd.snd.snd.snd.snd.snd.fst
    r41.snd.snd.snd.snd.snd.snd.snd.snd.snd.snd.snd.snd.snd.snd.snd.fst
    r41.snd.snd.snd.snd.snd.snd.snd.snd.snd.snd.snd.snd.snd.snd.snd.snd.fst)
    [((1000 : Nat), some (6 : Nat))])))).yes.yes.yes.yes.yes.yes.yes.yes.yes.br
    (Orc.ch (Ch.p true) (Orc.fin (AV.sc (Value.bool false)) [] []).yes).no.no.no.no.no.no.no.no.no))).yes.yes.yes.yes.yes.yes.br
    (Orc.ch (Ch.p true) (Orc.ch (Ch.p true) (Orc.fin (AV.sc (Value.bool false)) [] []).yes).no.no.no.no.no.no.no.no.no.no).no.no.no.no.no.no))) _ _ (by kernel_rfl) (by kernel_rfl) (show True ∧
  True ∧
    True ∧
    True ∧
    (decide (a < (↑on : Int)) = true →
    True ∧
    True ∧
    ((0 : Int) ≤ a ∧ a < (↑on : Int)) ∧
    True ∧
    True ∧
    True ∧
    True ∧
    ((ofa a.toNat == (20 : Int)) = false →
    True ∧
    false = false ∧
    True ∧
    false = false ∧
    ((0 : Int) ≤ a ∧ a < (↑on : Int)) ∧
    false = false ∧
    True ∧
    false = false ∧
    True ∧
    false = false ∧
    True ∧
    True ∧
    ((ofa a.toNat == (21 : Int)) = true →
    ∃ (r : Bool),
    (True ∧ True ∧ Ok Proofs.Try.prog (39 : Nat) [] [] (AV.sc (Value.bool r)) []) ∧
    True ∧
    True ∧
    ((True ∧ Sub (AV.sc (Value.bool r)) (AV.sc (Value.bool r)) ∧ True) ∧ True) ∧
    Sub (AV.sc (Value.bool r)) res ∧ SubOut [] []) ∧
    ((ofa a.toNat == (21 : Int)) = false →
    True ∧
    True ∧
    True ∧
    ((True ∧
    Sub (AV.sc (Value.string t)) (AV.sc (Value.string t)) ∧
    True ∧
    Sub
    (AV.vec true (3 : Nat) on on fun (i0 : Nat) =>
    AV.cons (1 : Nat) (AV.sc (Value.int IntKind.i64 (ofa i0)))
    (AV.cons (1 : Nat) (AV.sc (Value.int IntKind.i64 (ofba i0)))
    (AV.cons (1 : Nat) (AV.sc (Value.int IntKind.i64 (ofbba i0))) AV.nil)))
    (AV.vec true (3 : Nat) on on fun (i0 : Nat) =>
    AV.cons (1 : Nat) (AV.sc (Value.int IntKind.i64 (ofa i0)))
    (AV.cons (1 : Nat) (AV.sc (Value.int IntKind.i64 (ofba i0)))
    (AV.cons (1 : Nat) (AV.sc (Value.int IntKind.i64 (ofbba i0))) AV.nil))) ∧
    True ∧
    Sub (AV.sc (Value.int IntKind.i64 (IntKind.i64.wrap (a + (1 : Int)))))
    (AV.sc (Value.int IntKind.i64 (IntKind.i64.wrap (a + (1 : Int))))) ∧
    True) ∧
    True) ∧
    L11_0 t on ofa ofba ofbba (IntKind.i64.wrap (a + (1 : Int))) res)) ∧
    ((ofa a.toNat == (20 : Int)) = !false →
    true = true ∧
    (!false) = !false ∧
    true = true ∧
    (!false) = !false ∧
    true = true ∧
    (!false) = !false ∧
    true = true ∧
    (!false) = !false ∧
    true = true ∧
    (!false) = !false ∧
    true = true ∧
    True ∧
    true = true ∧
    ∃ (r : Bool),
    (True ∧ True ∧ Ok Proofs.Try.prog (39 : Nat) [] [] (AV.sc (Value.bool r)) []) ∧
    True ∧
    True ∧
    ((True ∧ Sub (AV.sc (Value.bool r)) (AV.sc (Value.bool r)) ∧ True) ∧ True) ∧
    Sub (AV.sc (Value.bool r)) res ∧ SubOut [] [])) ∧
    (decide (a < (↑on : Int)) = false →
    True ∧
    True ∧
    ∃ (r :
    Nat ×
    (Nat → Int) ×
    (Nat → Int) ×
    (Nat → Int) ×
    Nat ×
    (Nat → Nat) ×
    (Nat → Nat → Int) ×
    (Nat → Int) ×
    (Nat → Int) × (Nat → Bool) × (Nat → Int) × Nat × (Nat → Int) × Nat × (Nat → Int) × (Nat → Int) × (Nat → Int) × Int),
    ((True ∧ True ∧ True) ∧
    True ∧
    Ok Proofs.Try.prog (41 : Nat)
    [AV.sc (Value.string t),
    AV.vec true (3 : Nat) on on fun (i : Nat) =>
    AV.cons (1 : Nat) (AV.sc (Value.int IntKind.i64 (ofa i)))
    (AV.cons (1 : Nat) (AV.sc (Value.int IntKind.i64 (ofba i)))
    (AV.cons (1 : Nat) (AV.sc (Value.int IntKind.i64 (ofbba i))) AV.nil))]
    []
    (AV.cons (1 : Nat)
    (AV.cons (1 : Nat)
    (AV.vec false (3 : Nat) r.fst r.fst fun (i0 : Nat) =>
    AV.cons (1 : Nat) (AV.sc (Value.int IntKind.i64 (r.snd.fst i0)))
    (AV.cons (1 : Nat) (AV.sc (Value.int IntKind.i64 (r.snd.snd.fst i0)))
    (AV.cons (1 : Nat) (AV.sc (Value.int IntKind.i64 (r.snd.snd.snd.fst i0))) AV.nil)))
    (AV.cons (1 : Nat)
    (AV.vec false (5 : Nat) r.snd.snd.snd.snd.fst r.snd.snd.snd.snd.fst fun (i0 : Nat) =>
    AV.cons (1 : Nat)
    (AV.vec false (1 : Nat) (r.snd.snd.snd.snd.snd.fst i0) (r.snd.snd.snd.snd.snd.fst i0) fun (i1 : Nat) =>
    AV.sc (Value.int IntKind.i64 (r.snd.snd.snd.snd.snd.snd.fst i0 i1)))
    (AV.cons (1 : Nat) (AV.sc (Value.int IntKind.i64 (r.snd.snd.snd.snd.snd.snd.snd.fst i0)))
    (AV.cons (1 : Nat) (AV.sc (Value.int IntKind.i64 (r.snd.snd.snd.snd.snd.snd.snd.snd.fst i0)))
    (AV.cons (1 : Nat) (AV.sc (Value.bool (r.snd.snd.snd.snd.snd.snd.snd.snd.snd.fst i0)))
    (AV.cons (1 : Nat) (AV.sc (Value.int IntKind.i64 (r.snd.snd.snd.snd.snd.snd.snd.snd.snd.snd.fst i0))) AV.nil)))))
    (AV.cons (1 : Nat)
    (AV.vec false (1 : Nat) r.snd.snd.snd.snd.snd.snd.snd.snd.snd.snd.snd.fst r.snd.snd.snd.snd.snd.snd.snd.snd.snd.snd.snd.fst
    fun (i0 : Nat) => AV.sc (Value.int IntKind.i64 (r.snd.snd.snd.snd.snd.snd.snd.snd.snd.snd.snd.snd.fst i0)))
    (AV.cons (1 : Nat)
    (AV.vec false (3 : Nat) r.snd.snd.snd.snd.snd.snd.snd.snd.snd.snd.snd.snd.snd.fst
    r.snd.snd.snd.snd.snd.snd.snd.snd.snd.snd.snd.snd.snd.fst fun (i0 : Nat) =>
    AV.cons (1 : Nat) (AV.sc (Value.int IntKind.i64 (r.snd.snd.snd.snd.snd.snd.snd.snd.snd.snd.snd.snd.snd.snd.fst i0)))
    (AV.cons (1 : Nat)
    (AV.sc (Value.int IntKind.i64 (r.snd.snd.snd.snd.snd.snd.snd.snd.snd.snd.snd.snd.snd.snd.snd.fst i0)))
    (AV.cons (1 : Nat)
    (AV.sc (Value.int IntKind.i64 (r.snd.snd.snd.snd.snd.snd.snd.snd.snd.snd.snd.snd.snd.snd.snd.snd.fst i0)))
    AV.nil)))
    AV.nil))))
    (AV.cons (1 : Nat) (AV.sc (Value.int IntKind.i64 r.snd.snd.snd.snd.snd.snd.snd.snd.snd.snd.snd.snd.snd.snd.snd.snd.snd))
    AV.nil)).tup
    []) ∧
    True ∧
    True ∧
    True ∧
    True ∧
    ((0 : Nat) = (0 : Nat) ∧ True) ∧
    True ∧
    True ∧
    True ∧
    ((r.snd.snd.snd.snd.snd.snd.snd.snd.snd.snd.snd.snd.snd.snd.snd.snd.snd != (0 : Int)) = true →
    ∃ (r : Bool),
    (True ∧ True ∧ Ok Proofs.Try.prog (39 : Nat) [] [] (AV.sc (Value.bool r)) []) ∧
    True ∧
    True ∧
    ((True ∧ Sub (AV.sc (Value.bool r)) (AV.sc (Value.bool r)) ∧ True) ∧ True) ∧
    Sub (AV.sc (Value.bool r)) res ∧ SubOut [] []) ∧
    ((r.snd.snd.snd.snd.snd.snd.snd.snd.snd.snd.snd.snd.snd.snd.snd.snd.snd != (0 : Int)) = false →
    True ∧
    ((1 : Nat) + (0 : Nat) = plus (0 : Nat) (1 : Nat) ∧ True) ∧
    True ∧
    True ∧
    True ∧
    True ∧
    True ∧
    True ∧
    (((↑r.snd.snd.snd.snd.fst : Int) != IntKind.i64.wrap ((↑on : Int) + (1 : Int))) = false →
    True ∧
    ((↑r.snd.snd.snd.snd.fst : Int) != IntKind.i64.wrap ((↑on : Int) + (1 : Int))) = false ∧
    ((1 : Nat) + ((1 : Nat) + (0 : Nat)) = plus (0 : Nat) (2 : Nat) ∧ True) ∧
    ((↑r.snd.snd.snd.snd.fst : Int) != IntKind.i64.wrap ((↑on : Int) + (1 : Int))) = false ∧
    True ∧
    ((↑r.snd.snd.snd.snd.fst : Int) != IntKind.i64.wrap ((↑on : Int) + (1 : Int))) = false ∧
    True ∧
    ((↑r.snd.snd.snd.snd.fst : Int) != IntKind.i64.wrap ((↑on : Int) + (1 : Int))) =
    false ∧
    True ∧
    ((↑r.snd.snd.snd.snd.fst : Int) != IntKind.i64.wrap ((↑on : Int) + (1 : Int))) =
    false ∧
    True ∧
    ((↑r.snd.snd.snd.snd.fst : Int) !=
    IntKind.i64.wrap ((↑on : Int) + (1 : Int))) =
    false ∧
    True ∧
    ((↑r.snd.snd.snd.snd.fst : Int) !=
    IntKind.i64.wrap ((↑on : Int) + (1 : Int))) =
    false ∧
    True ∧
    (((↑r.snd.snd.snd.snd.snd.snd.snd.snd.snd.snd.snd.fst : Int) !=
    IntKind.i64.wrap ((↑on : Int) + (1 : Int))) =
    false →
    True ∧
    ((↑r.snd.snd.snd.snd.snd.snd.snd.snd.snd.snd.snd.fst : Int) !=
    IntKind.i64.wrap ((↑on : Int) + (1 : Int))) =
    false ∧
    ((1 : Nat) + ((1 : Nat) + (0 : Nat)) =
    plus (0 : Nat) (2 : Nat) ∧
    True) ∧
    ((↑r.snd.snd.snd.snd.snd.snd.snd.snd.snd.snd.snd.fst :
    Int) !=
    IntKind.i64.wrap ((↑on : Int) + (1 : Int))) =
    false ∧
    True ∧
    ((↑r.snd.snd.snd.snd.snd.snd.snd.snd.snd.snd.snd.fst :
    Int) !=
    IntKind.i64.wrap ((↑on : Int) + (1 : Int))) =
    false ∧
    True ∧
    ((↑r.snd.snd.snd.snd.snd.snd.snd.snd.snd.snd.snd.fst :
    Int) !=
    IntKind.i64.wrap ((↑on : Int) + (1 : Int))) =
    false ∧
    ((0 : Int) ≤ (↑on : Int) ∧
    (↑on : Int) <
    (↑r.snd.snd.snd.snd.snd.snd.snd.snd.snd.snd.snd.fst :
    Int)) ∧
    ((↑r.snd.snd.snd.snd.snd.snd.snd.snd.snd.snd.snd.fst :
    Int) !=
    IntKind.i64.wrap
    ((↑on : Int) + (1 : Int))) =
    false ∧
    True ∧
    ((↑r.snd.snd.snd.snd.snd.snd.snd.snd.snd.snd.snd.fst :
    Int) !=
    IntKind.i64.wrap
    ((↑on : Int) + (1 : Int))) =
    false ∧
    True ∧
    ((↑r.snd.snd.snd.snd.snd.snd.snd.snd.snd.snd.snd.fst :
    Int) !=
    IntKind.i64.wrap
    ((↑on : Int) + (1 : Int))) =
    false ∧
    ((1 : Nat) +
    ((1 : Nat) +
    ((1 : Nat) + (0 : Nat))) =
    plus (0 : Nat) (3 : Nat) ∧
    True) ∧
    ((↑r.snd.snd.snd.snd.snd.snd.snd.snd.snd.snd.snd.fst :
    Int) !=
    IntKind.i64.wrap
    ((↑on : Int) + (1 : Int))) =
    false ∧
    True ∧
    ((↑r.snd.snd.snd.snd.snd.snd.snd.snd.snd.snd.snd.fst :
    Int) !=
    IntKind.i64.wrap
    ((↑on : Int) +
    (1 : Int))) =
    false ∧
    True ∧
    ((↑r.snd.snd.snd.snd.snd.snd.snd.snd.snd.snd.snd.fst :
    Int) !=
    IntKind.i64.wrap
    ((↑on : Int) +
    (1 : Int))) =
    false ∧
    (decide
    (r.snd.snd.snd.snd.snd.snd.snd.snd.snd.snd.snd.snd.fst
    (↑on :
    Int).toNat >
    (↑r.snd.snd.snd.snd.snd.snd.snd.snd.snd.snd.snd.snd.snd.fst :
    Int)) =
    true →
    True ∧
    True ∧
    ((True ∧
    Sub
    (AV.sc
    (Value.bool
    false))
    (AV.sc
    (Value.bool
    false)) ∧
    True) ∧
    True) ∧
    Sub
    (AV.sc
    (Value.bool
    false))
    res ∧
    SubOut []
    []) ∧
    (decide
    (r.snd.snd.snd.snd.snd.snd.snd.snd.snd.snd.snd.snd.fst
    (↑on :
    Int).toNat >
    (↑r.snd.snd.snd.snd.snd.snd.snd.snd.snd.snd.snd.snd.snd.fst :
    Int)) =
    false →
    True ∧
    ((True ∧
    Sub
    (AV.vec
    true
    (3 :
    Nat)
    on on
    fun
    (i0 :
    Nat) =>
    AV.cons
    (1 :
    Nat)
    (AV.sc
    (Value.int
    IntKind.i64
    (ofa
    i0)))
    (AV.cons
    (1 :
    Nat)
    (AV.sc
    (Value.int
    IntKind.i64
    (ofba
    i0)))
    (AV.cons
    (1 :
    Nat)
    (AV.sc
    (Value.int
    IntKind.i64
    (ofbba
    i0)))
    AV.nil)))
    (AV.vec
    true
    (3 :
    Nat)
    on on
    fun
    (i0 :
    Nat) =>
    AV.cons
    (1 :
    Nat)
    (AV.sc
    (Value.int
    IntKind.i64
    (ofa
    i0)))
    (AV.cons
    (1 :
    Nat)
    (AV.sc
    (Value.int
    IntKind.i64
    (ofba
    i0)))
    (AV.cons
    (1 :
    Nat)
    (AV.sc
    (Value.int
    IntKind.i64
    (ofbba
    i0)))
    AV.nil))) ∧
    True ∧
    Sub
    (AV.pt
    (1000 :
    Nat)
    []
    (0 :
    Nat))
    (AV.pt
    (1000 :
    Nat)
    []
    (0 :
    Nat)) ∧
    True ∧
    Sub
    (AV.sc
    (Value.int
    IntKind.i64
    (0 :
    Int)))
    (AV.sc
    (Value.int
    IntKind.i64
    (0 :
    Int))) ∧
    True) ∧
    (True ∧
    True ∧
    True ∧
    True ∧
    True) ∧
    SubB
    (AV.cons
    (1 :
    Nat)
    (AV.vec
    false
    (3 :
    Nat)
    r.fst
    r.fst
    fun
    (i0 :
    Nat) =>
    AV.cons
    (1 :
    Nat)
    (AV.sc
    (Value.int
    IntKind.i64
    (r.snd.fst
    i0)))
    (AV.cons
    (1 :
    Nat)
    (AV.sc
    (Value.int
    IntKind.i64
    (r.snd.snd.fst
    i0)))
    (AV.cons
    (1 :
    Nat)
    (AV.sc
    (Value.int
    IntKind.i64
    (r.snd.snd.snd.fst
    i0)))
    AV.nil)))
    (AV.cons
    (1 :
    Nat)
    (AV.vec
    false
    (5 :
    Nat)
    r.snd.snd.snd.snd.fst
    r.snd.snd.snd.snd.fst
    fun
    (i0 :
    Nat) =>
    AV.cons
    (1 :
    Nat)
    (AV.vec
    false
    (1 :
    Nat)
    (r.snd.snd.snd.snd.snd.fst
    i0)
    (r.snd.snd.snd.snd.snd.fst
    i0)
    fun
    (i1 :
    Nat) =>
    AV.sc
    (Value.int
    IntKind.i64
    (r.snd.snd.snd.snd.snd.snd.fst
    i0
    i1)))
    (AV.cons
    (1 :
    Nat)
    (AV.sc
    (Value.int
    IntKind.i64
    (r.snd.snd.snd.snd.snd.snd.snd.fst
    i0)))
    (AV.cons
    (1 :
    Nat)
    (AV.sc
    (Value.int
    IntKind.i64
    (r.snd.snd.snd.snd.snd.snd.snd.snd.fst
    i0)))
    (AV.cons
    (1 :
    Nat)
    (AV.sc
    (Value.bool
    (r.snd.snd.snd.snd.snd.snd.snd.snd.snd.fst
    i0)))
    (AV.cons
    (1 :
    Nat)
    (AV.sc
    (Value.int
    IntKind.i64
    (r.snd.snd.snd.snd.snd.snd.snd.snd.snd.snd.fst
    i0)))
    AV.nil)))))
    (AV.cons
    (1 :
    Nat)
    (AV.vec
    false
    (1 :
    Nat)
    r.snd.snd.snd.snd.snd.snd.snd.snd.snd.snd.snd.fst
    r.snd.snd.snd.snd.snd.snd.snd.snd.snd.snd.snd.fst
    fun
    (i0 :
    Nat) =>
    AV.sc
    (Value.int
    IntKind.i64
    (r.snd.snd.snd.snd.snd.snd.snd.snd.snd.snd.snd.snd.fst
    i0)))
    (AV.cons
    (1 :
    Nat)
    (AV.vec
    false
    (3 :
    Nat)
    r.snd.snd.snd.snd.snd.snd.snd.snd.snd.snd.snd.snd.snd.fst
    r.snd.snd.snd.snd.snd.snd.snd.snd.snd.snd.snd.snd.snd.fst
    fun
    (i0 :
    Nat) =>
    AV.cons
    (1 :
    Nat)
    (AV.sc
    (Value.int
    IntKind.i64
    (r.snd.snd.snd.snd.snd.snd.snd.snd.snd.snd.snd.snd.snd.snd.fst
    i0)))
    (AV.cons
    (1 :
    Nat)
    (AV.sc
    (Value.int
    IntKind.i64
    (r.snd.snd.snd.snd.snd.snd.snd.snd.snd.snd.snd.snd.snd.snd.snd.fst
    i0)))
    (AV.cons
    (1 :
    Nat)
    (AV.sc
    (Value.int
    IntKind.i64
    (r.snd.snd.snd.snd.snd.snd.snd.snd.snd.snd.snd.snd.snd.snd.snd.snd.fst
    i0)))
    AV.nil)))
    AV.nil))))
    (AV.cons
    (1 :
    Nat)
    (AV.vec
    false
    (3 :
    Nat)
    r.fst
    r.fst
    fun
    (i0 :
    Nat) =>
    AV.cons
    (1 :
    Nat)
    (AV.sc
    (Value.int
    IntKind.i64
    (r.snd.fst
    i0)))
    (AV.cons
    (1 :
    Nat)
    (AV.sc
    (Value.int
    IntKind.i64
    (r.snd.snd.fst
    i0)))
    (AV.cons
    (1 :
    Nat)
    (AV.sc
    (Value.int
    IntKind.i64
    (r.snd.snd.snd.fst
    i0)))
    AV.nil)))
    (AV.cons
    (1 :
    Nat)
    (AV.vec
    false
    (5 :
    Nat)
    r.snd.snd.snd.snd.fst
    r.snd.snd.snd.snd.fst
    fun
    (i0 :
    Nat) =>
    AV.cons
    (1 :
    Nat)
    (AV.vec
    false
    (1 :
    Nat)
    (r.snd.snd.snd.snd.snd.fst
    i0)
    (r.snd.snd.snd.snd.snd.fst
    i0)
    fun
    (i1 :
    Nat) =>
    AV.sc
    (Value.int
    IntKind.i64
    (r.snd.snd.snd.snd.snd.snd.fst
    i0
    i1)))
    (AV.cons
    (1 :
    Nat)
    (AV.sc
    (Value.int
    IntKind.i64
    (r.snd.snd.snd.snd.snd.snd.snd.fst
    i0)))
    (AV.cons
    (1 :
    Nat)
    (AV.sc
    (Value.int
    IntKind.i64
    (r.snd.snd.snd.snd.snd.snd.snd.snd.fst
    i0)))
    (AV.cons
    (1 :
    Nat)
    (AV.sc
    (Value.bool
    (r.snd.snd.snd.snd.snd.snd.snd.snd.snd.fst
    i0)))
    (AV.cons
    (1 :
    Nat)
    (AV.sc
    (Value.int
    IntKind.i64
    (r.snd.snd.snd.snd.snd.snd.snd.snd.snd.snd.fst
    i0)))
    AV.nil)))))
    (AV.cons
    (1 :
    Nat)
    (AV.vec
    false
    (1 :
    Nat)
    r.snd.snd.snd.snd.snd.snd.snd.snd.snd.snd.snd.fst
    r.snd.snd.snd.snd.snd.snd.snd.snd.snd.snd.snd.fst
    fun
    (i0 :
    Nat) =>
    AV.sc
    (Value.int
    IntKind.i64
    (r.snd.snd.snd.snd.snd.snd.snd.snd.snd.snd.snd.snd.fst
    i0)))
    (AV.cons
    (1 :
    Nat)
    (AV.vec
    false
    (3 :
    Nat)
    r.snd.snd.snd.snd.snd.snd.snd.snd.snd.snd.snd.snd.snd.fst
    r.snd.snd.snd.snd.snd.snd.snd.snd.snd.snd.snd.snd.snd.fst
    fun
    (i0 :
    Nat) =>
    AV.cons
    (1 :
    Nat)
    (AV.sc
    (Value.int
    IntKind.i64
    (r.snd.snd.snd.snd.snd.snd.snd.snd.snd.snd.snd.snd.snd.snd.fst
    i0)))
    (AV.cons
    (1 :
    Nat)
    (AV.sc
    (Value.int
    IntKind.i64
    (r.snd.snd.snd.snd.snd.snd.snd.snd.snd.snd.snd.snd.snd.snd.snd.fst
    i0)))
    (AV.cons
    (1 :
    Nat)
    (AV.sc
    (Value.int
    IntKind.i64
    (r.snd.snd.snd.snd.snd.snd.snd.snd.snd.snd.snd.snd.snd.snd.snd.snd.fst
    i0)))
    AV.nil)))
    AV.nil)))) ∧
    True) ∧
    L11_1 on ofa ofba
    ofbba (0 : Int)
    r.fst r.snd.fst
    r.snd.snd.fst
    r.snd.snd.snd.fst
    r.snd.snd.snd.snd.fst
    r.snd.snd.snd.snd.snd.fst
    r.snd.snd.snd.snd.snd.snd.fst
    r.snd.snd.snd.snd.snd.snd.snd.fst
    r.snd.snd.snd.snd.snd.snd.snd.snd.fst
    r.snd.snd.snd.snd.snd.snd.snd.snd.snd.fst
    r.snd.snd.snd.snd.snd.snd.snd.snd.snd.snd.fst
    r.snd.snd.snd.snd.snd.snd.snd.snd.snd.snd.snd.fst
    r.snd.snd.snd.snd.snd.snd.snd.snd.snd.snd.snd.snd.fst
    r.snd.snd.snd.snd.snd.snd.snd.snd.snd.snd.snd.snd.snd.fst
    r.snd.snd.snd.snd.snd.snd.snd.snd.snd.snd.snd.snd.snd.snd.fst
    r.snd.snd.snd.snd.snd.snd.snd.snd.snd.snd.snd.snd.snd.snd.snd.fst
    r.snd.snd.snd.snd.snd.snd.snd.snd.snd.snd.snd.snd.snd.snd.snd.snd.fst
    res)) ∧
    (((↑r.snd.snd.snd.snd.snd.snd.snd.snd.snd.snd.snd.fst : Int) !=
    IntKind.i64.wrap ((↑on : Int) + (1 : Int))) =
    !false →
    true = true ∧
    ((↑r.snd.snd.snd.snd.snd.snd.snd.snd.snd.snd.snd.fst : Int) !=
    IntKind.i64.wrap ((↑on : Int) + (1 : Int))) =
    !false ∧
    true = true ∧
    ((↑r.snd.snd.snd.snd.snd.snd.snd.snd.snd.snd.snd.fst :
    Int) !=
    IntKind.i64.wrap ((↑on : Int) + (1 : Int))) =
    !false ∧
    true = true ∧
    ((↑r.snd.snd.snd.snd.snd.snd.snd.snd.snd.snd.snd.fst :
    Int) !=
    IntKind.i64.wrap ((↑on : Int) + (1 : Int))) =
    !false ∧
    true = true ∧
    ((↑r.snd.snd.snd.snd.snd.snd.snd.snd.snd.snd.snd.fst :
    Int) !=
    IntKind.i64.wrap ((↑on : Int) + (1 : Int))) =
    !false ∧
    true = true ∧
    ((↑r.snd.snd.snd.snd.snd.snd.snd.snd.snd.snd.snd.fst :
    Int) !=
    IntKind.i64.wrap
    ((↑on : Int) + (1 : Int))) =
    !false ∧
    true = true ∧
    ((↑r.snd.snd.snd.snd.snd.snd.snd.snd.snd.snd.snd.fst :
    Int) !=
    IntKind.i64.wrap
    ((↑on : Int) + (1 : Int))) =
    !false ∧
    true = true ∧
    ((↑r.snd.snd.snd.snd.snd.snd.snd.snd.snd.snd.snd.fst :
    Int) !=
    IntKind.i64.wrap
    ((↑on : Int) + (1 : Int))) =
    !false ∧
    true = true ∧
    ((↑r.snd.snd.snd.snd.snd.snd.snd.snd.snd.snd.snd.fst :
    Int) !=
    IntKind.i64.wrap
    ((↑on : Int) + (1 : Int))) =
    !false ∧
    true = true ∧
    ((↑r.snd.snd.snd.snd.snd.snd.snd.snd.snd.snd.snd.fst :
    Int) !=
    IntKind.i64.wrap
    ((↑on : Int) +
    (1 : Int))) =
    !false ∧
    true = true ∧
    ((↑r.snd.snd.snd.snd.snd.snd.snd.snd.snd.snd.snd.fst :
    Int) !=
    IntKind.i64.wrap
    ((↑on : Int) +
    (1 : Int))) =
    true ∧
    true = true ∧
    True ∧
    True ∧
    ((True ∧
    Sub
    (AV.sc
    (Value.bool
    false))
    (AV.sc
    (Value.bool
    false)) ∧
    True) ∧
    True) ∧
    Sub
    (AV.sc
    (Value.bool
    false))
    res ∧
    SubOut [] [])) ∧
    (((↑r.snd.snd.snd.snd.fst : Int) != IntKind.i64.wrap ((↑on : Int) + (1 : Int))) = !false →
    true = true ∧
    ((↑r.snd.snd.snd.snd.fst : Int) != IntKind.i64.wrap ((↑on : Int) + (1 : Int))) = !false ∧
    true = true ∧
    ((↑r.snd.snd.snd.snd.fst : Int) != IntKind.i64.wrap ((↑on : Int) + (1 : Int))) = !false ∧
    true = true ∧
    ((↑r.snd.snd.snd.snd.fst : Int) != IntKind.i64.wrap ((↑on : Int) + (1 : Int))) = !false ∧
    true = true ∧
    ((↑r.snd.snd.snd.snd.fst : Int) != IntKind.i64.wrap ((↑on : Int) + (1 : Int))) =
    !false ∧
    true = true ∧
    ((↑r.snd.snd.snd.snd.fst : Int) != IntKind.i64.wrap ((↑on : Int) + (1 : Int))) =
    !false ∧
    true = true ∧
    ((↑r.snd.snd.snd.snd.fst : Int) !=
    IntKind.i64.wrap ((↑on : Int) + (1 : Int))) =
    !false ∧
    true = true ∧
    ((↑r.snd.snd.snd.snd.fst : Int) !=
    IntKind.i64.wrap ((↑on : Int) + (1 : Int))) =
    true ∧
    True ∧
    true = !false ∧
    true = true ∧
    true = !false ∧
    true = true ∧
    true = !false ∧
    true = true ∧
    true = !false ∧
    true = true ∧
    true = !false ∧
    true = true ∧
    true = !false ∧
    true = true ∧
    true = !false ∧
    true = true ∧
    true = !false ∧
    true = true ∧
    true = !false ∧
    true = true ∧
    true = !false ∧
    true = true ∧
    true = true ∧
    true = true ∧
    True ∧
    True ∧
    ((True ∧
    Sub
    (AV.sc
    (Value.bool
    false))
    (AV.sc
    (Value.bool
    false)) ∧
    True) ∧
    True) ∧
    Sub
    (AV.sc
    (Value.bool
    false))
    res ∧
    SubOut [] []))) from
    ⟨trivial, ⟨trivial, ⟨trivial, ⟨trivial, (And.elim (fun h4 k4 => ⟨(fun x5 => (fun h5 => ⟨trivial, ⟨trivial, (And.elim (fun h8 k8 => ⟨(And.elim (fun h9 k9 => ⟨h9, k9⟩) h8), ⟨trivial, ⟨trivial, ⟨trivial, ⟨trivial, (And.elim (fun h13 k13 => ⟨(fun x14 => (fun h14 => ⟨trivial, ⟨rfl, ⟨trivial, ⟨rfl, ⟨(And.elim (fun h20 k20 => ⟨h20, k20⟩) h8), ⟨rfl, ⟨trivial, ⟨rfl, ⟨trivial, ⟨rfl, ⟨trivial, ⟨trivial, (And.elim (fun h27 k27 => ⟨(fun x28 => (fun h28 => (Exists.elim h28 fun x29 h29 => ⟨x29, (And.elim (fun h30 k30 => ⟨⟨trivial, ⟨trivial, h30⟩⟩, ⟨trivial, ⟨trivial, ⟨⟨⟨trivial, ⟨Sub.refl _, trivial⟩⟩, trivial⟩, ((fun h34 => ⟨h34, trivial⟩) k30)⟩⟩⟩⟩) h29)⟩)) (h27 x28)), (fun x28 => (fun h28 => ⟨trivial, ⟨trivial, ⟨trivial, ⟨⟨⟨trivial, ⟨Sub.refl _, ⟨trivial, ⟨Sub.refl _, ⟨trivial, ⟨Sub.refl _, trivial⟩⟩⟩⟩⟩⟩, trivial⟩, h28⟩⟩⟩⟩) (k27 x28))⟩) h14)⟩⟩⟩⟩⟩⟩⟩⟩⟩⟩⟩⟩) (h13 x14)), (fun x14 => (fun h14 => ⟨rfl, ⟨rfl, ⟨rfl, ⟨rfl, ⟨rfl, ⟨rfl, ⟨rfl, ⟨rfl, ⟨rfl, ⟨rfl, ⟨rfl, ⟨trivial, ⟨rfl, (Exists.elim h14 fun x28 h28 => ⟨x28, (And.elim (fun h29 k29 => ⟨⟨trivial, ⟨trivial, h29⟩⟩, ⟨trivial, ⟨trivial, ⟨⟨⟨trivial, ⟨Sub.refl _, trivial⟩⟩, trivial⟩, ((fun h33 => ⟨h33, trivial⟩) k29)⟩⟩⟩⟩) h28)⟩)⟩⟩⟩⟩⟩⟩⟩⟩⟩⟩⟩⟩⟩) (k13 x14))⟩) k8)⟩⟩⟩⟩⟩) h5)⟩⟩) (h4 x5)), (fun x5 => (fun h5 => ⟨trivial, ⟨trivial, (Exists.elim h5 fun x8 h8 => ⟨x8, (And.elim (fun h9 k9 => ⟨⟨⟨trivial, ⟨trivial, trivial⟩⟩, ⟨trivial, h9⟩⟩, ⟨trivial, ⟨trivial, ⟨trivial, ⟨trivial, ⟨⟨rfl, trivial⟩, ⟨trivial, ⟨trivial, ⟨trivial, (And.elim (fun h18 k18 => ⟨(fun x19 => (fun h19 => (Exists.elim h19 fun x20 h20 => ⟨x20, (And.elim (fun h21 k21 => ⟨⟨trivial, ⟨trivial, h21⟩⟩, ⟨trivial, ⟨trivial, ⟨⟨⟨trivial, ⟨Sub.refl _, trivial⟩⟩, trivial⟩, ((fun h25 => ⟨h25, trivial⟩) k21)⟩⟩⟩⟩) h20)⟩)) (h18 x19)), (fun x19 => (fun h19 => ⟨trivial, ⟨⟨rfl, trivial⟩, ⟨trivial, ⟨trivial, ⟨trivial, ⟨trivial, ⟨trivial, ⟨trivial, (And.elim (fun h28 k28 => ⟨(fun x29 => (fun h29 => ⟨trivial, ⟨x29, ⟨⟨rfl, trivial⟩, ⟨x29, ⟨trivial, ⟨x29, ⟨trivial, ⟨x29, ⟨trivial, ⟨x29, ⟨trivial, ⟨x29, ⟨trivial, ⟨x29, ⟨trivial, (And.elim (fun h45 k45 => ⟨(fun x46 => (fun h46 => ⟨trivial, ⟨x46, ⟨⟨rfl, trivial⟩, ⟨x46, ⟨trivial, ⟨x46, ⟨trivial, ⟨x46, (And.elim (fun h55 k55 => ⟨(And.elim (fun h56 k56 => ⟨h56, k56⟩) h55), ⟨x46, ⟨trivial, ⟨x46, ⟨trivial, ⟨x46, ⟨⟨rfl, trivial⟩, ⟨x46, ⟨trivial, ⟨x46, ⟨trivial, ⟨x46, (And.elim (fun h67 k67 => ⟨(fun x68 => (fun h68 => ⟨trivial, ⟨trivial, ⟨⟨⟨trivial, ⟨Sub.refl _, trivial⟩⟩, trivial⟩, ((fun h72 => ⟨h72, trivial⟩) h68)⟩⟩⟩) (h67 x68)), (fun x68 => (fun h68 => ⟨trivial, ⟨⟨⟨trivial, ⟨Sub.refl _, ⟨trivial, ⟨Sub.refl _, ⟨trivial, ⟨Sub.refl _, trivial⟩⟩⟩⟩⟩⟩, ⟨⟨trivial, ⟨trivial, ⟨trivial, ⟨trivial, trivial⟩⟩⟩⟩, ⟨SubB.refl _, trivial⟩⟩⟩, h68⟩⟩) (k67 x68))⟩) k55)⟩⟩⟩⟩⟩⟩⟩⟩⟩⟩⟩⟩) h46)⟩⟩⟩⟩⟩⟩⟩⟩) (h45 x46)), (fun x46 => (fun h46 => ⟨rfl, ⟨x46, ⟨rfl, ⟨x46, ⟨rfl, ⟨x46, ⟨rfl, ⟨x46, ⟨rfl, ⟨x46, ⟨rfl, ⟨x46, ⟨rfl, ⟨x46, ⟨rfl, ⟨x46, ⟨rfl, ⟨x46, ⟨rfl, ⟨x46, ⟨rfl, ⟨trivial, ⟨trivial, ⟨⟨⟨trivial, ⟨Sub.refl _, trivial⟩⟩, trivial⟩, ((fun h71 => ⟨h71, trivial⟩) h46)⟩⟩⟩⟩⟩⟩⟩⟩⟩⟩⟩⟩⟩⟩⟩⟩⟩⟩⟩⟩⟩⟩⟩⟩) (k45 x46))⟩) h29)⟩⟩⟩⟩⟩⟩⟩⟩⟩⟩⟩⟩⟩⟩⟩) (h28 x29)), (fun x29 => (fun h29 => ⟨rfl, ⟨x29, ⟨rfl, ⟨x29, ⟨rfl, ⟨x29, ⟨rfl, ⟨x29, ⟨rfl, ⟨x29, ⟨rfl, ⟨x29, ⟨rfl, ⟨x29, ⟨trivial, ⟨rfl, ⟨rfl, ⟨rfl, ⟨rfl, ⟨rfl, ⟨rfl, ⟨rfl, ⟨rfl, ⟨rfl, ⟨rfl, ⟨rfl, ⟨rfl, ⟨rfl, ⟨rfl, ⟨rfl, ⟨rfl, ⟨rfl, ⟨rfl, ⟨rfl, ⟨rfl, ⟨rfl, ⟨rfl, ⟨trivial, ⟨trivial, ⟨⟨⟨trivial, ⟨Sub.refl _, trivial⟩⟩, trivial⟩, ((fun h70 => ⟨h70, trivial⟩) h29)⟩⟩⟩⟩⟩⟩⟩⟩⟩⟩⟩⟩⟩⟩⟩⟩⟩⟩⟩⟩⟩⟩⟩⟩⟩⟩⟩⟩⟩⟩⟩⟩⟩⟩⟩⟩⟩⟩⟩⟩) (k28 x29))⟩) h19)⟩⟩⟩⟩⟩⟩⟩⟩) (k18 x19))⟩) k9)⟩⟩⟩⟩⟩⟩⟩⟩⟩) h8)⟩)⟩⟩) (k4 x5))⟩) h)⟩⟩⟩⟩)
theorem r11_1 (on : Nat) (ofa : Nat → Int) (ofba : Nat → Int) (ofbba : Nat → Int) (t8 : Int) (b0an : Nat) (b0afa : Nat → Int) (b0afba : Nat → Int) (b0afbba : Nat → Int) (b0ban : Nat) (b0bafan : Nat → Nat) (b0bafaf : Nat → Nat → Int) (b0bafba : Nat → Int) (b0bafbba : Nat → Int) (b0bafbbba : Nat → Bool) (b0bafbbbba : Nat → Int) (b0bban : Nat) (b0bbaf : Nat → Int) (b0bbban : Nat) (b0bbbafa : Nat → Int) (b0bbbafba : Nat → Int) (b0bbbafbba : Nat → Int) (res : AV)
    (h : (decide (t8 < (↑on : Int)) = true →
    ((0 : Int) ≤ t8 ∧ t8 < (↑b0bban : Int)) ∧
    (decide (b0bbaf t8.toNat < (0 : Int)) = false →
    ((0 : Int) ≤ IntKind.i64.wrap (t8 + (1 : Int)) ∧ IntKind.i64.wrap (t8 + (1 : Int)) < (↑b0bban : Int)) ∧
    (decide (b0bbaf (IntKind.i64.wrap (t8 + (1 : Int))).toNat > (↑b0bbban : Int)) = true → Sub (AV.sc (Value.bool false)) res) ∧
    (decide (b0bbaf (IntKind.i64.wrap (t8 + (1 : Int))).toNat > (↑b0bbban : Int)) = false →
    L11_2 on ofa ofba ofbba t8 (b0bbaf t8.toNat) b0an b0afa b0afba b0afbba b0ban b0bafan b0bafaf b0bafba b0bafbba b0bafbbba b0bafbbbba b0bban b0bbaf
    b0bbban b0bbbafa b0bbbafba b0bbbafbba res)) ∧
    (decide (b0bbaf t8.toNat < (0 : Int)) = !false → Sub (AV.sc (Value.bool false)) res)) ∧
  (decide (t8 < (↑on : Int)) = false → ∃ (r : Bool), Ok Proofs.Try.prog (39 : Nat) [] [] (AV.sc (Value.bool r)) [] ∧ Sub (AV.sc (Value.bool r)) res)) :
    L11_1 on ofa ofba ofbba t8 b0an b0afa b0afba b0afbba b0ban b0bafan b0bafaf b0bafba b0bafbba b0bafbbba b0bafbbbba b0bban b0bbaf b0bbban b0bbbafa b0bbbafba b0bbbafbba res :=
  rule Go.Am.Seat.tabOk 11 [] Go.Proofs.Try.f11 hf11 [1, 1, 1, 1, 1, 1, 0, 1, 0, 0] (s11_1 on ofa ofba ofbba t8 b0an b0afa b0afba b0afbba b0ban b0bafan b0bafaf b0bafba b0bafbba b0bafbbba b0bafbbbba b0bban b0bbaf b0bbban b0bbbafa b0bbbafba b0bbbafbba) (m11_1 on ofa ofba ofbba t8 b0an b0afa b0afba b0afbba b0ban b0bafan b0bafaf b0bafba b0bafbba b0bafbbba b0bafbbbba b0bban b0bbaf b0bbban b0bbbafa b0bbbafba b0bbbafbba) res [] 400
    (((Orc.ch Ch.none
    (Orc.ch (Ch.p false)
    ((Orc.fin (AV.sc (Value.bool false)) [] []).br
    (Orc.cut (nat_lit 5)
    (s11_2 on ofa ofba ofbba t8 (b0bbaf t8.toNat) b0an b0afa b0afba b0afbba b0ban b0bafan b0bafaf b0bafba b0bafbba b0bafbbba
    b0bafbbbba b0bban b0bbaf b0bbban b0bbbafa b0bbbafba b0bbbafbba)
    (m11_2 on ofa ofba ofbba t8 (b0bbaf t8.toNat) b0an b0afa b0afba b0afbba b0ban b0bafan b0bafaf b0bafba b0bafbba b0bafbbba
    b0bafbbbba b0bban b0bbaf b0bbban b0bbbafa b0bbbafba b0bbbafbba)
    [((1000 : Nat), some (1000 : Nat))])))).yes.yes.yes.yes.yes.yes.yes.yes.yes.br
    (Orc.ch (Ch.p true) (Orc.fin (AV.sc (Value.bool false)) [] []).yes).no.no.no.no.no.no.no.no.no).br
  (Orc.call [] [] (fun (r39 : Bool) => AV.sc (Value.bool r39)) (fun (r39 : Bool) => []) fun (r39 : Bool) => Orc.fin (AV.sc (Value.bool r39)) [] [])) _ _ (by kernel_rfl) (by kernel_rfl) (show True ∧
  True ∧
    True ∧
    True ∧
    (decide (t8 < (↑on : Int)) = true →
    True ∧
    ((1 : Nat) + ((1 : Nat) + (0 : Nat)) = plus (0 : Nat) (2 : Nat) ∧ True) ∧
    True ∧
    ((0 : Int) ≤ t8 ∧ t8 < (↑b0bban : Int)) ∧
    True ∧
    True ∧
    True ∧
    (decide (b0bbaf t8.toNat < (0 : Int)) = false →
    True ∧
    decide (b0bbaf t8.toNat < (0 : Int)) = false ∧
    ((1 : Nat) + ((1 : Nat) + (0 : Nat)) = plus (0 : Nat) (2 : Nat) ∧ True) ∧
    decide (b0bbaf t8.toNat < (0 : Int)) = false ∧
    True ∧
    decide (b0bbaf t8.toNat < (0 : Int)) = false ∧
    True ∧
    decide (b0bbaf t8.toNat < (0 : Int)) = false ∧
    ((0 : Int) ≤ IntKind.i64.wrap (t8 + (1 : Int)) ∧ IntKind.i64.wrap (t8 + (1 : Int)) < (↑b0bban : Int)) ∧
    decide (b0bbaf t8.toNat < (0 : Int)) = false ∧
    True ∧
    decide (b0bbaf t8.toNat < (0 : Int)) = false ∧
    True ∧
    decide (b0bbaf t8.toNat < (0 : Int)) = false ∧
    ((1 : Nat) + ((1 : Nat) + ((1 : Nat) + (0 : Nat))) = plus (0 : Nat) (3 : Nat) ∧ True) ∧
    decide (b0bbaf t8.toNat < (0 : Int)) = false ∧
    True ∧
    decide (b0bbaf t8.toNat < (0 : Int)) = false ∧
    True ∧
    decide (b0bbaf t8.toNat < (0 : Int)) = false ∧
    (decide (b0bbaf (IntKind.i64.wrap (t8 + (1 : Int))).toNat > (↑b0bbban : Int)) = true →
    True ∧
    True ∧
    ((True ∧ Sub (AV.sc (Value.bool false)) (AV.sc (Value.bool false)) ∧ True) ∧
    True) ∧
    Sub (AV.sc (Value.bool false)) res ∧ SubOut [] []) ∧
    (decide (b0bbaf (IntKind.i64.wrap (t8 + (1 : Int))).toNat > (↑b0bbban : Int)) = false →
    True ∧
    ((1 : Nat) + ((1 : Nat) + (0 : Nat)) = plus (0 : Nat) (2 : Nat) ∧ True) ∧
    True ∧
    ((0 : Int) ≤ t8 ∧ t8 < (↑b0bban : Int)) ∧
    True ∧
    True ∧
    ((True ∧
    Sub
    (AV.vec true (3 : Nat) on on fun (i0 : Nat) =>
    AV.cons (1 : Nat) (AV.sc (Value.int IntKind.i64 (ofa i0)))
    (AV.cons (1 : Nat) (AV.sc (Value.int IntKind.i64 (ofba i0)))
    (AV.cons (1 : Nat)
    (AV.sc (Value.int IntKind.i64 (ofbba i0))) AV.nil)))
    (AV.vec true (3 : Nat) on on fun (i0 : Nat) =>
    AV.cons (1 : Nat) (AV.sc (Value.int IntKind.i64 (ofa i0)))
    (AV.cons (1 : Nat) (AV.sc (Value.int IntKind.i64 (ofba i0)))
    (AV.cons (1 : Nat)
    (AV.sc (Value.int IntKind.i64 (ofbba i0))) AV.nil))) ∧
    True ∧
    Sub (AV.pt (1000 : Nat) [] (0 : Nat))
    (AV.pt (1000 : Nat) [] (0 : Nat)) ∧
    True ∧
    Sub (AV.sc (Value.int IntKind.i64 t8))
    (AV.sc (Value.int IntKind.i64 t8)) ∧
    True ∧
    Sub (AV.sc (Value.int IntKind.i64 (b0bbaf t8.toNat)))
    (AV.sc (Value.int IntKind.i64 (b0bbaf t8.toNat))) ∧
    True) ∧
    (True ∧ True ∧ True ∧ True ∧ True) ∧
    SubB
    (AV.cons (1 : Nat)
    (AV.vec false (3 : Nat) b0an b0an fun (i0 : Nat) =>
    AV.cons (1 : Nat) (AV.sc (Value.int IntKind.i64 (b0afa i0)))
    (AV.cons (1 : Nat)
    (AV.sc (Value.int IntKind.i64 (b0afba i0)))
    (AV.cons (1 : Nat)
    (AV.sc (Value.int IntKind.i64 (b0afbba i0))) AV.nil)))
    (AV.cons (1 : Nat)
    (AV.vec false (5 : Nat) b0ban b0ban fun (i0 : Nat) =>
    AV.cons (1 : Nat)
    (AV.vec false (1 : Nat) (b0bafan i0) (b0bafan i0)
    fun (i1 : Nat) =>
    AV.sc (Value.int IntKind.i64 (b0bafaf i0 i1)))
    (AV.cons (1 : Nat)
    (AV.sc (Value.int IntKind.i64 (b0bafba i0)))
    (AV.cons (1 : Nat)
    (AV.sc (Value.int IntKind.i64 (b0bafbba i0)))
    (AV.cons (1 : Nat)
    (AV.sc (Value.bool (b0bafbbba i0)))
    (AV.cons (1 : Nat)
    (AV.sc (Value.int IntKind.i64 (b0bafbbbba i0)))
    AV.nil)))))
    (AV.cons (1 : Nat)
    (AV.vec false (1 : Nat) b0bban b0bban fun (i0 : Nat) =>
    AV.sc (Value.int IntKind.i64 (b0bbaf i0)))
    (AV.cons (1 : Nat)
    (AV.vec false (3 : Nat) b0bbban b0bbban
    fun (i0 : Nat) =>
    AV.cons (1 : Nat)
    (AV.sc (Value.int IntKind.i64 (b0bbbafa i0)))
    (AV.cons (1 : Nat)
    (AV.sc (Value.int IntKind.i64 (b0bbbafba i0)))
    (AV.cons (1 : Nat)
    (AV.sc (Value.int IntKind.i64 (b0bbbafbba i0)))
    AV.nil)))
    AV.nil))))
    (AV.cons (1 : Nat)
    (AV.vec false (3 : Nat) b0an b0an fun (i0 : Nat) =>
    AV.cons (1 : Nat) (AV.sc (Value.int IntKind.i64 (b0afa i0)))
    (AV.cons (1 : Nat)
    (AV.sc (Value.int IntKind.i64 (b0afba i0)))
    (AV.cons (1 : Nat)
    (AV.sc (Value.int IntKind.i64 (b0afbba i0))) AV.nil)))
    (AV.cons (1 : Nat)
    (AV.vec false (5 : Nat) b0ban b0ban fun (i0 : Nat) =>
    AV.cons (1 : Nat)
    (AV.vec false (1 : Nat) (b0bafan i0) (b0bafan i0)
    fun (i1 : Nat) =>
    AV.sc (Value.int IntKind.i64 (b0bafaf i0 i1)))
    (AV.cons (1 : Nat)
    (AV.sc (Value.int IntKind.i64 (b0bafba i0)))
    (AV.cons (1 : Nat)
    (AV.sc (Value.int IntKind.i64 (b0bafbba i0)))
    (AV.cons (1 : Nat)
    (AV.sc (Value.bool (b0bafbbba i0)))
    (AV.cons (1 : Nat)
    (AV.sc (Value.int IntKind.i64 (b0bafbbbba i0)))
    AV.nil)))))
    (AV.cons (1 : Nat)
    (AV.vec false (1 : Nat) b0bban b0bban fun (i0 : Nat) =>
    AV.sc (Value.int IntKind.i64 (b0bbaf i0)))
    (AV.cons (1 : Nat)
    (AV.vec false (3 : Nat) b0bbban b0bbban
    fun (i0 : Nat) =>
    AV.cons (1 : Nat)
    (AV.sc (Value.int IntKind.i64 (b0bbbafa i0)))
    (AV.cons (1 : Nat)
    (AV.sc (Value.int IntKind.i64 (b0bbbafba i0)))
    (AV.cons (1 : Nat)
    (AV.sc (Value.int IntKind.i64 (b0bbbafbba i0)))
    AV.nil)))
    AV.nil)))) ∧
    True) ∧
    L11_2 on ofa ofba ofbba t8 (b0bbaf t8.toNat) b0an b0afa b0afba b0afbba
    b0ban b0bafan b0bafaf b0bafba b0bafbba b0bafbbba b0bafbbbba b0bban
    b0bbaf b0bbban b0bbbafa b0bbbafba b0bbbafbba res)) ∧
    (decide (b0bbaf t8.toNat < (0 : Int)) = !false →
    true = true ∧
    decide (b0bbaf t8.toNat < (0 : Int)) = !false ∧
    true = true ∧
    decide (b0bbaf t8.toNat < (0 : Int)) = !false ∧
    true = true ∧
    decide (b0bbaf t8.toNat < (0 : Int)) = !false ∧
    true = true ∧
    decide (b0bbaf t8.toNat < (0 : Int)) = !false ∧
    true = true ∧
    decide (b0bbaf t8.toNat < (0 : Int)) = !false ∧
    true = true ∧
    decide (b0bbaf t8.toNat < (0 : Int)) = !false ∧
    true = true ∧
    decide (b0bbaf t8.toNat < (0 : Int)) = !false ∧
    true = true ∧
    decide (b0bbaf t8.toNat < (0 : Int)) = !false ∧
    true = true ∧
    decide (b0bbaf t8.toNat < (0 : Int)) = !false ∧
    true = true ∧
    decide (b0bbaf t8.toNat < (0 : Int)) = true ∧
    true = true ∧
    True ∧
    True ∧
    ((True ∧ Sub (AV.sc (Value.bool false)) (AV.sc (Value.bool false)) ∧ True) ∧ True) ∧
    Sub (AV.sc (Value.bool false)) res ∧ SubOut [] [])) ∧
    (decide (t8 < (↑on : Int)) = false →
    ∃ (r : Bool),
    (True ∧ True ∧ Ok Proofs.Try.prog (39 : Nat) [] [] (AV.sc (Value.bool r)) []) ∧
    True ∧ True ∧ ((True ∧ Sub (AV.sc (Value.bool r)) (AV.sc (Value.bool r)) ∧ True) ∧ True) ∧ Sub (AV.sc (Value.bool r)) res ∧ SubOut [] []) from
    ⟨trivial, ⟨trivial, ⟨trivial, ⟨trivial, (And.elim (fun h4 k4 => ⟨(fun x5 => (fun h5 => ⟨trivial, ⟨⟨rfl, trivial⟩, ⟨trivial, (And.elim (fun h9 k9 => ⟨(And.elim (fun h10 k10 => ⟨h10, k10⟩) h9), ⟨trivial, ⟨trivial, ⟨trivial, (And.elim (fun h13 k13 => ⟨(fun x14 => (fun h14 => ⟨trivial, ⟨x14, ⟨⟨rfl, trivial⟩, ⟨x14, ⟨trivial, ⟨x14, ⟨trivial, ⟨x14, (And.elim (fun h23 k23 => ⟨(And.elim (fun h24 k24 => ⟨h24, k24⟩) h23), ⟨x14, ⟨trivial, ⟨x14, ⟨trivial, ⟨x14, ⟨⟨rfl, trivial⟩, ⟨x14, ⟨trivial, ⟨x14, ⟨trivial, ⟨x14, (And.elim (fun h35 k35 => ⟨(fun x36 => (fun h36 => ⟨trivial, ⟨trivial, ⟨⟨⟨trivial, ⟨Sub.refl _, trivial⟩⟩, trivial⟩, ((fun h40 => ⟨h40, trivial⟩) h36)⟩⟩⟩) (h35 x36)), (fun x36 => (fun h36 => ⟨trivial, ⟨⟨rfl, trivial⟩, ⟨trivial, ⟨(And.elim (fun h41 k41 => ⟨h41, k41⟩) h9), ⟨trivial, ⟨trivial, ⟨⟨⟨trivial, ⟨Sub.refl _, ⟨trivial, ⟨Sub.refl _, ⟨trivial, ⟨Sub.refl _, ⟨trivial, ⟨Sub.refl _, trivial⟩⟩⟩⟩⟩⟩⟩⟩, ⟨⟨trivial, ⟨trivial, ⟨trivial, ⟨trivial, trivial⟩⟩⟩⟩, ⟨SubB.refl _, trivial⟩⟩⟩, h36⟩⟩⟩⟩⟩⟩⟩) (k35 x36))⟩) k23)⟩⟩⟩⟩⟩⟩⟩⟩⟩⟩⟩⟩) h14)⟩⟩⟩⟩⟩⟩⟩⟩) (h13 x14)), (fun x14 => (fun h14 => ⟨rfl, ⟨x14, ⟨rfl, ⟨x14, ⟨rfl, ⟨x14, ⟨rfl, ⟨x14, ⟨rfl, ⟨x14, ⟨rfl, ⟨x14, ⟨rfl, ⟨x14, ⟨rfl, ⟨x14, ⟨rfl, ⟨x14, ⟨rfl, ⟨x14, ⟨rfl, ⟨trivial, ⟨trivial, ⟨⟨⟨trivial, ⟨Sub.refl _, trivial⟩⟩, trivial⟩, ((fun h39 => ⟨h39, trivial⟩) h14)⟩⟩⟩⟩⟩⟩⟩⟩⟩⟩⟩⟩⟩⟩⟩⟩⟩⟩⟩⟩⟩⟩⟩⟩) (k13 x14))⟩) k9)⟩⟩⟩⟩) h5)⟩⟩⟩) (h4 x5)), (fun x5 => (fun h5 => (Exists.elim h5 fun x6 h6 => ⟨x6, (And.elim (fun h7 k7 => ⟨⟨trivial, ⟨trivial, h7⟩⟩, ⟨trivial, ⟨trivial, ⟨⟨⟨trivial, ⟨Sub.refl _, trivial⟩⟩, trivial⟩, ((fun h11 => ⟨h11, trivial⟩) k7)⟩⟩⟩⟩) h6)⟩)) (k4 x5))⟩) h)⟩⟩⟩⟩)
theorem r11_2 (on : Nat) (ofa : Nat → Int) (ofba : Nat → Int) (ofbba : Nat → Int) (t8 : Int) (t9 : Int) (b0an : Nat) (b0afa : Nat → Int) (b0afba : Nat → Int) (b0afbba : Nat → Int) (b0ban : Nat) (b0bafan : Nat → Nat) (b0bafaf : Nat → Nat → Int) (b0bafba : Nat → Int) (b0bafbba : Nat → Int) (b0bafbbba : Nat → Bool) (b0bafbbbba : Nat → Int) (b0bban : Nat) (b0bbaf : Nat → Int) (b0bbban : Nat) (b0bbbafa : Nat → Int) (b0bbbafba : Nat → Int) (b0bbbafbba : Nat → Int) (res : AV)
    (h : ((0 : Int) ≤ IntKind.i64.wrap (t8 + (1 : Int)) ∧ IntKind.i64.wrap (t8 + (1 : Int)) < (↑b0bban : Int)) ∧
  (decide (t9 < b0bbaf (IntKind.i64.wrap (t8 + (1 : Int))).toNat) = true →
    ((0 : Int) ≤ t9 ∧ t9 < (↑b0bbban : Int)) ∧
    ((0 : Int) ≤ t8 ∧ t8 < (↑b0ban : Int)) ∧
    (decide (b0bafba t8.toNat > (0 : Int)) = true →
    ((b0bbbafa t9.toNat == (19 : Int)) = false →
    ((b0bbbafa t9.toNat == (20 : Int)) = false →
    ((b0bbbafa t9.toNat == (21 : Int)) = true → Sub (AV.sc (Value.bool false)) res) ∧
    ((b0bbbafa t9.toNat == (21 : Int)) = false →
    (decide (t9 > (0 : Int)) = true →
    ((b0bbbafa t9.toNat == (20 : Int)) = true →
    ((0 : Int) ≤ IntKind.i64.wrap (t9 - (1 : Int)) ∧ IntKind.i64.wrap (t9 - (1 : Int)) < (↑b0bbban : Int)) ∧
    ((b0bbbafa (IntKind.i64.wrap (t9 - (1 : Int))).toNat != (19 : Int)) = true → Sub (AV.sc (Value.bool false)) res) ∧
    ((b0bbbafa (IntKind.i64.wrap (t9 - (1 : Int))).toNat != (19 : Int)) = false →
    L11_2 on ofa ofba ofbba t8 (IntKind.i64.wrap (t9 + (1 : Int))) b0an b0afa b0afba b0afbba b0ban b0bafan b0bafaf b0bafba
    b0bafbba b0bafbbba b0bafbbbba b0bban b0bbaf b0bbban b0bbbafa b0bbbafba b0bbbafbba res)) ∧
    ((b0bbbafa t9.toNat == (20 : Int)) = !true →
    L11_2 on ofa ofba ofbba t8 (IntKind.i64.wrap (t9 + (1 : Int))) b0an b0afa b0afba b0afbba b0ban b0bafan b0bafaf b0bafba
    b0bafbba b0bafbbba b0bafbbbba b0bban b0bbaf b0bbban b0bbbafa b0bbbafba b0bbbafbba res)) ∧
    (decide (t9 > (0 : Int)) = !true →
    L11_2 on ofa ofba ofbba t8 (IntKind.i64.wrap (t9 + (1 : Int))) b0an b0afa b0afba b0afbba b0ban b0bafan b0bafaf b0bafba b0bafbba
    b0bafbbba b0bafbbbba b0bban b0bbaf b0bbban b0bbbafa b0bbbafba b0bbbafbba res))) ∧
    ((b0bbbafa t9.toNat == (20 : Int)) = !false → Sub (AV.sc (Value.bool false)) res)) ∧
    ((b0bbbafa t9.toNat == (19 : Int)) = !false → Sub (AV.sc (Value.bool false)) res)) ∧
    (decide (b0bafba t8.toNat > (0 : Int)) = !true →
    (decide (t9 > (0 : Int)) = true →
    ((b0bbbafa t9.toNat == (20 : Int)) = true →
    ((0 : Int) ≤ IntKind.i64.wrap (t9 - (1 : Int)) ∧ IntKind.i64.wrap (t9 - (1 : Int)) < (↑b0bbban : Int)) ∧
    ((b0bbbafa (IntKind.i64.wrap (t9 - (1 : Int))).toNat != (19 : Int)) = true → Sub (AV.sc (Value.bool false)) res) ∧
    ((b0bbbafa (IntKind.i64.wrap (t9 - (1 : Int))).toNat != (19 : Int)) = false →
    L11_2 on ofa ofba ofbba t8 (IntKind.i64.wrap (t9 + (1 : Int))) b0an b0afa b0afba b0afbba b0ban b0bafan b0bafaf b0bafba b0bafbba
    b0bafbbba b0bafbbbba b0bban b0bbaf b0bbban b0bbbafa b0bbbafba b0bbbafbba res)) ∧
    ((b0bbbafa t9.toNat == (20 : Int)) = !true →
    L11_2 on ofa ofba ofbba t8 (IntKind.i64.wrap (t9 + (1 : Int))) b0an b0afa b0afba b0afbba b0ban b0bafan b0bafaf b0bafba b0bafbba b0bafbbba
    b0bafbbbba b0bban b0bbaf b0bbban b0bbbafa b0bbbafba b0bbbafbba res)) ∧
    (decide (t9 > (0 : Int)) = !true →
    L11_2 on ofa ofba ofbba t8 (IntKind.i64.wrap (t9 + (1 : Int))) b0an b0afa b0afba b0afbba b0ban b0bafan b0bafaf b0bafba b0bafbba b0bafbbba
    b0bafbbbba b0bban b0bbaf b0bbban b0bbbafa b0bbbafba b0bbbafbba res))) ∧
    (decide (t9 < b0bbaf (IntKind.i64.wrap (t8 + (1 : Int))).toNat) = false →
    L11_1 on ofa ofba ofbba (IntKind.i64.wrap (t8 + (1 : Int))) b0an b0afa b0afba b0afbba b0ban b0bafan b0bafaf b0bafba b0bafbba b0bafbbba b0bafbbbba b0bban
    b0bbaf b0bbban b0bbbafa b0bbbafba b0bbbafbba res)) :
    L11_2 on ofa ofba ofbba t8 t9 b0an b0afa b0afba b0afbba b0ban b0bafan b0bafaf b0bafba b0bafbba b0bafbbba b0bafbbbba b0bban b0bbaf b0bbban b0bbbafa b0bbbafba b0bbbafbba res :=
  rule Go.Am.Seat.tabOk 11 [] Go.Proofs.Try.f11 hf11 [1, 1, 1, 1, 1, 1, 0, 1, 0, 0, 1, 0, 0, 1, 1, 0, 0] (s11_2 on ofa ofba ofbba t8 t9 b0an b0afa b0afba b0afbba b0ban b0bafan b0bafaf b0bafba b0bafbba b0bafbbba b0bafbbbba b0bban b0bbaf b0bbban b0bbbafa b0bbbafba b0bbbafbba) (m11_2 on ofa ofba ofbba t8 t9 b0an b0afa b0afba b0afbba b0ban b0bafan b0bafaf b0bafba b0bafbba b0bafbbba b0bafbbbba b0bban b0bbaf b0bbban b0bbbafa b0bbbafba b0bbbafbba) res [] 400
    ((((((Orc.fin (AV.sc (Value.bool false)) [] []).br
    ((((Orc.fin (AV.sc (Value.bool false)) [] []).br
    (Orc.cut (nat_lit 4)
    (s11_2 on ofa ofba ofbba t8 (IntKind.i64.wrap (t9 + (1 : Int))) b0an b0afa b0afba b0afbba b0ban
    b0bafan b0bafaf b0bafba b0bafbba b0bafbbba b0bafbbbba b0bban b0bbaf b0bbban b0bbbafa b0bbbafba
    b0bbbafbba)
    (m11_2 on ofa ofba ofbba t8 (IntKind.i64.wrap (t9 + (1 : Int))) b0an b0afa b0afba b0afbba b0ban
    b0bafan b0bafaf b0bafba b0bafbba b0bafbbba b0bafbbbba b0bban b0bbaf b0bbban b0bbbafa b0bbbafba
    b0bbbafbba)
    [((1000 : Nat), some (1000 : Nat))])).yes.yes.yes.yes.yes.yes.yes.br
    (Orc.cut (nat_lit 4)
    (s11_2 on ofa ofba ofbba t8 (IntKind.i64.wrap (t9 + (1 : Int))) b0an b0afa b0afba b0afbba b0ban
    b0bafan b0bafaf b0bafba b0bafbba b0bafbbba b0bafbbbba b0bban b0bbaf b0bbban b0bbbafa b0bbbafba
    b0bbbafbba)
    (m11_2 on ofa ofba ofbba t8 (IntKind.i64.wrap (t9 + (1 : Int))) b0an b0afa b0afba b0afbba b0ban
    b0bafan b0bafaf b0bafba b0bafbba b0bafbbba b0bafbbbba b0bban b0bbaf b0bbban b0bbbafa b0bbbafba
    b0bbbafbba)
    [((1000 : Nat), some (1000 : Nat))]).no.no.no.no.no.no.no.no).yes.br
    (Orc.cut (nat_lit 4)
    (s11_2 on ofa ofba ofbba t8 (IntKind.i64.wrap (t9 + (1 : Int))) b0an b0afa b0afba b0afbba b0ban b0bafan
    b0bafaf b0bafba b0bafbba b0bafbbba b0bafbbbba b0bban b0bbaf b0bbban b0bbbafa b0bbbafba b0bbbafbba)
    (m11_2 on ofa ofba ofbba t8 (IntKind.i64.wrap (t9 + (1 : Int))) b0an b0afa b0afba b0afbba b0ban b0bafan
    b0bafaf b0bafba b0bafbba b0bafbbba b0bafbbbba b0bban b0bbaf b0bbban b0bbbafa b0bbbafba b0bbbafbba)
    [((1000 : Nat), some (1000 : Nat))]).no.no.no.no.no.no.no.no.no.no)).yes.yes.br
    (Orc.fin (AV.sc (Value.bool false)) [] []).yes.yes.no).yes.yes.yes.br
    (Orc.fin (AV.sc (Value.bool false)) [] []).yes.yes.no.no.yes.yes.no).yes.yes.br
    ((((Orc.fin (AV.sc (Value.bool false)) [] []).br
    (Orc.cut (nat_lit 4)
    (s11_2 on ofa ofba ofbba t8 (IntKind.i64.wrap (t9 + (1 : Int))) b0an b0afa b0afba b0afbba b0ban b0bafan b0bafaf
    b0bafba b0bafbba b0bafbbba b0bafbbbba b0bban b0bbaf b0bbban b0bbbafa b0bbbafba b0bbbafbba)
    (m11_2 on ofa ofba ofbba t8 (IntKind.i64.wrap (t9 + (1 : Int))) b0an b0afa b0afba b0afbba b0ban b0bafan b0bafaf
    b0bafba b0bafbba b0bafbbba b0bafbbbba b0bban b0bbaf b0bbban b0bbbafa b0bbbafba b0bbbafbba)
    [((1000 : Nat), some (1000 : Nat))])).yes.yes.yes.yes.yes.yes.yes.br
    (Orc.cut (nat_lit 4)
    (s11_2 on ofa ofba ofbba t8 (IntKind.i64.wrap (t9 + (1 : Int))) b0an b0afa b0afba b0afbba b0ban b0bafan b0bafaf
    b0bafba b0bafbba b0bafbbba b0bafbbbba b0bban b0bbaf b0bbban b0bbbafa b0bbbafba b0bbbafbba)
    (m11_2 on ofa ofba ofbba t8 (IntKind.i64.wrap (t9 + (1 : Int))) b0an b0afa b0afba b0afbba b0ban b0bafan b0bafaf
    b0bafba b0bafbba b0bafbbba b0bafbbbba b0bban b0bbaf b0bbban b0bbbafa b0bbbafba b0bbbafbba)
    [((1000 : Nat), some (1000 : Nat))]).no.no.no.no.no.no.no.no).yes.br
    (Orc.cut (nat_lit 4)
    (s11_2 on ofa ofba ofbba t8 (IntKind.i64.wrap (t9 + (1 : Int))) b0an b0afa b0afba b0afbba b0ban b0bafan b0bafaf
    b0bafba b0bafbba b0bafbbba b0bafbbbba b0bban b0bbaf b0bbban b0bbbafa b0bbbafba b0bbbafbba)
    (m11_2 on ofa ofba ofbba t8 (IntKind.i64.wrap (t9 + (1 : Int))) b0an b0afa b0afba b0afbba b0ban b0bafan b0bafaf
    b0bafba b0bafbba b0bafbbba b0bafbbbba b0bban b0bbaf b0bbban b0bbbafa b0bbbafba b0bbbafbba)
    [((1000 : Nat), some (1000 : Nat))]).no.no.no.no.no.no.no.no.no.no).no.no.no.no.no.no).br
  (Orc.cut (nat_lit 4)
    (s11_1 on ofa ofba ofbba (IntKind.i64.wrap (t8 + (1 : Int))) b0an b0afa b0afba b0afbba b0ban b0bafan b0bafaf b0bafba b0bafbba b0bafbbba b0bafbbbba b0bban
    b0bbaf b0bbban b0bbbafa b0bbbafba b0bbbafbba)
    (m11_1 on ofa ofba ofbba (IntKind.i64.wrap (t8 + (1 : Int))) b0an b0afa b0afba b0afbba b0ban b0bafan b0bafaf b0bafba b0bafbba b0bafbbba b0bafbbbba b0bban
    b0bbaf b0bbban b0bbbafa b0bbbafba b0bbbafbba)
    [((1000 : Nat), some (1000 : Nat))])) _ _ (by kernel_rfl) (by kernel_rfl) (show True ∧
  True ∧
    ((1 : Nat) + ((1 : Nat) + (0 : Nat)) = plus (0 : Nat) (2 : Nat) ∧ True) ∧
    True ∧
    True ∧
    ((0 : Int) ≤ IntKind.i64.wrap (t8 + (1 : Int)) ∧ IntKind.i64.wrap (t8 + (1 : Int)) < (↑b0bban : Int)) ∧
    True ∧
    True ∧
    (decide (t9 < b0bbaf (IntKind.i64.wrap (t8 + (1 : Int))).toNat) = true →
    True ∧
    ((1 : Nat) + ((1 : Nat) + ((1 : Nat) + (0 : Nat))) = plus (0 : Nat) (3 : Nat) ∧ True) ∧
    True ∧
    ((0 : Int) ≤ t9 ∧ t9 < (↑b0bbban : Int)) ∧
    True ∧
    True ∧
    True ∧
    True ∧
    ((1 : Nat) + (0 : Nat) = plus (0 : Nat) (1 : Nat) ∧ True) ∧
    True ∧
    ((0 : Int) ≤ t8 ∧ t8 < (↑b0ban : Int)) ∧
    True ∧
    True ∧
    True ∧
    True ∧
    (decide (b0bafba t8.toNat > (0 : Int)) = true →
    True ∧
    true = true ∧
    True ∧
    true = true ∧
    True ∧
    ((b0bbbafa t9.toNat == (19 : Int)) = false →
    True ∧
    false = false ∧
    True ∧
    true = true ∧
    True ∧
    true = true ∧
    True ∧
    ((b0bbbafa t9.toNat == (20 : Int)) = false →
    True ∧
    false = false ∧
    True ∧
    true = true ∧
    True ∧
    True ∧
    ((b0bbbafa t9.toNat == (21 : Int)) = true →
    True ∧
    True ∧
    ((True ∧
    Sub (AV.sc (Value.bool false))
    (AV.sc (Value.bool false)) ∧
    True) ∧
    True) ∧
    Sub (AV.sc (Value.bool false)) res ∧ SubOut [] []) ∧
    ((b0bbbafa t9.toNat == (21 : Int)) = false →
    True ∧
    True ∧
    True ∧
    (decide (t9 > (0 : Int)) = true →
    True ∧
    true = true ∧
    True ∧
    True ∧
    True ∧
    ((b0bbbafa t9.toNat == (20 : Int)) =
    true →
    True ∧
    true = true ∧
    ((1 : Nat) +
    ((1 : Nat) +
    ((1 : Nat) +
    (0 : Nat))) =
    plus (0 : Nat)
    (3 : Nat) ∧
    True) ∧
    true = true ∧
    True ∧
    true = true ∧
    True ∧
    true = true ∧
    ((0 : Int) ≤
    IntKind.i64.wrap
    (t9 -
    (1 :
    Int)) ∧
    IntKind.i64.wrap
    (t9 -
    (1 :
    Int)) <
    (↑b0bbban :
    Int)) ∧
    true = true ∧
    True ∧
    true =
    true ∧
    True ∧
    true =
    true ∧
    True ∧
    True ∧
    ((b0bbbafa
    (IntKind.i64.wrap
    (t9 -
    (1 :
    Int))).toNat !=
    (19 :
    Int)) =
    true →
    True ∧
    True ∧
    ((True ∧
    Sub
    (AV.sc
    (Value.bool
    false))
    (AV.sc
    (Value.bool
    false)) ∧
    True) ∧
    True) ∧
    Sub
    (AV.sc
    (Value.bool
    false))
    res ∧
    SubOut
    []
    []) ∧
    ((b0bbbafa
    (IntKind.i64.wrap
    (t9 -
    (1 :
    Int))).toNat !=
    (19 :
    Int)) =
    false →
    True ∧
    True ∧
    True ∧
    ((True ∧
    Sub
    (AV.vec
    true
    (3 :
    Nat)
    on
    on
    fun
    (i0 :
    Nat) =>
    AV.cons
    (1 :
    Nat)
    (AV.sc
    (Value.int
    IntKind.i64
    (ofa
    i0)))
    (AV.cons
    (1 :
    Nat)
    (AV.sc
    (Value.int
    IntKind.i64
    (ofba
    i0)))
    (AV.cons
    (1 :
    Nat)
    (AV.sc
    (Value.int
    IntKind.i64
    (ofbba
    i0)))
    AV.nil)))
    (AV.vec
    true
    (3 :
    Nat)
    on
    on
    fun
    (i0 :
    Nat) =>
    AV.cons
    (1 :
    Nat)
    (AV.sc
    (Value.int
    IntKind.i64
    (ofa
    i0)))
    (AV.cons
    (1 :
    Nat)
    (AV.sc
    (Value.int
    IntKind.i64
    (ofba
    i0)))
    (AV.cons
    (1 :
    Nat)
    (AV.sc
    (Value.int
    IntKind.i64
    (ofbba
    i0)))
    AV.nil))) ∧
    True ∧
    Sub
    (AV.pt
    (1000 :
    Nat)
    []
    (0 :
    Nat))
    (AV.pt
    (1000 :
    Nat)
    []
    (0 :
    Nat)) ∧
    True ∧
    Sub
    (AV.sc
    (Value.int
    IntKind.i64
    t8))
    (AV.sc
    (Value.int
    IntKind.i64
    t8)) ∧
    True ∧
    Sub
    (AV.sc
    (Value.int
    IntKind.i64
    (IntKind.i64.wrap
    (t9 +
    (1 :
    Int)))))
    (AV.sc
    (Value.int
    IntKind.i64
    (IntKind.i64.wrap
    (t9 +
    (1 :
    Int))))) ∧
    True) ∧
    (True ∧
    True ∧
    True ∧
    True ∧
    True) ∧
    SubB
    (AV.cons
    (1 :
    Nat)
    (AV.vec
    false
    (3 :
    Nat)
    b0an
    b0an
    fun
    (i0 :
    Nat) =>
    AV.cons
    (1 :
    Nat)
    (AV.sc
    (Value.int
    IntKind.i64
    (b0afa
    i0)))
    (AV.cons
    (1 :
    Nat)
    (AV.sc
    (Value.int
    IntKind.i64
    (b0afba
    i0)))
    (AV.cons
    (1 :
    Nat)
    (AV.sc
    (Value.int
    IntKind.i64
    (b0afbba
    i0)))
    AV.nil)))
    (AV.cons
    (1 :
    Nat)
    (AV.vec
    false
    (5 :
    Nat)
    b0ban
    b0ban
    fun
    (i0 :
    Nat) =>
    AV.cons
    (1 :
    Nat)
    (AV.vec
    false
    (1 :
    Nat)
    (b0bafan
    i0)
    (b0bafan
    i0)
    fun
    (i1 :
    Nat) =>
    AV.sc
    (Value.int
    IntKind.i64
    (b0bafaf
    i0
    i1)))
    (AV.cons
    (1 :
    Nat)
    (AV.sc
    (Value.int
    IntKind.i64
    (b0bafba
    i0)))
    (AV.cons
    (1 :
    Nat)
    (AV.sc
    (Value.int
    IntKind.i64
    (b0bafbba
    i0)))
    (AV.cons
    (1 :
    Nat)
    (AV.sc
    (Value.bool
    (b0bafbbba
    i0)))
    (AV.cons
    (1 :
    Nat)
    (AV.sc
    (Value.int
    IntKind.i64
    (b0bafbbbba
    i0)))
    AV.nil)))))
    (AV.cons
    (1 :
    Nat)
    (AV.vec
    false
    (1 :
    Nat)
    b0bban
    b0bban
    fun
    (i0 :
    Nat) =>
    AV.sc
    (Value.int
    IntKind.i64
    (b0bbaf
    i0)))
    (AV.cons
    (1 :
    Nat)
    (AV.vec
    false
    (3 :
    Nat)
    b0bbban
    b0bbban
    fun
    (i0 :
    Nat) =>
    AV.cons
    (1 :
    Nat)
    (AV.sc
    (Value.int
    IntKind.i64
    (b0bbbafa
    i0)))
    (AV.cons
    (1 :
    Nat)
    (AV.sc
    (Value.int
    IntKind.i64
    (b0bbbafba
    i0)))
    (AV.cons
    (1 :
    Nat)
    (AV.sc
    (Value.int
    IntKind.i64
    (b0bbbafbba
    i0)))
    AV.nil)))
    AV.nil))))
    (AV.cons
    (1 :
    Nat)
    (AV.vec
    false
    (3 :
    Nat)
    b0an
    b0an
    fun
    (i0 :
    Nat) =>
    AV.cons
    (1 :
    Nat)
    (AV.sc
    (Value.int
    IntKind.i64
    (b0afa
    i0)))
    (AV.cons
    (1 :
    Nat)
    (AV.sc
    (Value.int
    IntKind.i64
    (b0afba
    i0)))
    (AV.cons
    (1 :
    Nat)
    (AV.sc
    (Value.int
    IntKind.i64
    (b0afbba
    i0)))
    AV.nil)))
    (AV.cons
    (1 :
    Nat)
    (AV.vec
    false
    (5 :
    Nat)
    b0ban
    b0ban
    fun
    (i0 :
    Nat) =>
    AV.cons
    (1 :
    Nat)
    (AV.vec
    false
    (1 :
    Nat)
    (b0bafan
    i0)
    (b0bafan
    i0)
    fun
    (i1 :
    Nat) =>
    AV.sc
    (Value.int
    IntKind.i64
    (b0bafaf
    i0
    i1)))
    (AV.cons
    (1 :
    Nat)
    (AV.sc
    (Value.int
    IntKind.i64
    (b0bafba
    i0)))
    (AV.cons
    (1 :
    Nat)
    (AV.sc
    (Value.int
    IntKind.i64
    (b0bafbba
    i0)))
    (AV.cons
    (1 :
    Nat)
    (AV.sc
    (Value.bool
    (b0bafbbba
    i0)))
    (AV.cons
    (1 :
    Nat)
    (AV.sc
    (Value.int
    IntKind.i64
    (b0bafbbbba
    i0)))
    AV.nil)))))
    (AV.cons
    (1 :
    Nat)
    (AV.vec
    false
    (1 :
    Nat)
    b0bban
    b0bban
    fun
    (i0 :
    Nat) =>
    AV.sc
    (Value.int
    IntKind.i64
    (b0bbaf
    i0)))
    (AV.cons
    (1 :
    Nat)
    (AV.vec
    false
    (3 :
    Nat)
    b0bbban
    b0bbban
    fun
    (i0 :
    Nat) =>
    AV.cons
    (1 :
    Nat)
    (AV.sc
    (Value.int
    IntKind.i64
    (b0bbbafa
    i0)))
    (AV.cons
    (1 :
    Nat)
    (AV.sc
    (Value.int
    IntKind.i64
    (b0bbbafba
    i0)))
    (AV.cons
    (1 :
    Nat)
    (AV.sc
    (Value.int
    IntKind.i64
    (b0bbbafbba
    i0)))
    AV.nil)))
    AV.nil)))) ∧
    True) ∧
    L11_2
    on
    ofa
    ofba
    ofbba
    t8
    (IntKind.i64.wrap
    (t9 +
    (1 :
    Int)))
    b0an
    b0afa
    b0afba
    b0afbba
    b0ban
    b0bafan
    b0bafaf
    b0bafba
    b0bafbba
    b0bafbbba
    b0bafbbbba
    b0bban
    b0bbaf
    b0bbban
    b0bbbafa
    b0bbbafba
    b0bbbafbba
    res)) ∧
    ((b0bbbafa t9.toNat == (20 : Int)) =
    !true →
    true = true ∧
    (!true) = !true ∧
    true = true ∧
    (!true) = !true ∧
    true = true ∧
    (!true) = !true ∧
    true = true ∧
    (!true) = !true ∧
    true = true ∧
    (!true) =
    !true ∧
    true = true ∧
    (!true) =
    !true ∧
    true =
    true ∧
    (!true) =
    !true ∧
    true =
    true ∧
    True ∧
    false =
    false ∧
    True ∧
    True ∧
    True ∧
    ((True ∧
    Sub
    (AV.vec
    true
    (3 :
    Nat)
    on
    on
    fun
    (i0 :
    Nat) =>
    AV.cons
    (1 :
    Nat)
    (AV.sc
    (Value.int
    IntKind.i64
    (ofa
    i0)))
    (AV.cons
    (1 :
    Nat)
    (AV.sc
    (Value.int
    IntKind.i64
    (ofba
    i0)))
    (AV.cons
    (1 :
    Nat)
    (AV.sc
    (Value.int
    IntKind.i64
    (ofbba
    i0)))
    AV.nil)))
    (AV.vec
    true
    (3 :
    Nat)
    on
    on
    fun
    (i0 :
    Nat) =>
    AV.cons
    (1 :
    Nat)
    (AV.sc
    (Value.int
    IntKind.i64
    (ofa
    i0)))
    (AV.cons
    (1 :
    Nat)
    (AV.sc
    (Value.int
    IntKind.i64
    (ofba
    i0)))
    (AV.cons
    (1 :
    Nat)
    (AV.sc
    (Value.int
    IntKind.i64
    (ofbba
    i0)))
    AV.nil))) ∧
    True ∧
    Sub
    (AV.pt
    (1000 :
    Nat)
    []
    (0 :
    Nat))
    (AV.pt
    (1000 :
    Nat)
    []
    (0 :
    Nat)) ∧
    True ∧
    Sub
    (AV.sc
    (Value.int
    IntKind.i64
    t8))
    (AV.sc
    (Value.int
    IntKind.i64
    t8)) ∧
    True ∧
    Sub
    (AV.sc
    (Value.int
    IntKind.i64
    (IntKind.i64.wrap
    (t9 +
    (1 :
    Int)))))
    (AV.sc
    (Value.int
    IntKind.i64
    (IntKind.i64.wrap
    (t9 +
    (1 :
    Int))))) ∧
    True) ∧
    (True ∧
    True ∧
    True ∧
    True ∧
    True) ∧
    SubB
    (AV.cons
    (1 :
    Nat)
    (AV.vec
    false
    (3 :
    Nat)
    b0an
    b0an
    fun
    (i0 :
    Nat) =>
    AV.cons
    (1 :
    Nat)
    (AV.sc
    (Value.int
    IntKind.i64
    (b0afa
    i0)))
    (AV.cons
    (1 :
    Nat)
    (AV.sc
    (Value.int
    IntKind.i64
    (b0afba
    i0)))
    (AV.cons
    (1 :
    Nat)
    (AV.sc
    (Value.int
    IntKind.i64
    (b0afbba
    i0)))
    AV.nil)))
    (AV.cons
    (1 :
    Nat)
    (AV.vec
    false
    (5 :
    Nat)
    b0ban
    b0ban
    fun
    (i0 :
    Nat) =>
    AV.cons
    (1 :
    Nat)
    (AV.vec
    false
    (1 :
    Nat)
    (b0bafan
    i0)
    (b0bafan
    i0)
    fun
    (i1 :
    Nat) =>
    AV.sc
    (Value.int
    IntKind.i64
    (b0bafaf
    i0
    i1)))
    (AV.cons
    (1 :
    Nat)
    (AV.sc
    (Value.int
    IntKind.i64
    (b0bafba
    i0)))
    (AV.cons
    (1 :
    Nat)
    (AV.sc
    (Value.int
    IntKind.i64
    (b0bafbba
    i0)))
    (AV.cons
    (1 :
    Nat)
    (AV.sc
    (Value.bool
    (b0bafbbba
    i0)))
    (AV.cons
    (1 :
    Nat)
    (AV.sc
    (Value.int
    IntKind.i64
    (b0bafbbbba
    i0)))
    AV.nil)))))
    (AV.cons
    (1 :
    Nat)
    (AV.vec
    false
    (1 :
    Nat)
    b0bban
    b0bban
    fun
    (i0 :
    Nat) =>
    AV.sc
    (Value.int
    IntKind.i64
    (b0bbaf
    i0)))
    (AV.cons
    (1 :
    Nat)
    (AV.vec
    false
    (3 :
    Nat)
    b0bbban
    b0bbban
    fun
    (i0 :
    Nat) =>
    AV.cons
    (1 :
    Nat)
    (AV.sc
    (Value.int
    IntKind.i64
    (b0bbbafa
    i0)))
    (AV.cons
    (1 :
    Nat)
    (AV.sc
    (Value.int
    IntKind.i64
    (b0bbbafba
    i0)))
    (AV.cons
    (1 :
    Nat)
    (AV.sc
    (Value.int
    IntKind.i64
    (b0bbbafbba
    i0)))
    AV.nil)))
    AV.nil))))
    (AV.cons
    (1 :
    Nat)
    (AV.vec
    false
    (3 :
    Nat)
    b0an
    b0an
    fun
    (i0 :
    Nat) =>
    AV.cons
    (1 :
    Nat)
    (AV.sc
    (Value.int
    IntKind.i64
    (b0afa
    i0)))
    (AV.cons
    (1 :
    Nat)
    (AV.sc
    (Value.int
    IntKind.i64
    (b0afba
    i0)))
    (AV.cons
    (1 :
    Nat)
    (AV.sc
    (Value.int
    IntKind.i64
    (b0afbba
    i0)))
    AV.nil)))
    (AV.cons
    (1 :
    Nat)
    (AV.vec
    false
    (5 :
    Nat)
    b0ban
    b0ban
    fun
    (i0 :
    Nat) =>
    AV.cons
    (1 :
    Nat)
    (AV.vec
    false
    (1 :
    Nat)
    (b0bafan
    i0)
    (b0bafan
    i0)
    fun
    (i1 :
    Nat) =>
    AV.sc
    (Value.int
    IntKind.i64
    (b0bafaf
    i0
    i1)))
    (AV.cons
    (1 :
    Nat)
    (AV.sc
    (Value.int
    IntKind.i64
    (b0bafba
    i0)))
    (AV.cons
    (1 :
    Nat)
    (AV.sc
    (Value.int
    IntKind.i64
    (b0bafbba
    i0)))
    (AV.cons
    (1 :
    Nat)
    (AV.sc
    (Value.bool
    (b0bafbbba
    i0)))
    (AV.cons
    (1 :
    Nat)
    (AV.sc
    (Value.int
    IntKind.i64
    (b0bafbbbba
    i0)))
    AV.nil)))))
    (AV.cons
    (1 :
    Nat)
    (AV.vec
    false
    (1 :
    Nat)
    b0bban
    b0bban
    fun
    (i0 :
    Nat) =>
    AV.sc
    (Value.int
    IntKind.i64
    (b0bbaf
    i0)))
    (AV.cons
    (1 :
    Nat)
    (AV.vec
    false
    (3 :
    Nat)
    b0bbban
    b0bbban
    fun
    (i0 :
    Nat) =>
    AV.cons
    (1 :
    Nat)
    (AV.sc
    (Value.int
    IntKind.i64
    (b0bbbafa
    i0)))
    (AV.cons
    (1 :
    Nat)
    (AV.sc
    (Value.int
    IntKind.i64
    (b0bbbafba
    i0)))
    (AV.cons
    (1 :
    Nat)
    (AV.sc
    (Value.int
    IntKind.i64
    (b0bbbafbba
    i0)))
    AV.nil)))
    AV.nil)))) ∧
    True) ∧
    L11_2
    on
    ofa
    ofba
    ofbba
    t8
    (IntKind.i64.wrap
    (t9 +
    (1 :
    Int)))
    b0an
    b0afa
    b0afba
    b0afbba
    b0ban
    b0bafan
    b0bafaf
    b0bafba
    b0bafbba
    b0bafbbba
    b0bafbbbba
    b0bban
    b0bbaf
    b0bbban
    b0bbbafa
    b0bbbafba
    b0bbbafbba
    res)) ∧
    (decide (t9 > (0 : Int)) = !true →
    true = true ∧
    (!true) = !true ∧
    true = true ∧
    True ∧
    True ∧
    false = !true ∧
    true = true ∧
    (!true) = !true ∧
    true = true ∧
    (!true) = !true ∧
    true = true ∧
    (!true) = !true ∧
    true = true ∧
    (!true) = !true ∧
    true = true ∧
    (!true) = !true ∧
    true = true ∧
    (!true) =
    !true ∧
    true =
    true ∧
    (!true) =
    !true ∧
    true =
    true ∧
    True ∧
    false =
    false ∧
    True ∧
    True ∧
    True ∧
    ((True ∧
    Sub
    (AV.vec
    true
    (3 :
    Nat)
    on
    on
    fun
    (i0 :
    Nat) =>
    AV.cons
    (1 :
    Nat)
    (AV.sc
    (Value.int
    IntKind.i64
    (ofa
    i0)))
    (AV.cons
    (1 :
    Nat)
    (AV.sc
    (Value.int
    IntKind.i64
    (ofba
    i0)))
    (AV.cons
    (1 :
    Nat)
    (AV.sc
    (Value.int
    IntKind.i64
    (ofbba
    i0)))
    AV.nil)))
    (AV.vec
    true
    (3 :
    Nat)
    on
    on
    fun
    (i0 :
    Nat) =>
    AV.cons
    (1 :
    Nat)
    (AV.sc
    (Value.int
    IntKind.i64
    (ofa
    i0)))
    (AV.cons
    (1 :
    Nat)
    (AV.sc
    (Value.int
    IntKind.i64
    (ofba
    i0)))
    (AV.cons
    (1 :
    Nat)
    (AV.sc
    (Value.int
    IntKind.i64
    (ofbba
    i0)))
    AV.nil))) ∧
    True ∧
    Sub
    (AV.pt
    (1000 :
    Nat)
    []
    (0 :
    Nat))
    (AV.pt
    (1000 :
    Nat)
    []
    (0 :
    Nat)) ∧
    True ∧
    Sub
    (AV.sc
    (Value.int
    IntKind.i64
    t8))
    (AV.sc
    (Value.int
    IntKind.i64
    t8)) ∧
    True ∧
    Sub
    (AV.sc
    (Value.int
    IntKind.i64
    (IntKind.i64.wrap
    (t9 +
    (1 :
    Int)))))
    (AV.sc
    (Value.int
    IntKind.i64
    (IntKind.i64.wrap
    (t9 +
    (1 :
    Int))))) ∧
    True) ∧
    (True ∧
    True ∧
    True ∧
    True ∧
    True) ∧
    SubB
    (AV.cons
    (1 :
    Nat)
    (AV.vec
    false
    (3 :
    Nat)
    b0an
    b0an
    fun
    (i0 :
    Nat) =>
    AV.cons
    (1 :
    Nat)
    (AV.sc
    (Value.int
    IntKind.i64
    (b0afa
    i0)))
    (AV.cons
    (1 :
    Nat)
    (AV.sc
    (Value.int
    IntKind.i64
    (b0afba
    i0)))
    (AV.cons
    (1 :
    Nat)
    (AV.sc
    (Value.int
    IntKind.i64
    (b0afbba
    i0)))
    AV.nil)))
    (AV.cons
    (1 :
    Nat)
    (AV.vec
    false
    (5 :
    Nat)
    b0ban
    b0ban
    fun
    (i0 :
    Nat) =>
    AV.cons
    (1 :
    Nat)
    (AV.vec
    false
    (1 :
    Nat)
    (b0bafan
    i0)
    (b0bafan
    i0)
    fun
    (i1 :
    Nat) =>
    AV.sc
    (Value.int
    IntKind.i64
    (b0bafaf
    i0
    i1)))
    (AV.cons
    (1 :
    Nat)
    (AV.sc
    (Value.int
    IntKind.i64
    (b0bafba
    i0)))
    (AV.cons
    (1 :
    Nat)
    (AV.sc
    (Value.int
    IntKind.i64
    (b0bafbba
    i0)))
    (AV.cons
    (1 :
    Nat)
    (AV.sc
    (Value.bool
    (b0bafbbba
    i0)))
    (AV.cons
    (1 :
    Nat)
    (AV.sc
    (Value.int
    IntKind.i64
    (b0bafbbbba
    i0)))
    AV.nil)))))
    (AV.cons
    (1 :
    Nat)
    (AV.vec
    false
    (1 :
    Nat)
    b0bban
    b0bban
    fun
    (i0 :
    Nat) =>
    AV.sc
    (Value.int
    IntKind.i64
    (b0bbaf
    i0)))
    (AV.cons
    (1 :
    Nat)
    (AV.vec
    false
    (3 :
    Nat)
    b0bbban
    b0bbban
    fun
    (i0 :
    Nat) =>
    AV.cons
    (1 :
    Nat)
    (AV.sc
    (Value.int
    IntKind.i64
    (b0bbbafa
    i0)))
    (AV.cons
    (1 :
    Nat)
    (AV.sc
    (Value.int
    IntKind.i64
    (b0bbbafba
    i0)))
    (AV.cons
    (1 :
    Nat)
    (AV.sc
    (Value.int
    IntKind.i64
    (b0bbbafbba
    i0)))
    AV.nil)))
    AV.nil))))
    (AV.cons
    (1 :
    Nat)
    (AV.vec
    false
    (3 :
    Nat)
    b0an
    b0an
    fun
    (i0 :
    Nat) =>
    AV.cons
    (1 :
    Nat)
    (AV.sc
    (Value.int
    IntKind.i64
    (b0afa
    i0)))
    (AV.cons
    (1 :
    Nat)
    (AV.sc
    (Value.int
    IntKind.i64
    (b0afba
    i0)))
    (AV.cons
    (1 :
    Nat)
    (AV.sc
    (Value.int
    IntKind.i64
    (b0afbba
    i0)))
    AV.nil)))
    (AV.cons
    (1 :
    Nat)
    (AV.vec
    false
    (5 :
    Nat)
    b0ban
    b0ban
    fun
    (i0 :
    Nat) =>
    AV.cons
    (1 :
    Nat)
    (AV.vec
    false
    (1 :
    Nat)
    (b0bafan
    i0)
    (b0bafan
    i0)
    fun
    (i1 :
    Nat) =>
    AV.sc
    (Value.int
    IntKind.i64
    (b0bafaf
    i0
    i1)))
    (AV.cons
    (1 :
    Nat)
    (AV.sc
    (Value.int
    IntKind.i64
    (b0bafba
    i0)))
    (AV.cons
    (1 :
    Nat)
    (AV.sc
    (Value.int
    IntKind.i64
    (b0bafbba
    i0)))
    (AV.cons
    (1 :
    Nat)
    (AV.sc
    (Value.bool
    (b0bafbbba
    i0)))
    (AV.cons
    (1 :
    Nat)
    (AV.sc
    (Value.int
    IntKind.i64
    (b0bafbbbba
    i0)))
    AV.nil)))))
    (AV.cons
    (1 :
    Nat)
    (AV.vec
    false
    (1 :
    Nat)
    b0bban
    b0bban
    fun
    (i0 :
    Nat) =>
    AV.sc
    (Value.int
    IntKind.i64
    (b0bbaf
    i0)))
    (AV.cons
    (1 :
    Nat)
    (AV.vec
    false
    (3 :
    Nat)
    b0bbban
    b0bbban
    fun
    (i0 :
    Nat) =>
    AV.cons
    (1 :
    Nat)
    (AV.sc
    (Value.int
    IntKind.i64
    (b0bbbafa
    i0)))
    (AV.cons
    (1 :
    Nat)
    (AV.sc
    (Value.int
    IntKind.i64
    (b0bbbafba
    i0)))
    (AV.cons
    (1 :
    Nat)
    (AV.sc
    (Value.int
    IntKind.i64
    (b0bbbafbba
    i0)))
    AV.nil)))
    AV.nil)))) ∧
    True) ∧
    L11_2
    on
    ofa
    ofba
    ofbba
    t8
    (IntKind.i64.wrap
    (t9 +
    (1 :
    Int)))
    b0an
    b0afa
    b0afba
    b0afbba
    b0ban
    b0bafan
    b0bafaf
    b0bafba
    b0bafbba
    b0bafbbba
    b0bafbbbba
    b0bban
    b0bbaf
    b0bbban
    b0bbbafa
    b0bbbafba
    b0bbbafbba
    res))) ∧
    ((b0bbbafa t9.toNat == (20 : Int)) = !false →
    true = true ∧
    (!false) = !false ∧
    true = true ∧
    true = true ∧
    True ∧
    True ∧
    true = true ∧
    True ∧
    True ∧
    ((True ∧
    Sub (AV.sc (Value.bool false))
    (AV.sc (Value.bool false)) ∧
    True) ∧
    True) ∧
    Sub (AV.sc (Value.bool false)) res ∧ SubOut [] [])) ∧
    ((b0bbbafa t9.toNat == (19 : Int)) = !false →
    true = true ∧
    (!false) = !false ∧
    true = true ∧
    true = true ∧
    True ∧
    true = true ∧
    True ∧
    true = !false ∧
    true = true ∧
    (!false) = !false ∧
    true = true ∧
    true = true ∧
    True ∧
    True ∧
    true = true ∧
    True ∧
    True ∧
    ((True ∧
    Sub (AV.sc (Value.bool false))
    (AV.sc (Value.bool false)) ∧
    True) ∧
    True) ∧
    Sub (AV.sc (Value.bool false)) res ∧ SubOut [] [])) ∧
    (decide (b0bafba t8.toNat > (0 : Int)) = !true →
    true = true ∧
    (!true) = !true ∧
    true = true ∧
    (!true) = !true ∧
    true = true ∧
    true = true ∧
    true = true ∧
    (!true) = !true ∧
    true = true ∧
    (!true) = !true ∧
    true = true ∧
    true = true ∧
    true = true ∧
    (!true) = !true ∧
    true = true ∧
    True ∧
    false = false ∧
    True ∧
    True ∧
    True ∧
    (decide (t9 > (0 : Int)) = true →
    True ∧
    true = true ∧
    True ∧
    True ∧
    True ∧
    ((b0bbbafa t9.toNat == (20 : Int)) = true →
    True ∧
    true = true ∧
    ((1 : Nat) +
    ((1 : Nat) +
    ((1 : Nat) + (0 : Nat))) =
    plus (0 : Nat) (3 : Nat) ∧
    True) ∧
    true = true ∧
    True ∧
    true = true ∧
    True ∧
    true = true ∧
    ((0 : Int) ≤
    IntKind.i64.wrap
    (t9 - (1 : Int)) ∧
    IntKind.i64.wrap
    (t9 - (1 : Int)) <
    (↑b0bbban : Int)) ∧
    true = true ∧
    True ∧
    true = true ∧
    True ∧
    true = true ∧
    True ∧
    True ∧
    ((b0bbbafa
    (IntKind.i64.wrap
    (t9 -
    (1 :
    Int))).toNat !=
    (19 :
    Int)) =
    true →
    True ∧
    True ∧
    ((True ∧
    Sub
    (AV.sc
    (Value.bool
    false))
    (AV.sc
    (Value.bool
    false)) ∧
    True) ∧
    True) ∧
    Sub
    (AV.sc
    (Value.bool
    false))
    res ∧
    SubOut
    []
    []) ∧
    ((b0bbbafa
    (IntKind.i64.wrap
    (t9 -
    (1 :
    Int))).toNat !=
    (19 :
    Int)) =
    false →
    True ∧
    True ∧
    True ∧
    ((True ∧
    Sub
    (AV.vec
    true
    (3 :
    Nat)
    on
    on
    fun
    (i0 :
    Nat) =>
    AV.cons
    (1 :
    Nat)
    (AV.sc
    (Value.int
    IntKind.i64
    (ofa
    i0)))
    (AV.cons
    (1 :
    Nat)
    (AV.sc
    (Value.int
    IntKind.i64
    (ofba
    i0)))
    (AV.cons
    (1 :
    Nat)
    (AV.sc
    (Value.int
    IntKind.i64
    (ofbba
    i0)))
    AV.nil)))
    (AV.vec
    true
    (3 :
    Nat)
    on
    on
    fun
    (i0 :
    Nat) =>
    AV.cons
    (1 :
    Nat)
    (AV.sc
    (Value.int
    IntKind.i64
    (ofa
    i0)))
    (AV.cons
    (1 :
    Nat)
    (AV.sc
    (Value.int
    IntKind.i64
    (ofba
    i0)))
    (AV.cons
    (1 :
    Nat)
    (AV.sc
    (Value.int
    IntKind.i64
    (ofbba
    i0)))
    AV.nil))) ∧
    True ∧
    Sub
    (AV.pt
    (1000 :
    Nat)
    []
    (0 :
    Nat))
    (AV.pt
    (1000 :
    Nat)
    []
    (0 :
    Nat)) ∧
    True ∧
    Sub
    (AV.sc
    (Value.int
    IntKind.i64
    t8))
    (AV.sc
    (Value.int
    IntKind.i64
    t8)) ∧
    True ∧
    Sub
    (AV.sc
    (Value.int
    IntKind.i64
    (IntKind.i64.wrap
    (t9 +
    (1 :
    Int)))))
    (AV.sc
    (Value.int
    IntKind.i64
    (IntKind.i64.wrap
    (t9 +
    (1 :
    Int))))) ∧
    True) ∧
    (True ∧
    True ∧
    True ∧
    True ∧
    True) ∧
    SubB
    (AV.cons
    (1 :
    Nat)
    (AV.vec
    false
    (3 :
    Nat)
    b0an
    b0an
    fun
    (i0 :
    Nat) =>
    AV.cons
    (1 :
    Nat)
    (AV.sc
    (Value.int
    IntKind.i64
    (b0afa
    i0)))
    (AV.cons
    (1 :
    Nat)
    (AV.sc
    (Value.int
    IntKind.i64
    (b0afba
    i0)))
    (AV.cons
    (1 :
    Nat)
    (AV.sc
    (Value.int
    IntKind.i64
    (b0afbba
    i0)))
    AV.nil)))
    (AV.cons
    (1 :
    Nat)
    (AV.vec
    false
    (5 :
    Nat)
    b0ban
    b0ban
    fun
    (i0 :
    Nat) =>
    AV.cons
    (1 :
    Nat)
    (AV.vec
    false
    (1 :
    Nat)
    (b0bafan
    i0)
    (b0bafan
    i0)
    fun
    (i1 :
    Nat) =>
    AV.sc
    (Value.int
    IntKind.i64
    (b0bafaf
    i0
    i1)))
    (AV.cons
    (1 :
    Nat)
    (AV.sc
    (Value.int
    IntKind.i64
    (b0bafba
    i0)))
    (AV.cons
    (1 :
    Nat)
    (AV.sc
    (Value.int
    IntKind.i64
    (b0bafbba
    i0)))
    (AV.cons
    (1 :
    Nat)
    (AV.sc
    (Value.bool
    (b0bafbbba
    i0)))
    (AV.cons
    (1 :
    Nat)
    (AV.sc
    (Value.int
    IntKind.i64
    (b0bafbbbba
    i0)))
    AV.nil)))))
    (AV.cons
    (1 :
    Nat)
    (AV.vec
    false
    (1 :
    Nat)
    b0bban
    b0bban
    fun
    (i0 :
    Nat) =>
    AV.sc
    (Value.int
    IntKind.i64
    (b0bbaf
    i0)))
    (AV.cons
    (1 :
    Nat)
    (AV.vec
    false
    (3 :
    Nat)
    b0bbban
    b0bbban
    fun
    (i0 :
    Nat) =>
    AV.cons
    (1 :
    Nat)
    (AV.sc
    (Value.int
    IntKind.i64
    (b0bbbafa
    i0)))
    (AV.cons
    (1 :
    Nat)
    (AV.sc
    (Value.int
    IntKind.i64
    (b0bbbafba
    i0)))
    (AV.cons
    (1 :
    Nat)
    (AV.sc
    (Value.int
    IntKind.i64
    (b0bbbafbba
    i0)))
    AV.nil)))
    AV.nil))))
    (AV.cons
    (1 :
    Nat)
    (AV.vec
    false
    (3 :
    Nat)
    b0an
    b0an
    fun
    (i0 :
    Nat) =>
    AV.cons
    (1 :
    Nat)
    (AV.sc
    (Value.int
    IntKind.i64
    (b0afa
    i0)))
    (AV.cons
    (1 :
    Nat)
    (AV.sc
    (Value.int
    IntKind.i64
    (b0afba
    i0)))
    (AV.cons
    (1 :
    Nat)
    (AV.sc
    (Value.int
    IntKind.i64
    (b0afbba
    i0)))
    AV.nil)))
    (AV.cons
    (1 :
    Nat)
    (AV.vec
    false
    (5 :
    Nat)
    b0ban
    b0ban
    fun
    (i0 :
    Nat) =>
    AV.cons
    (1 :
    Nat)
    (AV.vec
    false
    (1 :
    Nat)
    (b0bafan
    i0)
    (b0bafan
    i0)
    fun
    (i1 :
    Nat) =>
    AV.sc
    (Value.int
    IntKind.i64
    (b0bafaf
    i0
    i1)))
    (AV.cons
    (1 :
    Nat)
    (AV.sc
    (Value.int
    IntKind.i64
    (b0bafba
    i0)))
    (AV.cons
    (1 :
    Nat)
    (AV.sc
    (Value.int
    IntKind.i64
    (b0bafbba
    i0)))
    (AV.cons
    (1 :
    Nat)
    (AV.sc
    (Value.bool
    (b0bafbbba
    i0)))
    (AV.cons
    (1 :
    Nat)
    (AV.sc
    (Value.int
    IntKind.i64
    (b0bafbbbba
    i0)))
    AV.nil)))))
    (AV.cons
    (1 :
    Nat)
    (AV.vec
    false
    (1 :
    Nat)
    b0bban
    b0bban
    fun
    (i0 :
    Nat) =>
    AV.sc
    (Value.int
    IntKind.i64
    (b0bbaf
    i0)))
    (AV.cons
    (1 :
    Nat)
    (AV.vec
    false
    (3 :
    Nat)
    b0bbban
    b0bbban
    fun
    (i0 :
    Nat) =>
    AV.cons
    (1 :
    Nat)
    (AV.sc
    (Value.int
    IntKind.i64
    (b0bbbafa
    i0)))
    (AV.cons
    (1 :
    Nat)
    (AV.sc
    (Value.int
    IntKind.i64
    (b0bbbafba
    i0)))
    (AV.cons
    (1 :
    Nat)
    (AV.sc
    (Value.int
    IntKind.i64
    (b0bbbafbba
    i0)))
    AV.nil)))
    AV.nil)))) ∧
    True) ∧
    L11_2
    on
    ofa
    ofba
    ofbba
    t8
    (IntKind.i64.wrap
    (t9 +
    (1 :
    Int)))
    b0an
    b0afa
    b0afba
    b0afbba
    b0ban
    b0bafan
    b0bafaf
    b0bafba
    b0bafbba
    b0bafbbba
    b0bafbbbba
    b0bban
    b0bbaf
    b0bbban
    b0bbbafa
    b0bbbafba
    b0bbbafbba
    res)) ∧
    ((b0bbbafa t9.toNat == (20 : Int)) = !true →
    true = true ∧
    (!true) = !true ∧
    true = true ∧
    (!true) = !true ∧
    true = true ∧
    (!true) = !true ∧
    true = true ∧
    (!true) = !true ∧
    true = true ∧
    (!true) = !true ∧
    true = true ∧
    (!true) = !true ∧
    true = true ∧
    (!true) = !true ∧
    true = true ∧
    True ∧
    false = false ∧
    True ∧
    True ∧
    True ∧
    ((True ∧
    Sub
    (AV.vec
    true
    (3 :
    Nat)
    on
    on
    fun
    (i0 :
    Nat) =>
    AV.cons
    (1 :
    Nat)
    (AV.sc
    (Value.int
    IntKind.i64
    (ofa
    i0)))
    (AV.cons
    (1 :
    Nat)
    (AV.sc
    (Value.int
    IntKind.i64
    (ofba
    i0)))
    (AV.cons
    (1 :
    Nat)
    (AV.sc
    (Value.int
    IntKind.i64
    (ofbba
    i0)))
    AV.nil)))
    (AV.vec
    true
    (3 :
    Nat)
    on
    on
    fun
    (i0 :
    Nat) =>
    AV.cons
    (1 :
    Nat)
    (AV.sc
    (Value.int
    IntKind.i64
    (ofa
    i0)))
    (AV.cons
    (1 :
    Nat)
    (AV.sc
    (Value.int
    IntKind.i64
    (ofba
    i0)))
    (AV.cons
    (1 :
    Nat)
    (AV.sc
    (Value.int
    IntKind.i64
    (ofbba
    i0)))
    AV.nil))) ∧
    True ∧
    Sub
    (AV.pt
    (1000 :
    Nat)
    []
    (0 :
    Nat))
    (AV.pt
    (1000 :
    Nat)
    []
    (0 :
    Nat)) ∧
    True ∧
    Sub
    (AV.sc
    (Value.int
    IntKind.i64
    t8))
    (AV.sc
    (Value.int
    IntKind.i64
    t8)) ∧
    True ∧
    Sub
    (AV.sc
    (Value.int
    IntKind.i64
    (IntKind.i64.wrap
    (t9 +
    (1 :
    Int)))))
    (AV.sc
    (Value.int
    IntKind.i64
    (IntKind.i64.wrap
    (t9 +
    (1 :
    Int))))) ∧
    True) ∧
    (True ∧
    True ∧
    True ∧
    True ∧
    True) ∧
    SubB
    (AV.cons
    (1 :
    Nat)
    (AV.vec
    false
    (3 :
    Nat)
    b0an
    b0an
    fun
    (i0 :
    Nat) =>
    AV.cons
    (1 :
    Nat)
    (AV.sc
    (Value.int
    IntKind.i64
    (b0afa
    i0)))
    (AV.cons
    (1 :
    Nat)
    (AV.sc
    (Value.int
    IntKind.i64
    (b0afba
    i0)))
    (AV.cons
    (1 :
    Nat)
    (AV.sc
    (Value.int
    IntKind.i64
    (b0afbba
    i0)))
    AV.nil)))
    (AV.cons
    (1 :
    Nat)
    (AV.vec
    false
    (5 :
    Nat)
    b0ban
    b0ban
    fun
    (i0 :
    Nat) =>
    AV.cons
    (1 :
    Nat)
    (AV.vec
    false
    (1 :
    Nat)
    (b0bafan
    i0)
    (b0bafan
    i0)
    fun
    (i1 :
    Nat) =>
    AV.sc
    (Value.int
    IntKind.i64
    (b0bafaf
    i0
    i1)))
    (AV.cons
    (1 :
    Nat)
    (AV.sc
    (Value.int
    IntKind.i64
    (b0bafba
    i0)))
    (AV.cons
    (1 :
    Nat)
    (AV.sc
    (Value.int
    IntKind.i64
    (b0bafbba
    i0)))
    (AV.cons
    (1 :
    Nat)
    (AV.sc
    (Value.bool
    (b0bafbbba
    i0)))
    (AV.cons
    (1 :
    Nat)
    (AV.sc
    (Value.int
    IntKind.i64
    (b0bafbbbba
    i0)))
    AV.nil)))))
    (AV.cons
    (1 :
    Nat)
    (AV.vec
    false
    (1 :
    Nat)
    b0bban
    b0bban
    fun
    (i0 :
    Nat) =>
    AV.sc
    (Value.int
    IntKind.i64
    (b0bbaf
    i0)))
    (AV.cons
    (1 :
    Nat)
    (AV.vec
    false
    (3 :
    Nat)
    b0bbban
    b0bbban
    fun
    (i0 :
    Nat) =>
    AV.cons
    (1 :
    Nat)
    (AV.sc
    (Value.int
    IntKind.i64
    (b0bbbafa
    i0)))
    (AV.cons
    (1 :
    Nat)
    (AV.sc
    (Value.int
    IntKind.i64
    (b0bbbafba
    i0)))
    (AV.cons
    (1 :
    Nat)
    (AV.sc
    (Value.int
    IntKind.i64
    (b0bbbafbba
    i0)))
    AV.nil)))
    AV.nil))))
    (AV.cons
    (1 :
    Nat)
    (AV.vec
    false
    (3 :
    Nat)
    b0an
    b0an
    fun
    (i0 :
    Nat) =>
    AV.cons
    (1 :
    Nat)
    (AV.sc
    (Value.int
    IntKind.i64
    (b0afa
    i0)))
    (AV.cons
    (1 :
    Nat)
    (AV.sc
    (Value.int
    IntKind.i64
    (b0afba
    i0)))
    (AV.cons
    (1 :
    Nat)
    (AV.sc
    (Value.int
    IntKind.i64
    (b0afbba
    i0)))
    AV.nil)))
    (AV.cons
    (1 :
    Nat)
    (AV.vec
    false
    (5 :
    Nat)
    b0ban
    b0ban
    fun
    (i0 :
    Nat) =>
    AV.cons
    (1 :
    Nat)
    (AV.vec
    false
    (1 :
    Nat)
    (b0bafan
    i0)
    (b0bafan
    i0)
    fun
    (i1 :
    Nat) =>
    AV.sc
    (Value.int
    IntKind.i64
    (b0bafaf
    i0
    i1)))
    (AV.cons
    (1 :
    Nat)
    (AV.sc
    (Value.int
    IntKind.i64
    (b0bafba
    i0)))
    (AV.cons
    (1 :
    Nat)
    (AV.sc
    (Value.int
    IntKind.i64
    (b0bafbba
    i0)))
    (AV.cons
    (1 :
    Nat)
    (AV.sc
    (Value.bool
    (b0bafbbba
    i0)))
    (AV.cons
    (1 :
    Nat)
    (AV.sc
    (Value.int
    IntKind.i64
    (b0bafbbbba
    i0)))
    AV.nil)))))
    (AV.cons
    (1 :
    Nat)
    (AV.vec
    false
    (1 :
    Nat)
    b0bban
    b0bban
    fun
    (i0 :
    Nat) =>
    AV.sc
    (Value.int
    IntKind.i64
    (b0bbaf
    i0)))
    (AV.cons
    (1 :
    Nat)
    (AV.vec
    false
    (3 :
    Nat)
    b0bbban
    b0bbban
    fun
    (i0 :
    Nat) =>
    AV.cons
    (1 :
    Nat)
    (AV.sc
    (Value.int
    IntKind.i64
    (b0bbbafa
    i0)))
    (AV.cons
    (1 :
    Nat)
    (AV.sc
    (Value.int
    IntKind.i64
    (b0bbbafba
    i0)))
    (AV.cons
    (1 :
    Nat)
    (AV.sc
    (Value.int
    IntKind.i64
    (b0bbbafbba
    i0)))
    AV.nil)))
    AV.nil)))) ∧
    True) ∧
    L11_2
    on
    ofa
    ofba
    ofbba
    t8
    (IntKind.i64.wrap
    (t9 +
    (1 :
    Int)))
    b0an
    b0afa
    b0afba
    b0afbba
    b0ban
    b0bafan
    b0bafaf
    b0bafba
    b0bafbba
    b0bafbbba
    b0bafbbbba
    b0bban
    b0bbaf
    b0bbban
    b0bbbafa
    b0bbbafba
    b0bbbafbba
    res)) ∧
    (decide (t9 > (0 : Int)) = !true →
    true = true ∧
    (!true) = !true ∧
    true = true ∧
    True ∧
    True ∧
    false = !true ∧
    true = true ∧
    (!true) = !true ∧
    true = true ∧
    (!true) = !true ∧
    true = true ∧
    (!true) = !true ∧
    true = true ∧
    (!true) = !true ∧
    true = true ∧
    (!true) = !true ∧
    true = true ∧
    (!true) = !true ∧
    true = true ∧
    (!true) = !true ∧
    true = true ∧
    True ∧
    false = false ∧
    True ∧
    True ∧
    True ∧
    ((True ∧
    Sub
    (AV.vec
    true
    (3 :
    Nat)
    on
    on
    fun
    (i0 :
    Nat) =>
    AV.cons
    (1 :
    Nat)
    (AV.sc
    (Value.int
    IntKind.i64
    (ofa
    i0)))
    (AV.cons
    (1 :
    Nat)
    (AV.sc
    (Value.int
    IntKind.i64
    (ofba
    i0)))
    (AV.cons
    (1 :
    Nat)
    (AV.sc
    (Value.int
    IntKind.i64
    (ofbba
    i0)))
    AV.nil)))
    (AV.vec
    true
    (3 :
    Nat)
    on
    on
    fun
    (i0 :
    Nat) =>
    AV.cons
    (1 :
    Nat)
    (AV.sc
    (Value.int
    IntKind.i64
    (ofa
    i0)))
    (AV.cons
    (1 :
    Nat)
    (AV.sc
    (Value.int
    IntKind.i64
    (ofba
    i0)))
    (AV.cons
    (1 :
    Nat)
    (AV.sc
    (Value.int
    IntKind.i64
    (ofbba
    i0)))
    AV.nil))) ∧
    True ∧
    Sub
    (AV.pt
    (1000 :
    Nat)
    []
    (0 :
    Nat))
    (AV.pt
    (1000 :
    Nat)
    []
    (0 :
    Nat)) ∧
    True ∧
    Sub
    (AV.sc
    (Value.int
    IntKind.i64
    t8))
    (AV.sc
    (Value.int
    IntKind.i64
    t8)) ∧
    True ∧
    Sub
    (AV.sc
    (Value.int
    IntKind.i64
    (IntKind.i64.wrap
    (t9 +
    (1 :
    Int)))))
    (AV.sc
    (Value.int
    IntKind.i64
    (IntKind.i64.wrap
    (t9 +
    (1 :
    Int))))) ∧
    True) ∧
    (True ∧
    True ∧
    True ∧
    True ∧
    True) ∧
    SubB
    (AV.cons
    (1 :
    Nat)
    (AV.vec
    false
    (3 :
    Nat)
    b0an
    b0an
    fun
    (i0 :
    Nat) =>
    AV.cons
    (1 :
    Nat)
    (AV.sc
    (Value.int
    IntKind.i64
    (b0afa
    i0)))
    (AV.cons
    (1 :
    Nat)
    (AV.sc
    (Value.int
    IntKind.i64
    (b0afba
    i0)))
    (AV.cons
    (1 :
    Nat)
    (AV.sc
    (Value.int
    IntKind.i64
    (b0afbba
    i0)))
    AV.nil)))
    (AV.cons
    (1 :
    Nat)
    (AV.vec
    false
    (5 :
    Nat)
    b0ban
    b0ban
    fun
    (i0 :
    Nat) =>
    AV.cons
    (1 :
    Nat)
    (AV.vec
    false
    (1 :
    Nat)
    (b0bafan
    i0)
    (b0bafan
    i0)
    fun
    (i1 :
    Nat) =>
    AV.sc
    (Value.int
    IntKind.i64
    (b0bafaf
    i0
    i1)))
    (AV.cons
    (1 :
    Nat)
    (AV.sc
    (Value.int
    IntKind.i64
    (b0bafba
    i0)))
    (AV.cons
    (1 :
    Nat)
    (AV.sc
    (Value.int
    IntKind.i64
    (b0bafbba
    i0)))
    (AV.cons
    (1 :
    Nat)
    (AV.sc
    (Value.bool
    (b0bafbbba
    i0)))
    (AV.cons
    (1 :
    Nat)
    (AV.sc
    (Value.int
    IntKind.i64
    (b0bafbbbba
    i0)))
    AV.nil)))))
    (AV.cons
    (1 :
    Nat)
    (AV.vec
    false
    (1 :
    Nat)
    b0bban
    b0bban
    fun
    (i0 :
    Nat) =>
    AV.sc
    (Value.int
    IntKind.i64
    (b0bbaf
    i0)))
    (AV.cons
    (1 :
    Nat)
    (AV.vec
    false
    (3 :
    Nat)
    b0bbban
    b0bbban
    fun
    (i0 :
    Nat) =>
    AV.cons
    (1 :
    Nat)
    (AV.sc
    (Value.int
    IntKind.i64
    (b0bbbafa
    i0)))
    (AV.cons
    (1 :
    Nat)
    (AV.sc
    (Value.int
    IntKind.i64
    (b0bbbafba
    i0)))
    (AV.cons
    (1 :
    Nat)
    (AV.sc
    (Value.int
    IntKind.i64
    (b0bbbafbba
    i0)))
    AV.nil)))
    AV.nil))))
    (AV.cons
    (1 :
    Nat)
    (AV.vec
    false
    (3 :
    Nat)
    b0an
    b0an
    fun
    (i0 :
    Nat) =>
    AV.cons
    (1 :
    Nat)
    (AV.sc
    (Value.int
    IntKind.i64
    (b0afa
    i0)))
    (AV.cons
    (1 :
    Nat)
    (AV.sc
    (Value.int
    IntKind.i64
    (b0afba
    i0)))
    (AV.cons
    (1 :
    Nat)
    (AV.sc
    (Value.int
    IntKind.i64
    (b0afbba
    i0)))
    AV.nil)))
    (AV.cons
    (1 :
    Nat)
    (AV.vec
    false
    (5 :
    Nat)
    b0ban
    b0ban
    fun
    (i0 :
    Nat) =>
    AV.cons
    (1 :
    Nat)
    (AV.vec
    false
    (1 :
    Nat)
    (b0bafan
    i0)
    (b0bafan
    i0)
    fun
    (i1 :
    Nat) =>
    AV.sc
    (Value.int
    IntKind.i64
    (b0bafaf
    i0
    i1)))
    (AV.cons
    (1 :
    Nat)
    (AV.sc
    (Value.int
    IntKind.i64
    (b0bafba
    i0)))
    (AV.cons
    (1 :
    Nat)
    (AV.sc
    (Value.int
    IntKind.i64
    (b0bafbba
    i0)))
    (AV.cons
    (1 :
    Nat)
    (AV.sc
    (Value.bool
    (b0bafbbba
    i0)))
    (AV.cons
    (1 :
    Nat)
    (AV.sc
    (Value.int
    IntKind.i64
    (b0bafbbbba
    i0)))
    AV.nil)))))
    (AV.cons
    (1 :
    Nat)
    (AV.vec
    false
    (1 :
    Nat)
    b0bban
    b0bban
    fun
    (i0 :
    Nat) =>
    AV.sc
    (Value.int
    IntKind.i64
    (b0bbaf
    i0)))
    (AV.cons
    (1 :
    Nat)
    (AV.vec
    false
    (3 :
    Nat)
    b0bbban
    b0bbban
    fun
    (i0 :
    Nat) =>
    AV.cons
    (1 :
    Nat)
    (AV.sc
    (Value.int
    IntKind.i64
    (b0bbbafa
    i0)))
    (AV.cons
    (1 :
    Nat)
    (AV.sc
    (Value.int
    IntKind.i64
    (b0bbbafba
    i0)))
    (AV.cons
    (1 :
    Nat)
    (AV.sc
    (Value.int
    IntKind.i64
    (b0bbbafbba
    i0)))
    AV.nil)))
    AV.nil)))) ∧
    True) ∧
    L11_2 on
    ofa
    ofba
    ofbba
    t8
    (IntKind.i64.wrap
    (t9 +
    (1 :
    Int)))
    b0an
    b0afa
    b0afba
    b0afbba
    b0ban
    b0bafan
    b0bafaf
    b0bafba
    b0bafbba
    b0bafbbba
    b0bafbbbba
    b0bban
    b0bbaf
    b0bbban
    b0bbbafa
    b0bbbafba
    b0bbbafbba
    res))) ∧
    (decide (t9 < b0bbaf (IntKind.i64.wrap (t8 + (1 : Int))).toNat) = false →
    True ∧
    True ∧
    True ∧
    ((True ∧
    Sub
    (AV.vec true (3 : Nat) on on fun (i0 : Nat) =>
    AV.cons (1 : Nat) (AV.sc (Value.int IntKind.i64 (ofa i0)))
    (AV.cons (1 : Nat) (AV.sc (Value.int IntKind.i64 (ofba i0)))
    (AV.cons (1 : Nat) (AV.sc (Value.int IntKind.i64 (ofbba i0))) AV.nil)))
    (AV.vec true (3 : Nat) on on fun (i0 : Nat) =>
    AV.cons (1 : Nat) (AV.sc (Value.int IntKind.i64 (ofa i0)))
    (AV.cons (1 : Nat) (AV.sc (Value.int IntKind.i64 (ofba i0)))
    (AV.cons (1 : Nat) (AV.sc (Value.int IntKind.i64 (ofbba i0))) AV.nil))) ∧
    True ∧
    Sub (AV.pt (1000 : Nat) [] (0 : Nat)) (AV.pt (1000 : Nat) [] (0 : Nat)) ∧
    True ∧
    Sub (AV.sc (Value.int IntKind.i64 (IntKind.i64.wrap (t8 + (1 : Int)))))
    (AV.sc (Value.int IntKind.i64 (IntKind.i64.wrap (t8 + (1 : Int))))) ∧
    True) ∧
    (True ∧ True ∧ True ∧ True ∧ True) ∧
    SubB
    (AV.cons (1 : Nat)
    (AV.vec false (3 : Nat) b0an b0an fun (i0 : Nat) =>
    AV.cons (1 : Nat) (AV.sc (Value.int IntKind.i64 (b0afa i0)))
    (AV.cons (1 : Nat) (AV.sc (Value.int IntKind.i64 (b0afba i0)))
    (AV.cons (1 : Nat) (AV.sc (Value.int IntKind.i64 (b0afbba i0))) AV.nil)))
    (AV.cons (1 : Nat)
    (AV.vec false (5 : Nat) b0ban b0ban fun (i0 : Nat) =>
    AV.cons (1 : Nat)
    (AV.vec false (1 : Nat) (b0bafan i0) (b0bafan i0) fun (i1 : Nat) => AV.sc (Value.int IntKind.i64 (b0bafaf i0 i1)))
    (AV.cons (1 : Nat) (AV.sc (Value.int IntKind.i64 (b0bafba i0)))
    (AV.cons (1 : Nat) (AV.sc (Value.int IntKind.i64 (b0bafbba i0)))
    (AV.cons (1 : Nat) (AV.sc (Value.bool (b0bafbbba i0)))
    (AV.cons (1 : Nat) (AV.sc (Value.int IntKind.i64 (b0bafbbbba i0))) AV.nil)))))
    (AV.cons (1 : Nat) (AV.vec false (1 : Nat) b0bban b0bban fun (i0 : Nat) => AV.sc (Value.int IntKind.i64 (b0bbaf i0)))
    (AV.cons (1 : Nat)
    (AV.vec false (3 : Nat) b0bbban b0bbban fun (i0 : Nat) =>
    AV.cons (1 : Nat) (AV.sc (Value.int IntKind.i64 (b0bbbafa i0)))
    (AV.cons (1 : Nat) (AV.sc (Value.int IntKind.i64 (b0bbbafba i0)))
    (AV.cons (1 : Nat) (AV.sc (Value.int IntKind.i64 (b0bbbafbba i0))) AV.nil)))
    AV.nil))))
    (AV.cons (1 : Nat)
    (AV.vec false (3 : Nat) b0an b0an fun (i0 : Nat) =>
    AV.cons (1 : Nat) (AV.sc (Value.int IntKind.i64 (b0afa i0)))
    (AV.cons (1 : Nat) (AV.sc (Value.int IntKind.i64 (b0afba i0)))
    (AV.cons (1 : Nat) (AV.sc (Value.int IntKind.i64 (b0afbba i0))) AV.nil)))
    (AV.cons (1 : Nat)
    (AV.vec false (5 : Nat) b0ban b0ban fun (i0 : Nat) =>
    AV.cons (1 : Nat)
    (AV.vec false (1 : Nat) (b0bafan i0) (b0bafan i0) fun (i1 : Nat) => AV.sc (Value.int IntKind.i64 (b0bafaf i0 i1)))
    (AV.cons (1 : Nat) (AV.sc (Value.int IntKind.i64 (b0bafba i0)))
    (AV.cons (1 : Nat) (AV.sc (Value.int IntKind.i64 (b0bafbba i0)))
    (AV.cons (1 : Nat) (AV.sc (Value.bool (b0bafbbba i0)))
    (AV.cons (1 : Nat) (AV.sc (Value.int IntKind.i64 (b0bafbbbba i0))) AV.nil)))))
    (AV.cons (1 : Nat) (AV.vec false (1 : Nat) b0bban b0bban fun (i0 : Nat) => AV.sc (Value.int IntKind.i64 (b0bbaf i0)))
    (AV.cons (1 : Nat)
    (AV.vec false (3 : Nat) b0bbban b0bbban fun (i0 : Nat) =>
    AV.cons (1 : Nat) (AV.sc (Value.int IntKind.i64 (b0bbbafa i0)))
    (AV.cons (1 : Nat) (AV.sc (Value.int IntKind.i64 (b0bbbafba i0)))
    (AV.cons (1 : Nat) (AV.sc (Value.int IntKind.i64 (b0bbbafbba i0))) AV.nil)))
    AV.nil)))) ∧
    True) ∧
    L11_1 on ofa ofba ofbba (IntKind.i64.wrap (t8 + (1 : Int))) b0an b0afa b0afba b0afbba b0ban b0bafan b0bafaf b0bafba b0bafbba
    b0bafbbba b0bafbbbba b0bban b0bbaf b0bbban b0bbbafa b0bbbafba b0bbbafbba res) from
    ⟨trivial, ⟨trivial, ⟨⟨rfl, trivial⟩, ⟨trivial, ⟨trivial, (And.elim (fun h5 k5 => ⟨(And.elim (fun h6 k6 => ⟨h6, k6⟩) h5), ⟨trivial, ⟨trivial, (And.elim (fun h8 k8 => ⟨(fun x9 => (fun h9 => ⟨trivial, ⟨⟨rfl, trivial⟩, ⟨trivial, (And.elim (fun h13 k13 => ⟨(And.elim (fun h14 k14 => ⟨h14, k14⟩) h13), ⟨trivial, ⟨trivial, ⟨trivial, ⟨trivial, ⟨⟨rfl, trivial⟩, ⟨trivial, (And.elim (fun h20 k20 => ⟨(And.elim (fun h21 k21 => ⟨h21, k21⟩) h20), ⟨trivial, ⟨trivial, ⟨trivial, ⟨trivial, (And.elim (fun h25 k25 => ⟨(fun x26 => (fun h26 => ⟨trivial, ⟨rfl, ⟨trivial, ⟨rfl, ⟨trivial, (And.elim (fun h32 k32 => ⟨(fun x33 => (fun h33 => ⟨trivial, ⟨rfl, ⟨trivial, ⟨rfl, ⟨trivial, ⟨rfl, ⟨trivial, (And.elim (fun h41 k41 => ⟨(fun x42 => (fun h42 => ⟨trivial, ⟨rfl, ⟨trivial, ⟨rfl, ⟨trivial, ⟨trivial, (And.elim (fun h49 k49 => ⟨(fun x50 => (fun h50 => ⟨trivial, ⟨trivial, ⟨⟨⟨trivial, ⟨Sub.refl _, trivial⟩⟩, trivial⟩, ((fun h54 => ⟨h54, trivial⟩) h50)⟩⟩⟩) (h49 x50)), (fun x50 => (fun h50 => ⟨trivial, ⟨trivial, ⟨trivial, (And.elim (fun h54 k54 => ⟨(fun x55 => (fun h55 => ⟨trivial, ⟨rfl, ⟨trivial, ⟨trivial, ⟨trivial, (And.elim (fun h61 k61 => ⟨(fun x62 => (fun h62 => ⟨trivial, ⟨rfl, ⟨⟨rfl, trivial⟩, ⟨rfl, ⟨trivial, ⟨rfl, ⟨trivial, ⟨rfl, (And.elim (fun h71 k71 => ⟨(And.elim (fun h72 k72 => ⟨h72, k72⟩) h71), ⟨rfl, ⟨trivial, ⟨rfl, ⟨trivial, ⟨rfl, ⟨trivial, ⟨trivial, (And.elim (fun h79 k79 => ⟨(fun x80 => (fun h80 => ⟨trivial, ⟨trivial, ⟨⟨⟨trivial, ⟨Sub.refl _, trivial⟩⟩, trivial⟩, ((fun h84 => ⟨h84, trivial⟩) h80)⟩⟩⟩) (h79 x80)), (fun x80 => (fun h80 => ⟨trivial, ⟨trivial, ⟨trivial, ⟨⟨⟨trivial, ⟨Sub.refl _, ⟨trivial, ⟨Sub.refl _, ⟨trivial, ⟨Sub.refl _, ⟨trivial, ⟨Sub.refl _, trivial⟩⟩⟩⟩⟩⟩⟩⟩, ⟨⟨trivial, ⟨trivial, ⟨trivial, ⟨trivial, trivial⟩⟩⟩⟩, ⟨SubB.refl _, trivial⟩⟩⟩, h80⟩⟩⟩⟩) (k79 x80))⟩) k71)⟩⟩⟩⟩⟩⟩⟩⟩) h62)⟩⟩⟩⟩⟩⟩⟩⟩) (h61 x62)), (fun x62 => (fun h62 => ⟨rfl, ⟨rfl, ⟨rfl, ⟨rfl, ⟨rfl, ⟨rfl, ⟨rfl, ⟨rfl, ⟨rfl, ⟨rfl, ⟨rfl, ⟨rfl, ⟨rfl, ⟨rfl, ⟨rfl, ⟨trivial, ⟨rfl, ⟨trivial, ⟨trivial, ⟨trivial, ⟨⟨⟨trivial, ⟨Sub.refl _, ⟨trivial, ⟨Sub.refl _, ⟨trivial, ⟨Sub.refl _, ⟨trivial, ⟨Sub.refl _, trivial⟩⟩⟩⟩⟩⟩⟩⟩, ⟨⟨trivial, ⟨trivial, ⟨trivial, ⟨trivial, trivial⟩⟩⟩⟩, ⟨SubB.refl _, trivial⟩⟩⟩, h62⟩⟩⟩⟩⟩⟩⟩⟩⟩⟩⟩⟩⟩⟩⟩⟩⟩⟩⟩⟩⟩) (k61 x62))⟩) h55)⟩⟩⟩⟩⟩) (h54 x55)), (fun x55 => (fun h55 => ⟨rfl, ⟨rfl, ⟨rfl, ⟨trivial, ⟨trivial, ⟨rfl, ⟨rfl, ⟨rfl, ⟨rfl, ⟨rfl, ⟨rfl, ⟨rfl, ⟨rfl, ⟨rfl, ⟨rfl, ⟨rfl, ⟨rfl, ⟨rfl, ⟨rfl, ⟨rfl, ⟨rfl, ⟨trivial, ⟨rfl, ⟨trivial, ⟨trivial, ⟨trivial, ⟨⟨⟨trivial, ⟨Sub.refl _, ⟨trivial, ⟨Sub.refl _, ⟨trivial, ⟨Sub.refl _, ⟨trivial, ⟨Sub.refl _, trivial⟩⟩⟩⟩⟩⟩⟩⟩, ⟨⟨trivial, ⟨trivial, ⟨trivial, ⟨trivial, trivial⟩⟩⟩⟩, ⟨SubB.refl _, trivial⟩⟩⟩, h55⟩⟩⟩⟩⟩⟩⟩⟩⟩⟩⟩⟩⟩⟩⟩⟩⟩⟩⟩⟩⟩⟩⟩⟩⟩⟩⟩) (k54 x55))⟩) h50)⟩⟩⟩) (k49 x50))⟩) h42)⟩⟩⟩⟩⟩⟩) (h41 x42)), (fun x42 => (fun h42 => ⟨rfl, ⟨rfl, ⟨rfl, ⟨rfl, ⟨trivial, ⟨trivial, ⟨rfl, ⟨trivial, ⟨trivial, ⟨⟨⟨trivial, ⟨Sub.refl _, trivial⟩⟩, trivial⟩, ((fun h53 => ⟨h53, trivial⟩) h42)⟩⟩⟩⟩⟩⟩⟩⟩⟩⟩) (k41 x42))⟩) h33)⟩⟩⟩⟩⟩⟩⟩) (h32 x33)), (fun x33 => (fun h33 => ⟨rfl, ⟨rfl, ⟨rfl, ⟨rfl, ⟨trivial, ⟨rfl, ⟨trivial, ⟨rfl, ⟨rfl, ⟨rfl, ⟨rfl, ⟨rfl, ⟨trivial, ⟨trivial, ⟨rfl, ⟨trivial, ⟨trivial, ⟨⟨⟨trivial, ⟨Sub.refl _, trivial⟩⟩, trivial⟩, ((fun h52 => ⟨h52, trivial⟩) h33)⟩⟩⟩⟩⟩⟩⟩⟩⟩⟩⟩⟩⟩⟩⟩⟩⟩⟩) (k32 x33))⟩) h26)⟩⟩⟩⟩⟩) (h25 x26)), (fun x26 => (fun h26 => ⟨rfl, ⟨rfl, ⟨rfl, ⟨rfl, ⟨rfl, ⟨rfl, ⟨rfl, ⟨rfl, ⟨rfl, ⟨rfl, ⟨rfl, ⟨rfl, ⟨rfl, ⟨rfl, ⟨rfl, ⟨trivial, ⟨rfl, ⟨trivial, ⟨trivial, ⟨trivial, (And.elim (fun h47 k47 => ⟨(fun x48 => (fun h48 => ⟨trivial, ⟨rfl, ⟨trivial, ⟨trivial, ⟨trivial, (And.elim (fun h54 k54 => ⟨(fun x55 => (fun h55 => ⟨trivial, ⟨rfl, ⟨⟨rfl, trivial⟩, ⟨rfl, ⟨trivial, ⟨rfl, ⟨trivial, ⟨rfl, (And.elim (fun h64 k64 => ⟨(And.elim (fun h65 k65 => ⟨h65, k65⟩) h64), ⟨rfl, ⟨trivial, ⟨rfl, ⟨trivial, ⟨rfl, ⟨trivial, ⟨trivial, (And.elim (fun h72 k72 => ⟨(fun x73 => (fun h73 => ⟨trivial, ⟨trivial, ⟨⟨⟨trivial, ⟨Sub.refl _, trivial⟩⟩, trivial⟩, ((fun h77 => ⟨h77, trivial⟩) h73)⟩⟩⟩) (h72 x73)), (fun x73 => (fun h73 => ⟨trivial, ⟨trivial, ⟨trivial, ⟨⟨⟨trivial, ⟨Sub.refl _, ⟨trivial, ⟨Sub.refl _, ⟨trivial, ⟨Sub.refl _, ⟨trivial, ⟨Sub.refl _, trivial⟩⟩⟩⟩⟩⟩⟩⟩, ⟨⟨trivial, ⟨trivial, ⟨trivial, ⟨trivial, trivial⟩⟩⟩⟩, ⟨SubB.refl _, trivial⟩⟩⟩, h73⟩⟩⟩⟩) (k72 x73))⟩) k64)⟩⟩⟩⟩⟩⟩⟩⟩) h55)⟩⟩⟩⟩⟩⟩⟩⟩) (h54 x55)), (fun x55 => (fun h55 => ⟨rfl, ⟨rfl, ⟨rfl, ⟨rfl, ⟨rfl, ⟨rfl, ⟨rfl, ⟨rfl, ⟨rfl, ⟨rfl, ⟨rfl, ⟨rfl, ⟨rfl, ⟨rfl, ⟨rfl, ⟨trivial, ⟨rfl, ⟨trivial, ⟨trivial, ⟨trivial, ⟨⟨⟨trivial, ⟨Sub.refl _, ⟨trivial, ⟨Sub.refl _, ⟨trivial, ⟨Sub.refl _, ⟨trivial, ⟨Sub.refl _, trivial⟩⟩⟩⟩⟩⟩⟩⟩, ⟨⟨trivial, ⟨trivial, ⟨trivial, ⟨trivial, trivial⟩⟩⟩⟩, ⟨SubB.refl _, trivial⟩⟩⟩, h55⟩⟩⟩⟩⟩⟩⟩⟩⟩⟩⟩⟩⟩⟩⟩⟩⟩⟩⟩⟩⟩) (k54 x55))⟩) h48)⟩⟩⟩⟩⟩) (h47 x48)), (fun x48 => (fun h48 => ⟨rfl, ⟨rfl, ⟨rfl, ⟨trivial, ⟨trivial, ⟨rfl, ⟨rfl, ⟨rfl, ⟨rfl, ⟨rfl, ⟨rfl, ⟨rfl, ⟨rfl, ⟨rfl, ⟨rfl, ⟨rfl, ⟨rfl, ⟨rfl, ⟨rfl, ⟨rfl, ⟨rfl, ⟨trivial, ⟨rfl, ⟨trivial, ⟨trivial, ⟨trivial, ⟨⟨⟨trivial, ⟨Sub.refl _, ⟨trivial, ⟨Sub.refl _, ⟨trivial, ⟨Sub.refl _, ⟨trivial, ⟨Sub.refl _, trivial⟩⟩⟩⟩⟩⟩⟩⟩, ⟨⟨trivial, ⟨trivial, ⟨trivial, ⟨trivial, trivial⟩⟩⟩⟩, ⟨SubB.refl _, trivial⟩⟩⟩, h48⟩⟩⟩⟩⟩⟩⟩⟩⟩⟩⟩⟩⟩⟩⟩⟩⟩⟩⟩⟩⟩⟩⟩⟩⟩⟩⟩) (k47 x48))⟩) h26)⟩⟩⟩⟩⟩⟩⟩⟩⟩⟩⟩⟩⟩⟩⟩⟩⟩⟩⟩⟩) (k25 x26))⟩) k20)⟩⟩⟩⟩⟩) k13)⟩⟩⟩⟩⟩⟩⟩) h9)⟩⟩⟩) (h8 x9)), (fun x9 => (fun h9 => ⟨trivial, ⟨trivial, ⟨trivial, ⟨⟨⟨trivial, ⟨Sub.refl _, ⟨trivial, ⟨Sub.refl _, ⟨trivial, ⟨Sub.refl _, trivial⟩⟩⟩⟩⟩⟩, ⟨⟨trivial, ⟨trivial, ⟨trivial, ⟨trivial, trivial⟩⟩⟩⟩, ⟨SubB.refl _, trivial⟩⟩⟩, h9⟩⟩⟩⟩) (k8 x9))⟩) k5)⟩⟩⟩) h)⟩⟩⟩⟩⟩)
theorem hf31 : Go.Proofs.Try.prog.funcs[31]? = some Go.Proofs.Try.f31 := by kernel_rfl
abbrev s31_e : List (Nat × AV) := []
abbrev m31_e : List (Nat × Nat × AV) := []
def L31_e (res : AV) (out : List (Nat × Nat × AV)) : Prop := Goes ⟨Go.Proofs.Try.prog, 31, [], res, out⟩ (place Go.Proofs.Try.f31 []) (s31_e ) (m31_e )
theorem o31 (res : AV) (out : List (Nat × Nat × AV)) (hnew : newOnly res ∧ ∀ q ∈ out, newOnly q.2.2) (hk : keptN [] out = []) (h : L31_e  res out) : Ok Go.Proofs.Try.prog 31 [] [] res out :=
  okRule2 31 Go.Proofs.Try.f31 hf31 [] [] res out [] hk (by kernel_rfl) (by kernel_rfl) (by kernel_rfl) hnew (L31_e  res out) (by kernel_rfl) h
theorem r31_e (res : AV) (out : List (Nat × Nat × AV))
    (h : Sub
    (AV.cons (1 : Nat) (AV.rf (1000 : Nat) (1 : Nat) (0 : Nat) (1 : Nat))
    (AV.cons (1 : Nat) (AV.sc (Value.int IntKind.i64 (0 : Int)))
    (AV.cons (1 : Nat) (AV.sc (Value.int IntKind.i64 (0 : Int)))
    (AV.cons (1 : Nat) (AV.sc (Value.bool true)) (AV.cons (1 : Nat) (AV.sc (Value.int IntKind.i64 (0 : Int))) AV.nil)))))
    res ∧
  SubOut [((1000 : Nat), (3 : Nat), AV.ar (1 : Nat) (1 : Nat) fun (x : Nat) => AV.sc (Value.int IntKind.i64 (0 : Int)))] out) :
    L31_e  res out :=
  rule Go.Am.Seat.tabOk 31 [] Go.Proofs.Try.f31 hf31 [] (s31_e ) (m31_e ) res out 400
    (Orc.fin
  (AV.cons (1 : Nat) (AV.rf (1000 : Nat) (1 : Nat) (0 : Nat) (1 : Nat))
    (AV.cons (1 : Nat) (AV.sc (Value.int IntKind.i64 (0 : Int)))
    (AV.cons (1 : Nat) (AV.sc (Value.int IntKind.i64 (0 : Int)))
    (AV.cons (1 : Nat) (AV.sc (Value.bool true)) (AV.cons (1 : Nat) (AV.sc (Value.int IntKind.i64 (0 : Int))) AV.nil)))))
  [((1000 : Nat), (3 : Nat), AV.ar (1 : Nat) (1 : Nat) fun (x : Nat) => AV.sc (Value.int IntKind.i64 (0 : Int)))] [((1000 : Nat), some (1 : Nat))]) _ _ (by kernel_rfl) (by kernel_rfl) (show True ∧
  ((True ∧ True) ∧ True) ∧
    True ∧
    ((0 : Nat) = (0 : Nat) ∧ True) ∧
    ((0 : Nat) = (0 : Nat) ∧ True) ∧
    (((True ∧ True ∧ True ∧ True ∧ True ∧ True) ∧
    Sub
    (AV.cons (1 : Nat) (AV.rf (1000 : Nat) (1 : Nat) (0 : Nat) (1 : Nat))
    (AV.cons (1 : Nat) (AV.sc (Value.int IntKind.i64 (0 : Int)))
    (AV.cons (1 : Nat) (AV.sc (Value.int IntKind.i64 (0 : Int)))
    (AV.cons (1 : Nat) (AV.sc (Value.bool true)) (AV.cons (1 : Nat) (AV.sc (Value.int IntKind.i64 (0 : Int))) AV.nil)))))
    (AV.cons (1 : Nat) (AV.rf (1000 : Nat) (1 : Nat) (0 : Nat) (1 : Nat))
    (AV.cons (1 : Nat) (AV.sc (Value.int IntKind.i64 (0 : Int)))
    (AV.cons (1 : Nat) (AV.sc (Value.int IntKind.i64 (0 : Int)))
    (AV.cons (1 : Nat) (AV.sc (Value.bool true)) (AV.cons (1 : Nat) (AV.sc (Value.int IntKind.i64 (0 : Int))) AV.nil))))) ∧
    True) ∧
    True ∧
    SubB (AV.ar (1 : Nat) (1 : Nat) fun (x : Nat) => AV.sc (Value.int IntKind.i64 (0 : Int)))
    (AV.ar (1 : Nat) (1 : Nat) fun (x : Nat) => AV.sc (Value.int IntKind.i64 (0 : Int))) ∧
    True) ∧
    Sub
    (AV.cons (1 : Nat) (AV.rf (1000 : Nat) (1 : Nat) (0 : Nat) (1 : Nat))
    (AV.cons (1 : Nat) (AV.sc (Value.int IntKind.i64 (0 : Int)))
    (AV.cons (1 : Nat) (AV.sc (Value.int IntKind.i64 (0 : Int)))
    (AV.cons (1 : Nat) (AV.sc (Value.bool true)) (AV.cons (1 : Nat) (AV.sc (Value.int IntKind.i64 (0 : Int))) AV.nil)))))
    res ∧
    SubOut [((1000 : Nat), (3 : Nat), AV.ar (1 : Nat) (1 : Nat) fun (x : Nat) => AV.sc (Value.int IntKind.i64 (0 : Int)))] out from
    ⟨trivial, ⟨⟨⟨trivial, trivial⟩, trivial⟩, ⟨trivial, ⟨⟨rfl, trivial⟩, ⟨⟨rfl, trivial⟩, ⟨⟨⟨⟨trivial, ⟨trivial, ⟨trivial, ⟨trivial, ⟨trivial, trivial⟩⟩⟩⟩⟩, ⟨Sub.refl _, trivial⟩⟩, ⟨trivial, ⟨SubB.refl _, trivial⟩⟩⟩, (And.elim (fun h6 k6 => ⟨h6, k6⟩) h)⟩⟩⟩⟩⟩⟩)
theorem hf32 : Go.Proofs.Try.prog.funcs[32]? = some Go.Proofs.Try.f32 := by kernel_rfl
abbrev s32_e (aan : Nat) (aaf : Nat → Int) (aba : Int) (abba : Int) (abbba : Bool) (abbbba : Int) (ban : Nat) (baf : Nat → Int) (bba : Int) (bbba : Int) (bbbba : Bool) (bbbbba : Int) : List (Nat × AV) := [(0, (.cons 1 (.vec true 1 aan aan (fun i0 => (.sc (.int .i64 (aaf i0))))) (.cons 1 (.sc (.int .i64 aba)) (.cons 1 (.sc (.int .i64 abba)) (.cons 1 (.sc (.bool abbba)) (.cons 1 (.sc (.int .i64 abbbba)) .nil)))))), (1, (.cons 1 (.vec true 1 ban ban (fun i0 => (.sc (.int .i64 (baf i0))))) (.cons 1 (.sc (.int .i64 bba)) (.cons 1 (.sc (.int .i64 bbba)) (.cons 1 (.sc (.bool bbbba)) (.cons 1 (.sc (.int .i64 bbbbba)) .nil))))))]
abbrev m32_e (aan : Nat) (aaf : Nat → Int) (aba : Int) (abba : Int) (abbba : Bool) (abbbba : Int) (ban : Nat) (baf : Nat → Int) (bba : Int) (bbba : Int) (bbbba : Bool) (bbbbba : Int) : List (Nat × Nat × AV) := []
def L32_e (aan : Nat) (aaf : Nat → Int) (aba : Int) (abba : Int) (abbba : Bool) (abbbba : Int) (ban : Nat) (baf : Nat → Int) (bba : Int) (bbba : Int) (bbbba : Bool) (bbbbba : Int) (res : AV) : Prop := Goes ⟨Go.Proofs.Try.prog, 32, [], res, []⟩ (place Go.Proofs.Try.f32 []) (s32_e aan aaf aba abba abbba abbbba ban baf bba bbba bbbba bbbbba) (m32_e aan aaf aba abba abbba abbbba ban baf bba bbba bbbba bbbbba)
theorem o32 (aan : Nat) (aaf : Nat → Int) (aba : Int) (abba : Int) (abbba : Bool) (abbbba : Int) (ban : Nat) (baf : Nat → Int) (bba : Int) (bbba : Int) (bbbba : Bool) (bbbbba : Int) (res : AV) (hnew : newOnly res) (h : L32_e aan aaf aba abba abbba abbbba ban baf bba bbba bbbba bbbbba res) : Ok Go.Proofs.Try.prog 32 [(.cons 1 (.vec true 1 aan aan (fun i0 => (.sc (.int .i64 (aaf i0))))) (.cons 1 (.sc (.int .i64 aba)) (.cons 1 (.sc (.int .i64 abba)) (.cons 1 (.sc (.bool abbba)) (.cons 1 (.sc (.int .i64 abbbba)) .nil))))), (.cons 1 (.vec true 1 ban ban (fun i0 => (.sc (.int .i64 (baf i0))))) (.cons 1 (.sc (.int .i64 bba)) (.cons 1 (.sc (.int .i64 bbba)) (.cons 1 (.sc (.bool bbbba)) (.cons 1 (.sc (.int .i64 bbbbba)) .nil)))))] [] res [] :=
  okRule2 32 Go.Proofs.Try.f32 hf32 [(.cons 1 (.vec true 1 aan aan (fun i0 => (.sc (.int .i64 (aaf i0))))) (.cons 1 (.sc (.int .i64 aba)) (.cons 1 (.sc (.int .i64 abba)) (.cons 1 (.sc (.bool abbba)) (.cons 1 (.sc (.int .i64 abbbba)) .nil))))), (.cons 1 (.vec true 1 ban ban (fun i0 => (.sc (.int .i64 (baf i0))))) (.cons 1 (.sc (.int .i64 bba)) (.cons 1 (.sc (.int .i64 bbba)) (.cons 1 (.sc (.bool bbbba)) (.cons 1 (.sc (.int .i64 bbbbba)) .nil)))))] [] res [] [] rfl (by kernel_rfl) (by kernel_rfl) (by kernel_rfl) ⟨hnew, by simp⟩ (L32_e aan aaf aba abba abbba abbbba ban baf bba bbba bbbba bbbbba res) (by kernel_rfl) h
theorem r32_e (aan : Nat) (aaf : Nat → Int) (aba : Int) (abba : Int) (abbba : Bool) (abbbba : Int) (ban : Nat) (baf : Nat → Int) (bba : Int) (bbba : Int) (bbbba : Bool) (bbbbba : Int) (res : AV)
    (h : ∃ (r : Bool),
  Ok Proofs.Try.prog (60 : Nat)
    [AV.vec true (1 : Nat) aan aan fun (i : Nat) => AV.sc (Value.int IntKind.i64 (aaf i)),
    AV.vec true (1 : Nat) ban ban fun (i : Nat) => AV.sc (Value.int IntKind.i64 (baf i))]
    [] (AV.sc (Value.bool r)) [] ∧
    (r = true →
    ((aba == bba) = true →
    ((abba == bbba) = true →
    ((abbba == bbbba) = true → Sub (AV.sc (Value.bool (abbbba == bbbbba))) res) ∧ ((abbba == bbbba) = !true → Sub (AV.sc (Value.bool false)) res)) ∧
    ((abba == bbba) = !true → Sub (AV.sc (Value.bool false)) res)) ∧
    ((aba == bba) = !true → Sub (AV.sc (Value.bool false)) res)) ∧
    (r = !true → Sub (AV.sc (Value.bool false)) res)) :
    L32_e aan aaf aba abba abbba abbbba ban baf bba bbba bbbba bbbbba res :=
  rule Go.Am.Seat.tabOk 32 [] Go.Proofs.Try.f32 hf32 [] (s32_e aan aaf aba abba abbba abbbba ban baf bba bbba bbbba bbbbba) (m32_e aan aaf aba abba abbba abbbba ban baf bba bbba bbbba bbbbba) res [] 400
    (Orc.call [] [] (fun (r60 : Bool) => AV.sc (Value.bool r60)) (fun (r60 : Bool) => []) fun (r60 : Bool) =>
  ((((Orc.fin (AV.sc (Value.bool (bif true then abbbba == bbbbba else false))) [] []).yes.yes.yes.yes.br
    (Orc.fin (AV.sc (Value.bool false)) [] []).no.no.no.no).yes.yes.yes.yes.br
    (Orc.fin (AV.sc (Value.bool false)) [] []).no.no.no.no.no.no.no.no.no).yes.yes.yes.yes.br
    (Orc.fin (AV.sc (Value.bool false)) [] []).no.no.no.no.no.no.no.no.no.no.no.no.no.no).yes.yes.yes.yes.br
    (Orc.fin (AV.sc (Value.bool false)) [] []).no.no.no.no.no.no.no.no.no.no.no.no.no.no.no.no.no.no.no) _ _ (by kernel_rfl) (by kernel_rfl) (show True ∧
  True ∧
    True ∧
    True ∧
    ((0 : Nat) = plus (0 : Nat) (0 : Nat) ∧ True) ∧
    True ∧
    ((0 : Nat) = plus (0 : Nat) (0 : Nat) ∧ True) ∧
    ∃ (r : Bool),
    ((True ∧ True ∧ True) ∧
    True ∧
    Ok Proofs.Try.prog (60 : Nat)
    [AV.vec true (1 : Nat) aan aan fun (i : Nat) => AV.sc (Value.int IntKind.i64 (aaf i)),
    AV.vec true (1 : Nat) ban ban fun (i : Nat) => AV.sc (Value.int IntKind.i64 (baf i))]
    [] (AV.sc (Value.bool r)) []) ∧
    True ∧
    (r = true →
    True ∧
    true = true ∧
    ((1 : Nat) + (0 : Nat) = plus (0 : Nat) (1 : Nat) ∧ True) ∧
    true = true ∧
    True ∧
    true = true ∧
    ((1 : Nat) + (0 : Nat) = plus (0 : Nat) (1 : Nat) ∧ True) ∧
    true = true ∧
    True ∧
    True ∧
    True ∧
    ((aba == bba) = true →
    True ∧
    true = true ∧
    ((1 : Nat) + ((1 : Nat) + (0 : Nat)) = plus (0 : Nat) (2 : Nat) ∧ True) ∧
    true = true ∧
    True ∧
    true = true ∧
    ((1 : Nat) + ((1 : Nat) + (0 : Nat)) = plus (0 : Nat) (2 : Nat) ∧ True) ∧
    true = true ∧
    True ∧
    True ∧
    True ∧
    ((abba == bbba) = true →
    True ∧
    true = true ∧
    ((1 : Nat) + ((1 : Nat) + ((1 : Nat) + (0 : Nat))) = plus (0 : Nat) (3 : Nat) ∧
    True) ∧
    true = true ∧
    True ∧
    true = true ∧
    ((1 : Nat) + ((1 : Nat) + ((1 : Nat) + (0 : Nat))) =
    plus (0 : Nat) (3 : Nat) ∧
    True) ∧
    true = true ∧
    True ∧
    True ∧
    True ∧
    ((abbba == bbbba) = true →
    True ∧
    true = true ∧
    ((1 : Nat) +
    ((1 : Nat) +
    ((1 : Nat) + ((1 : Nat) + (0 : Nat)))) =
    plus (0 : Nat) (4 : Nat) ∧
    True) ∧
    true = true ∧
    True ∧
    true = true ∧
    ((1 : Nat) +
    ((1 : Nat) +
    ((1 : Nat) +
    ((1 : Nat) + (0 : Nat)))) =
    plus (0 : Nat) (4 : Nat) ∧
    True) ∧
    true = true ∧
    True ∧
    True ∧
    True ∧
    True ∧
    ((True ∧
    Sub
    (AV.sc
    (Value.bool
    (abbbba == bbbbba)))
    (AV.sc
    (Value.bool
    (abbbba ==
    bbbbba))) ∧
    True) ∧
    True) ∧
    Sub
    (AV.sc
    (Value.bool
    (abbbba == bbbbba)))
    res ∧
    SubOut [] []) ∧
    ((abbba == bbbba) = !true →
    true = true ∧
    (!true) = !true ∧
    true = true ∧
    (!true) = !true ∧
    true = true ∧
    (!true) = !true ∧
    true = true ∧
    (!true) = !true ∧
    true = true ∧
    True ∧
    True ∧
    True ∧
    ((True ∧
    Sub
    (AV.sc
    (Value.bool false))
    (AV.sc
    (Value.bool false)) ∧
    True) ∧
    True) ∧
    Sub (AV.sc (Value.bool false))
    res ∧
    SubOut [] [])) ∧
    ((abba == bbba) = !true →
    true = true ∧
    (!true) = !true ∧
    true = true ∧
    (!true) = !true ∧
    true = true ∧
    (!true) = !true ∧
    true = true ∧
    (!true) = !true ∧
    true = true ∧
    True ∧
    True ∧
    false = !true ∧
    true = true ∧
    (!true) = !true ∧
    true = true ∧
    (!true) = !true ∧
    true = true ∧
    (!true) = !true ∧
    true = true ∧
    (!true) = !true ∧
    true = true ∧
    True ∧
    True ∧
    True ∧
    ((True ∧
    Sub (AV.sc (Value.bool false))
    (AV.sc
    (Value.bool false)) ∧
    True) ∧
    True) ∧
    Sub (AV.sc (Value.bool false))
    res ∧
    SubOut [] [])) ∧
    ((aba == bba) = !true →
    true = true ∧
    (!true) = !true ∧
    true = true ∧
    (!true) = !true ∧
    true = true ∧
    (!true) = !true ∧
    true = true ∧
    (!true) = !true ∧
    true = true ∧
    True ∧
    True ∧
    false = !true ∧
    true = true ∧
    (!true) = !true ∧
    true = true ∧
    (!true) = !true ∧
    true = true ∧
    (!true) = !true ∧
    true = true ∧
    (!true) = !true ∧
    true = true ∧
    True ∧
    True ∧
    false = !true ∧
    true = true ∧
    (!true) = !true ∧
    true = true ∧
    (!true) = !true ∧
    true = true ∧
    (!true) = !true ∧
    true = true ∧
    (!true) = !true ∧
    true = true ∧
    True ∧
    True ∧
    True ∧
    ((True ∧
    Sub (AV.sc (Value.bool false))
    (AV.sc (Value.bool false)) ∧
    True) ∧
    True) ∧
    Sub (AV.sc (Value.bool false)) res ∧
    SubOut [] [])) ∧
    (r = !true →
    true = true ∧
    (!true) = !true ∧
    true = true ∧
    (!true) = !true ∧
    true = true ∧
    (!true) = !true ∧
    true = true ∧
    (!true) = !true ∧
    true = true ∧
    True ∧
    True ∧
    false = !true ∧
    true = true ∧
    (!true) = !true ∧
    true = true ∧
    (!true) = !true ∧
    true = true ∧
    (!true) = !true ∧
    true = true ∧
    (!true) = !true ∧
    true = true ∧
    True ∧
    True ∧
    false = !true ∧
    true = true ∧
    (!true) = !true ∧
    true = true ∧
    (!true) = !true ∧
    true = true ∧
    (!true) = !true ∧
    true = true ∧
    (!true) = !true ∧
    true = true ∧
    True ∧
    True ∧
    false = !true ∧
    true = true ∧
    (!true) = !true ∧
    true = true ∧
    (!true) = !true ∧
    true = true ∧
    (!true) = !true ∧
    true = true ∧
    (!true) = !true ∧
    true = true ∧
    True ∧
    True ∧
    True ∧
    ((True ∧
    Sub (AV.sc (Value.bool false))
    (AV.sc (Value.bool false)) ∧
    True) ∧
    True) ∧
    Sub (AV.sc (Value.bool false)) res ∧
    SubOut [] []) from
    ⟨trivial, ⟨trivial, ⟨trivial, ⟨trivial, ⟨⟨rfl, trivial⟩, ⟨trivial, ⟨⟨rfl, trivial⟩, (Exists.elim h fun x7 h7 => ⟨x7, (And.elim (fun h8 k8 => ⟨⟨⟨trivial, ⟨trivial, trivial⟩⟩, ⟨trivial, h8⟩⟩, ⟨trivial, (And.elim (fun h10 k10 => ⟨(fun x11 => (fun h11 => ⟨trivial, ⟨rfl, ⟨⟨rfl, trivial⟩, ⟨rfl, ⟨trivial, ⟨rfl, ⟨⟨rfl, trivial⟩, ⟨rfl, ⟨trivial, ⟨trivial, ⟨trivial, (And.elim (fun h23 k23 => ⟨(fun x24 => (fun h24 => ⟨trivial, ⟨rfl, ⟨⟨rfl, trivial⟩, ⟨rfl, ⟨trivial, ⟨rfl, ⟨⟨rfl, trivial⟩, ⟨rfl, ⟨trivial, ⟨trivial, ⟨trivial, (And.elim (fun h36 k36 => ⟨(fun x37 => (fun h37 => ⟨trivial, ⟨rfl, ⟨⟨rfl, trivial⟩, ⟨rfl, ⟨trivial, ⟨rfl, ⟨⟨rfl, trivial⟩, ⟨rfl, ⟨trivial, ⟨trivial, ⟨trivial, (And.elim (fun h49 k49 => ⟨(fun x50 => (fun h50 => ⟨trivial, ⟨rfl, ⟨⟨rfl, trivial⟩, ⟨rfl, ⟨trivial, ⟨rfl, ⟨⟨rfl, trivial⟩, ⟨rfl, ⟨trivial, ⟨trivial, ⟨trivial, ⟨trivial, ⟨⟨⟨trivial, ⟨Sub.refl _, trivial⟩⟩, trivial⟩, ((fun h64 => ⟨h64, trivial⟩) h50)⟩⟩⟩⟩⟩⟩⟩⟩⟩⟩⟩⟩⟩) (h49 x50)), (fun x50 => (fun h50 => ⟨rfl, ⟨rfl, ⟨rfl, ⟨rfl, ⟨rfl, ⟨rfl, ⟨rfl, ⟨rfl, ⟨rfl, ⟨trivial, ⟨trivial, ⟨trivial, ⟨⟨⟨trivial, ⟨Sub.refl _, trivial⟩⟩, trivial⟩, ((fun h64 => ⟨h64, trivial⟩) h50)⟩⟩⟩⟩⟩⟩⟩⟩⟩⟩⟩⟩⟩) (k49 x50))⟩) h37)⟩⟩⟩⟩⟩⟩⟩⟩⟩⟩⟩) (h36 x37)), (fun x37 => (fun h37 => ⟨rfl, ⟨rfl, ⟨rfl, ⟨rfl, ⟨rfl, ⟨rfl, ⟨rfl, ⟨rfl, ⟨rfl, ⟨trivial, ⟨trivial, ⟨rfl, ⟨rfl, ⟨rfl, ⟨rfl, ⟨rfl, ⟨rfl, ⟨rfl, ⟨rfl, ⟨rfl, ⟨rfl, ⟨trivial, ⟨trivial, ⟨trivial, ⟨⟨⟨trivial, ⟨Sub.refl _, trivial⟩⟩, trivial⟩, ((fun h63 => ⟨h63, trivial⟩) h37)⟩⟩⟩⟩⟩⟩⟩⟩⟩⟩⟩⟩⟩⟩⟩⟩⟩⟩⟩⟩⟩⟩⟩⟩⟩) (k36 x37))⟩) h24)⟩⟩⟩⟩⟩⟩⟩⟩⟩⟩⟩) (h23 x24)), (fun x24 => (fun h24 => ⟨rfl, ⟨rfl, ⟨rfl, ⟨rfl, ⟨rfl, ⟨rfl, ⟨rfl, ⟨rfl, ⟨rfl, ⟨trivial, ⟨trivial, ⟨rfl, ⟨rfl, ⟨rfl, ⟨rfl, ⟨rfl, ⟨rfl, ⟨rfl, ⟨rfl, ⟨rfl, ⟨rfl, ⟨trivial, ⟨trivial, ⟨rfl, ⟨rfl, ⟨rfl, ⟨rfl, ⟨rfl, ⟨rfl, ⟨rfl, ⟨rfl, ⟨rfl, ⟨rfl, ⟨trivial, ⟨trivial, ⟨trivial, ⟨⟨⟨trivial, ⟨Sub.refl _, trivial⟩⟩, trivial⟩, ((fun h62 => ⟨h62, trivial⟩) h24)⟩⟩⟩⟩⟩⟩⟩⟩⟩⟩⟩⟩⟩⟩⟩⟩⟩⟩⟩⟩⟩⟩⟩⟩⟩⟩⟩⟩⟩⟩⟩⟩⟩⟩⟩⟩⟩) (k23 x24))⟩) h11)⟩⟩⟩⟩⟩⟩⟩⟩⟩⟩⟩) (h10 x11)), (fun x11 => (fun h11 => ⟨rfl, ⟨rfl, ⟨rfl, ⟨rfl, ⟨rfl, ⟨rfl, ⟨rfl, ⟨rfl, ⟨rfl, ⟨trivial, ⟨trivial, ⟨rfl, ⟨rfl, ⟨rfl, ⟨rfl, ⟨rfl, ⟨rfl, ⟨rfl, ⟨rfl, ⟨rfl, ⟨rfl, ⟨trivial, ⟨trivial, ⟨rfl, ⟨rfl, ⟨rfl, ⟨rfl, ⟨rfl, ⟨rfl, ⟨rfl, ⟨rfl, ⟨rfl, ⟨rfl, ⟨trivial, ⟨trivial, ⟨rfl, ⟨rfl, ⟨rfl, ⟨rfl, ⟨rfl, ⟨rfl, ⟨rfl, ⟨rfl, ⟨rfl, ⟨rfl, ⟨trivial, ⟨trivial, ⟨trivial, ⟨⟨⟨trivial, ⟨Sub.refl _, trivial⟩⟩, trivial⟩, ((fun h61 => ⟨h61, trivial⟩) h11)⟩⟩⟩⟩⟩⟩⟩⟩⟩⟩⟩⟩⟩⟩⟩⟩⟩⟩⟩⟩⟩⟩⟩⟩⟩⟩⟩⟩⟩⟩⟩⟩⟩⟩⟩⟩⟩⟩⟩⟩⟩⟩⟩⟩⟩⟩⟩⟩⟩) (k10 x11))⟩) k8)⟩⟩) h7)⟩)⟩⟩⟩⟩⟩⟩⟩)
theorem hf35 : Go.Proofs.Try.prog.funcs[35]? = some Go.Proofs.Try.f35 := by kernel_rfl
abbrev s35_e (an : Nat) (afa : Nat → Int) (afba : Nat → Int) (afbba : Nat → Int) (bn : Nat) (bfa : Nat → Int) (bfba : Nat → Int) (bfbba : Nat → Int) : List (Nat × AV) := [(0, (.vec true 3 an an (fun i0 => (.cons 1 (.sc (.int .i64 (afa i0))) (.cons 1 (.sc (.int .i64 (afba i0))) (.cons 1 (.sc (.int .i64 (afbba i0))) .nil)))))), (1, (.vec true 3 bn bn (fun i0 => (.cons 1 (.sc (.int .i64 (bfa i0))) (.cons 1 (.sc (.int .i64 (bfba i0))) (.cons 1 (.sc (.int .i64 (bfbba i0))) .nil))))))]
abbrev m35_e (an : Nat) (afa : Nat → Int) (afba : Nat → Int) (afbba : Nat → Int) (bn : Nat) (bfa : Nat → Int) (bfba : Nat → Int) (bfbba : Nat → Int) : List (Nat × Nat × AV) := []
def L35_e (an : Nat) (afa : Nat → Int) (afba : Nat → Int) (afbba : Nat → Int) (bn : Nat) (bfa : Nat → Int) (bfba : Nat → Int) (bfbba : Nat → Int) (res : AV) : Prop := Goes ⟨Go.Proofs.Try.prog, 35, [], res, []⟩ (place Go.Proofs.Try.f35 []) (s35_e an afa afba afbba bn bfa bfba bfbba) (m35_e an afa afba afbba bn bfa bfba bfbba)
theorem a35_e (an : Nat) (afa : Nat → Int) (afba : Nat → Int) (afbba : Nat → Int) (bn : Nat) (bfa : Nat → Int) (bfba : Nat → Int) (bfbba : Nat → Int) (res : AV) (h : (∀ slot, fact (look .undef (s35_e an afa afba afbba bn bfa bfba bfbba) slot)) → L35_e an afa afba afbba bn bfa bfba bfbba res) : L35_e an afa afba afbba bn bfa bfba bfbba res :=
  assumeRule 35 [] Go.Proofs.Try.f35 hf35 [] (s35_e an afa afba afbba bn bfa bfba bfbba) (m35_e an afa afba afbba bn bfa bfba bfbba) res [] _ (by kernel_rfl) h
abbrev s35_0 (an : Nat) (afa : Nat → Int) (afba : Nat → Int) (afbba : Nat → Int) (bn : Nat) (bfa : Nat → Int) (bfba : Nat → Int) (bfbba : Nat → Int) (i : Int) : List (Nat × AV) := [(0, (.vec true 3 an an (fun i0 => (.cons 1 (.sc (.int .i64 (afa i0))) (.cons 1 (.sc (.int .i64 (afba i0))) (.cons 1 (.sc (.int .i64 (afbba i0))) .nil)))))), (1, (.vec true 3 bn bn (fun i0 => (.cons 1 (.sc (.int .i64 (bfa i0))) (.cons 1 (.sc (.int .i64 (bfba i0))) (.cons 1 (.sc (.int .i64 (bfbba i0))) .nil)))))), (5, (.sc (.int .i64 i)))]
abbrev m35_0 (an : Nat) (afa : Nat → Int) (afba : Nat → Int) (afbba : Nat → Int) (bn : Nat) (bfa : Nat → Int) (bfba : Nat → Int) (bfbba : Nat → Int) (i : Int) : List (Nat × Nat × AV) := []
def L35_0 (an : Nat) (afa : Nat → Int) (afba : Nat → Int) (afbba : Nat → Int) (bn : Nat) (bfa : Nat → Int) (bfba : Nat → Int) (bfbba : Nat → Int) (i : Int) (res : AV) : Prop := Goes ⟨Go.Proofs.Try.prog, 35, [], res, []⟩ (place Go.Proofs.Try.f35 [1, 1, 0, 1, 0, 0]) (s35_0 an afa afba afbba bn bfa bfba bfbba i) (m35_0 an afa afba afbba bn bfa bfba bfbba i)
theorem o35 (an : Nat) (afa : Nat → Int) (afba : Nat → Int) (afbba : Nat → Int) (bn : Nat) (bfa : Nat → Int) (bfba : Nat → Int) (bfbba : Nat → Int) (res : AV) (hnew : newOnly res) (h : L35_e an afa afba afbba bn bfa bfba bfbba res) : Ok Go.Proofs.Try.prog 35 [(.vec true 3 an an (fun i0 => (.cons 1 (.sc (.int .i64 (afa i0))) (.cons 1 (.sc (.int .i64 (afba i0))) (.cons 1 (.sc (.int .i64 (afbba i0))) .nil))))), (.vec true 3 bn bn (fun i0 => (.cons 1 (.sc (.int .i64 (bfa i0))) (.cons 1 (.sc (.int .i64 (bfba i0))) (.cons 1 (.sc (.int .i64 (bfbba i0))) .nil)))))] [] res [] :=
  okRule2 35 Go.Proofs.Try.f35 hf35 [(.vec true 3 an an (fun i0 => (.cons 1 (.sc (.int .i64 (afa i0))) (.cons 1 (.sc (.int .i64 (afba i0))) (.cons 1 (.sc (.int .i64 (afbba i0))) .nil))))), (.vec true 3 bn bn (fun i0 => (.cons 1 (.sc (.int .i64 (bfa i0))) (.cons 1 (.sc (.int .i64 (bfba i0))) (.cons 1 (.sc (.int .i64 (bfbba i0))) .nil)))))] [] res [] [] rfl (by kernel_rfl) (by kernel_rfl) (by kernel_rfl) ⟨hnew, by simp⟩ (L35_e an afa afba afbba bn bfa bfba bfbba res) (by kernel_rfl) h
theorem r35_e (an : Nat) (afa : Nat → Int) (afba : Nat → Int) (afbba : Nat → Int) (bn : Nat) (bfa : Nat → Int) (bfba : Nat → Int) (bfbba : Nat → Int) (res : AV)
    (h : (((↑an : Int) != (↑bn : Int)) = true → Sub (AV.sc (Value.bool false)) res) ∧
  (((↑an : Int) != (↑bn : Int)) = false → L35_0 an afa afba afbba bn bfa bfba bfbba (0 : Int) res)) :
    L35_e an afa afba afbba bn bfa bfba bfbba res :=
  rule Go.Am.Seat.tabOk 35 [] Go.Proofs.Try.f35 hf35 [] (s35_e an afa afba afbba bn bfa bfba bfbba) (m35_e an afa afba afbba bn bfa bfba bfbba) res [] 400
    ((Orc.fin (AV.sc (Value.bool false)) [] []).br
  (Orc.cut (nat_lit 6) (s35_0 an afa afba afbba bn bfa bfba bfbba (0 : Int)) (m35_0 an afa afba afbba bn bfa bfba bfbba (0 : Int)) [])) _ _ (by kernel_rfl) (by kernel_rfl) (show True ∧
  True ∧
    True ∧
    True ∧
    True ∧
    True ∧
    (((↑an : Int) != (↑bn : Int)) = true →
    True ∧
    True ∧
    ((True ∧ Sub (AV.sc (Value.bool false)) (AV.sc (Value.bool false)) ∧ True) ∧ True) ∧ Sub (AV.sc (Value.bool false)) res ∧ SubOut [] []) ∧
    (((↑an : Int) != (↑bn : Int)) = false →
    True ∧
    ((True ∧
    Sub
    (AV.vec true (3 : Nat) an an fun (i0 : Nat) =>
    AV.cons (1 : Nat) (AV.sc (Value.int IntKind.i64 (afa i0)))
    (AV.cons (1 : Nat) (AV.sc (Value.int IntKind.i64 (afba i0)))
    (AV.cons (1 : Nat) (AV.sc (Value.int IntKind.i64 (afbba i0))) AV.nil)))
    (AV.vec true (3 : Nat) an an fun (i0 : Nat) =>
    AV.cons (1 : Nat) (AV.sc (Value.int IntKind.i64 (afa i0)))
    (AV.cons (1 : Nat) (AV.sc (Value.int IntKind.i64 (afba i0)))
    (AV.cons (1 : Nat) (AV.sc (Value.int IntKind.i64 (afbba i0))) AV.nil))) ∧
    True ∧
    Sub
    (AV.vec true (3 : Nat) bn bn fun (i0 : Nat) =>
    AV.cons (1 : Nat) (AV.sc (Value.int IntKind.i64 (bfa i0)))
    (AV.cons (1 : Nat) (AV.sc (Value.int IntKind.i64 (bfba i0)))
    (AV.cons (1 : Nat) (AV.sc (Value.int IntKind.i64 (bfbba i0))) AV.nil)))
    (AV.vec true (3 : Nat) bn bn fun (i0 : Nat) =>
    AV.cons (1 : Nat) (AV.sc (Value.int IntKind.i64 (bfa i0)))
    (AV.cons (1 : Nat) (AV.sc (Value.int IntKind.i64 (bfba i0)))
    (AV.cons (1 : Nat) (AV.sc (Value.int IntKind.i64 (bfbba i0))) AV.nil))) ∧
    True ∧ Sub (AV.sc (Value.int IntKind.i64 (0 : Int))) (AV.sc (Value.int IntKind.i64 (0 : Int))) ∧ True) ∧
    True) ∧
    L35_0 an afa afba afbba bn bfa bfba bfbba (0 : Int) res) from
    ⟨trivial, ⟨trivial, ⟨trivial, ⟨trivial, ⟨trivial, ⟨trivial, (And.elim (fun h6 k6 => ⟨(fun x7 => (fun h7 => ⟨trivial, ⟨trivial, ⟨⟨⟨trivial, ⟨Sub.refl _, trivial⟩⟩, trivial⟩, ((fun h11 => ⟨h11, trivial⟩) h7)⟩⟩⟩) (h6 x7)), (fun x7 => (fun h7 => ⟨trivial, ⟨⟨⟨trivial, ⟨Sub.refl _, ⟨trivial, ⟨Sub.refl _, ⟨trivial, ⟨Sub.refl _, trivial⟩⟩⟩⟩⟩⟩, trivial⟩, h7⟩⟩) (k6 x7))⟩) h)⟩⟩⟩⟩⟩⟩)
theorem r35_0 (an : Nat) (afa : Nat → Int) (afba : Nat → Int) (afbba : Nat → Int) (bn : Nat) (bfa : Nat → Int) (bfba : Nat → Int) (bfbba : Nat → Int) (i : Int) (res : AV)
    (h : (decide (i < (↑an : Int)) = true →
    ((0 : Int) ≤ i ∧ i < (↑an : Int)) ∧
    ((0 : Int) ≤ i ∧ i < (↑bn : Int)) ∧
    ((!cdec (afa i.toNat = bfa i.toNat ∧ afba i.toNat = bfba i.toNat ∧ afbba i.toNat = bfbba i.toNat ∧ True)) = true → Sub (AV.sc (Value.bool false)) res) ∧
    ((!cdec (afa i.toNat = bfa i.toNat ∧ afba i.toNat = bfba i.toNat ∧ afbba i.toNat = bfbba i.toNat ∧ True)) = false →
    L35_0 an afa afba afbba bn bfa bfba bfbba (IntKind.i64.wrap (i + (1 : Int))) res)) ∧
  (decide (i < (↑an : Int)) = false → Sub (AV.sc (Value.bool true)) res)) :
    L35_0 an afa afba afbba bn bfa bfba bfbba i res :=
  rule Go.Am.Seat.tabOk 35 [] Go.Proofs.Try.f35 hf35 [1, 1, 0, 1, 0, 0] (s35_0 an afa afba afbba bn bfa bfba bfbba i) (m35_0 an afa afba afbba bn bfa bfba bfbba i) res [] 400
    (((Orc.fin (AV.sc (Value.bool false)) [] []).br
    (Orc.cut (nat_lit 4) (s35_0 an afa afba afbba bn bfa bfba bfbba (IntKind.i64.wrap (i + (1 : Int))))
    (m35_0 an afa afba afbba bn bfa bfba bfbba (IntKind.i64.wrap (i + (1 : Int)))) [])).br
  (Orc.fin (AV.sc (Value.bool true)) [] [])) _ _ (by kernel_rfl) (by kernel_rfl) (show True ∧
  True ∧
    True ∧
    True ∧
    (decide (i < (↑an : Int)) = true →
    True ∧
    True ∧
    ((0 : Int) ≤ i ∧ i < (↑an : Int)) ∧
    True ∧
    True ∧
    True ∧
    ((0 : Int) ≤ i ∧ i < (↑bn : Int)) ∧
    True ∧
    ((True ∧ True) ∧ True ∧ (True ∧ True) ∧ True ∧ (True ∧ True) ∧ True ∧ True) ∧
    ((!cdec (afa i.toNat = bfa i.toNat ∧ afba i.toNat = bfba i.toNat ∧ afbba i.toNat = bfbba i.toNat ∧ True)) = true →
    True ∧
    True ∧
    ((True ∧ Sub (AV.sc (Value.bool false)) (AV.sc (Value.bool false)) ∧ True) ∧ True) ∧
    Sub (AV.sc (Value.bool false)) res ∧ SubOut [] []) ∧
    ((!cdec (afa i.toNat = bfa i.toNat ∧ afba i.toNat = bfba i.toNat ∧ afbba i.toNat = bfbba i.toNat ∧ True)) = false →
    True ∧
    True ∧
    True ∧
    ((True ∧
    Sub
    (AV.vec true (3 : Nat) an an fun (i0 : Nat) =>
    AV.cons (1 : Nat) (AV.sc (Value.int IntKind.i64 (afa i0)))
    (AV.cons (1 : Nat) (AV.sc (Value.int IntKind.i64 (afba i0)))
    (AV.cons (1 : Nat) (AV.sc (Value.int IntKind.i64 (afbba i0))) AV.nil)))
    (AV.vec true (3 : Nat) an an fun (i0 : Nat) =>
    AV.cons (1 : Nat) (AV.sc (Value.int IntKind.i64 (afa i0)))
    (AV.cons (1 : Nat) (AV.sc (Value.int IntKind.i64 (afba i0)))
    (AV.cons (1 : Nat) (AV.sc (Value.int IntKind.i64 (afbba i0))) AV.nil))) ∧
    True ∧
    Sub
    (AV.vec true (3 : Nat) bn bn fun (i0 : Nat) =>
    AV.cons (1 : Nat) (AV.sc (Value.int IntKind.i64 (bfa i0)))
    (AV.cons (1 : Nat) (AV.sc (Value.int IntKind.i64 (bfba i0)))
    (AV.cons (1 : Nat) (AV.sc (Value.int IntKind.i64 (bfbba i0))) AV.nil)))
    (AV.vec true (3 : Nat) bn bn fun (i0 : Nat) =>
    AV.cons (1 : Nat) (AV.sc (Value.int IntKind.i64 (bfa i0)))
    (AV.cons (1 : Nat) (AV.sc (Value.int IntKind.i64 (bfba i0)))
    (AV.cons (1 : Nat) (AV.sc (Value.int IntKind.i64 (bfbba i0))) AV.nil))) ∧
    True ∧
    Sub (AV.sc (Value.int IntKind.i64 (IntKind.i64.wrap (i + (1 : Int)))))
    (AV.sc (Value.int IntKind.i64 (IntKind.i64.wrap (i + (1 : Int))))) ∧
    True) ∧
    True) ∧
    L35_0 an afa afba afbba bn bfa bfba bfbba (IntKind.i64.wrap (i + (1 : Int))) res)) ∧
    (decide (i < (↑an : Int)) = false →
    True ∧ True ∧ ((True ∧ Sub (AV.sc (Value.bool true)) (AV.sc (Value.bool true)) ∧ True) ∧ True) ∧ Sub (AV.sc (Value.bool true)) res ∧ SubOut [] []) from
    ⟨trivial, ⟨trivial, ⟨trivial, ⟨trivial, (And.elim (fun h4 k4 => ⟨(fun x5 => (fun h5 => ⟨trivial, ⟨trivial, (And.elim (fun h8 k8 => ⟨(And.elim (fun h9 k9 => ⟨h9, k9⟩) h8), ⟨trivial, ⟨trivial, ⟨trivial, (And.elim (fun h12 k12 => ⟨(And.elim (fun h13 k13 => ⟨h13, k13⟩) h12), ⟨trivial, ⟨⟨⟨trivial, trivial⟩, ⟨trivial, ⟨⟨trivial, trivial⟩, ⟨trivial, ⟨⟨trivial, trivial⟩, ⟨trivial, trivial⟩⟩⟩⟩⟩⟩, (And.elim (fun h15 k15 => ⟨(fun x16 => (fun h16 => ⟨trivial, ⟨trivial, ⟨⟨⟨trivial, ⟨Sub.refl _, trivial⟩⟩, trivial⟩, ((fun h20 => ⟨h20, trivial⟩) h16)⟩⟩⟩) (h15 x16)), (fun x16 => (fun h16 => ⟨trivial, ⟨trivial, ⟨trivial, ⟨⟨⟨trivial, ⟨Sub.refl _, ⟨trivial, ⟨Sub.refl _, ⟨trivial, ⟨Sub.refl _, trivial⟩⟩⟩⟩⟩⟩, trivial⟩, h16⟩⟩⟩⟩) (k15 x16))⟩) k12)⟩⟩⟩) k8)⟩⟩⟩⟩) h5)⟩⟩) (h4 x5)), (fun x5 => (fun h5 => ⟨trivial, ⟨trivial, ⟨⟨⟨trivial, ⟨Sub.refl _, trivial⟩⟩, trivial⟩, ((fun h9 => ⟨h9, trivial⟩) h5)⟩⟩⟩) (k4 x5))⟩) h)⟩⟩⟩⟩)
theorem hf36 : Go.Proofs.Try.prog.funcs[36]? = some Go.Proofs.Try.f36 := by kernel_rfl
abbrev s36_e (man : Nat) (maf : Nat → Int) (mba : Int) (mbba : Int) (mbbba : Bool) (mbbbba : Int) : List (Nat × AV) := [(0, (.cons 1 (.vec true 1 man man (fun i0 => (.sc (.int .i64 (maf i0))))) (.cons 1 (.sc (.int .i64 mba)) (.cons 1 (.sc (.int .i64 mbba)) (.cons 1 (.sc (.bool mbbba)) (.cons 1 (.sc (.int .i64 mbbbba)) .nil))))))]
abbrev m36_e (man : Nat) (maf : Nat → Int) (mba : Int) (mbba : Int) (mbbba : Bool) (mbbbba : Int) : List (Nat × Nat × AV) := []
def L36_e (man : Nat) (maf : Nat → Int) (mba : Int) (mbba : Int) (mbbba : Bool) (mbbbba : Int) (res : AV) : Prop := Goes ⟨Go.Proofs.Try.prog, 36, [], res, []⟩ (place Go.Proofs.Try.f36 []) (s36_e man maf mba mbba mbbba mbbbba) (m36_e man maf mba mbba mbbba mbbbba)
abbrev s36_0 (out_n : Nat) (b0an : Nat) (b0af : Nat → Int) (b0ba : Int) (b0bba : Int) (b0bbba : Bool) (b0bbbba : Int) (b1n : Nat) (b1fa : Nat → Int) (b1fba : Nat → Int) (b1fbba : Nat → Int) : List (Nat × AV) := [(1, (.pt 1000 [] 0)), (3, (.rf 1001 3 0 out_n))]
abbrev m36_0 (out_n : Nat) (b0an : Nat) (b0af : Nat → Int) (b0ba : Int) (b0bba : Int) (b0bbba : Bool) (b0bbbba : Int) (b1n : Nat) (b1fa : Nat → Int) (b1fba : Nat → Int) (b1fbba : Nat → Int) : List (Nat × Nat × AV) := [(1000, 64, (.cons 1 (.vec true 1 b0an b0an (fun i0 => (.sc (.int .i64 (b0af i0))))) (.cons 1 (.sc (.int .i64 b0ba)) (.cons 1 (.sc (.int .i64 b0bba)) (.cons 1 (.sc (.bool b0bbba)) (.cons 1 (.sc (.int .i64 b0bbbba)) .nil)))))), (1001, 81, (.ar b1n 3 (fun i0 => (.cons 1 (.sc (.int .i64 (b1fa i0))) (.cons 1 (.sc (.int .i64 (b1fba i0))) (.cons 1 (.sc (.int .i64 (b1fbba i0))) .nil))))))]
def L36_0 (out_n : Nat) (b0an : Nat) (b0af : Nat → Int) (b0ba : Int) (b0bba : Int) (b0bbba : Bool) (b0bbbba : Int) (b1n : Nat) (b1fa : Nat → Int) (b1fba : Nat → Int) (b1fbba : Nat → Int) (res : AV) : Prop := Goes ⟨Go.Proofs.Try.prog, 36, [], res, []⟩ (place Go.Proofs.Try.f36 [1, 1, 1, 1]) (s36_0 out_n b0an b0af b0ba b0bba b0bbba b0bbbba b1n b1fa b1fba b1fbba) (m36_0 out_n b0an b0af b0ba b0bba b0bbba b0bbbba b1n b1fa b1fba b1fbba)
theorem o36 (man : Nat) (maf : Nat → Int) (mba : Int) (mbba : Int) (mbbba : Bool) (mbbbba : Int) (res : AV) (hnew : newOnly res) (h : L36_e man maf mba mbba mbbba mbbbba res) : Ok Go.Proofs.Try.prog 36 [(.cons 1 (.vec true 1 man man (fun i0 => (.sc (.int .i64 (maf i0))))) (.cons 1 (.sc (.int .i64 mba)) (.cons 1 (.sc (.int .i64 mbba)) (.cons 1 (.sc (.bool mbbba)) (.cons 1 (.sc (.int .i64 mbbbba)) .nil)))))] [] res [] :=
  okRule2 36 Go.Proofs.Try.f36 hf36 [(.cons 1 (.vec true 1 man man (fun i0 => (.sc (.int .i64 (maf i0))))) (.cons 1 (.sc (.int .i64 mba)) (.cons 1 (.sc (.int .i64 mbba)) (.cons 1 (.sc (.bool mbbba)) (.cons 1 (.sc (.int .i64 mbbbba)) .nil)))))] [] res [] [] rfl (by kernel_rfl) (by kernel_rfl) (by kernel_rfl) ⟨hnew, by simp⟩ (L36_e man maf mba mbba mbbba mbbbba res) (by kernel_rfl) h
theorem r36_e (man : Nat) (maf : Nat → Int) (mba : Int) (mbba : Int) (mbbba : Bool) (mbbbba : Int) (res : AV)
    (h : ∃ (r : Bool),
  Ok Proofs.Try.prog (70 : Nat)
    [AV.cons (1 : Nat) (AV.vec true (1 : Nat) man man fun (i : Nat) => AV.sc (Value.int IntKind.i64 (maf i)))
    (AV.cons (1 : Nat) (AV.sc (Value.int IntKind.i64 mba))
    (AV.cons (1 : Nat) (AV.sc (Value.int IntKind.i64 mbba))
    (AV.cons (1 : Nat) (AV.sc (Value.bool mbbba)) (AV.cons (1 : Nat) (AV.sc (Value.int IntKind.i64 mbbbba)) AV.nil))))]
    [] (AV.sc (Value.bool r)) [] ∧
    ((!r) = true → Sub (AV.sc (Value.slice none (0 : Nat) (0 : Nat))) res) ∧
    ((!r) = false →
    ((!mbbba) = true →
    ((0 : Nat) + (1 : Nat) ≤ (1 : Nat) ∧ (1 : Nat) * (24 : Nat) ≤ (140737488355328 : Nat) ∧ (1 : Nat) ≤ maxLen) ∧
    L36_0 (1 : Nat) man maf mba mbba mbbba mbbbba (1 : Nat) (fun (i : Nat) => (19 : Int)) (fun (i : Nat) => (0 : Int)) (fun (i : Nat) => (0 : Int))
    res) ∧
    ((!mbbba) = false →
    L36_0 (0 : Nat) man maf mba mbba mbbba mbbbba (0 : Nat) (fun (i : Nat) => Int.ofNat (0 : Nat)) (fun (i : Nat) => Int.ofNat (0 : Nat))
    (fun (i : Nat) => Int.ofNat (0 : Nat)) res))) :
    L36_e man maf mba mbba mbbba mbbbba res :=
  rule Go.Am.Seat.tabOk 36 [] Go.Proofs.Try.f36 hf36 [] (s36_e man maf mba mbba mbbba mbbbba) (m36_e man maf mba mbba mbbba mbbbba) res [] 400
    (Orc.call [] [] (fun (r70 : Bool) => AV.sc (Value.bool r70)) (fun (r70 : Bool) => []) fun (r70 : Bool) =>
  (Orc.fin (AV.sc (Value.slice none (0 : Nat) (0 : Nat))) [] []).br
    ((Orc.cut (nat_lit 1)
    (s36_0 (1 : Nat) man maf mba mbba mbbba mbbbba (1 : Nat) (fun (i : Nat) => (19 : Int)) (fun (i : Nat) => (0 : Int)) fun (i : Nat) => (0 : Int))
    (m36_0 (1 : Nat) man maf mba mbba mbbba mbbbba (1 : Nat) (fun (i : Nat) => (19 : Int)) (fun (i : Nat) => (0 : Int)) fun (i : Nat) => (0 : Int))
    [((1000 : Nat), some (1 : Nat)), ((1001 : Nat), some (13 : Nat))]).br
    (Orc.cut (nat_lit 1)
    (s36_0 (0 : Nat) man maf mba mbba mbbba mbbbba (0 : Nat) (fun (i : Nat) => Int.ofNat (0 : Nat)) (fun (i : Nat) => Int.ofNat (0 : Nat)) fun (i : Nat) =>
    Int.ofNat (0 : Nat))
    (m36_0 (0 : Nat) man maf mba mbba mbbba mbbbba (0 : Nat) (fun (i : Nat) => Int.ofNat (0 : Nat)) (fun (i : Nat) => Int.ofNat (0 : Nat)) fun (i : Nat) =>
    Int.ofNat (0 : Nat))
    [((1000 : Nat), some (1 : Nat)), ((1001 : Nat), none)]))) _ _ (by kernel_rfl) (by kernel_rfl) (show True ∧
  True ∧
    ((0 : Nat) = (0 : Nat) ∧ True) ∧
    ∃ (r : Bool),
    (((True ∧ True ∧ True ∧ True ∧ True ∧ True) ∧ True) ∧
    True ∧
    Ok Proofs.Try.prog (70 : Nat)
    [AV.cons (1 : Nat) (AV.vec true (1 : Nat) man man fun (i : Nat) => AV.sc (Value.int IntKind.i64 (maf i)))
    (AV.cons (1 : Nat) (AV.sc (Value.int IntKind.i64 mba))
    (AV.cons (1 : Nat) (AV.sc (Value.int IntKind.i64 mbba))
    (AV.cons (1 : Nat) (AV.sc (Value.bool mbbba)) (AV.cons (1 : Nat) (AV.sc (Value.int IntKind.i64 mbbbba)) AV.nil))))]
    [] (AV.sc (Value.bool r)) []) ∧
    True ∧
    ((!r) = true →
    True ∧
    True ∧
    ((True ∧ Sub (AV.sc (Value.slice none (0 : Nat) (0 : Nat))) (AV.sc (Value.slice none (0 : Nat) (0 : Nat))) ∧ True) ∧ True) ∧
    Sub (AV.sc (Value.slice none (0 : Nat) (0 : Nat))) res ∧ SubOut [] []) ∧
    ((!r) = false →
    True ∧
    True ∧
    ((1 : Nat) + ((1 : Nat) + ((1 : Nat) + (0 : Nat))) = plus (0 : Nat) (3 : Nat) ∧ True) ∧
    True ∧
    ((!mbbba) = true →
    True ∧
    True ∧
    (((True ∧ True ∧ True ∧ True) ∧ True) ∧ True) ∧
    (((0 : Nat) + (1 : Nat) ≤ (1 : Nat) ∧ (3 : Nat) = (3 : Nat)) ∧
    (1 : Nat) * (24 : Nat) ≤ (140737488355328 : Nat) ∧ (1 : Nat) ≤ maxLen) ∧
    True ∧
    ((True ∧
    Sub (AV.pt (1000 : Nat) [] (0 : Nat)) (AV.pt (1000 : Nat) [] (0 : Nat)) ∧
    True ∧
    Sub (AV.rf (1001 : Nat) (3 : Nat) (0 : Nat) (1 : Nat)) (AV.rf (1001 : Nat) (3 : Nat) (0 : Nat) (1 : Nat)) ∧
    True) ∧
    (True ∧ True ∧ True ∧ True ∧ True ∧ True) ∧
    SubB
    (AV.cons (1 : Nat) (AV.vec true (1 : Nat) man man fun (i0 : Nat) => AV.sc (Value.int IntKind.i64 (maf i0)))
    (AV.cons (1 : Nat) (AV.sc (Value.int IntKind.i64 mba))
    (AV.cons (1 : Nat) (AV.sc (Value.int IntKind.i64 mbba))
    (AV.cons (1 : Nat) (AV.sc (Value.bool mbbba))
    (AV.cons (1 : Nat) (AV.sc (Value.int IntKind.i64 mbbbba)) AV.nil)))))
    (AV.cons (1 : Nat) (AV.vec true (1 : Nat) man man fun (i0 : Nat) => AV.sc (Value.int IntKind.i64 (maf i0)))
    (AV.cons (1 : Nat) (AV.sc (Value.int IntKind.i64 mba))
    (AV.cons (1 : Nat) (AV.sc (Value.int IntKind.i64 mbba))
    (AV.cons (1 : Nat) (AV.sc (Value.bool mbbba))
    (AV.cons (1 : Nat) (AV.sc (Value.int IntKind.i64 mbbbba)) AV.nil))))) ∧
    True ∧
    SubB
    (AV.ar (1 : Nat) (3 : Nat) fun (i : Nat) =>
    AV.cons (1 : Nat) (AV.sc (Value.int IntKind.i64 (19 : Int)))
    (AV.cons (1 : Nat) (AV.sc (Value.int IntKind.i64 (0 : Int)))
    (AV.cons (1 : Nat) (AV.sc (Value.int IntKind.i64 (0 : Int))) AV.nil)))
    (AV.ar (1 : Nat) (3 : Nat) fun (i0 : Nat) =>
    AV.cons (1 : Nat) (AV.sc (Value.int IntKind.i64 (19 : Int)))
    (AV.cons (1 : Nat) (AV.sc (Value.int IntKind.i64 (0 : Int)))
    (AV.cons (1 : Nat) (AV.sc (Value.int IntKind.i64 (0 : Int))) AV.nil))) ∧
    True) ∧
    L36_0 (1 : Nat) man maf mba mbba mbbba mbbbba (1 : Nat) (fun (i : Nat) => (19 : Int)) (fun (i : Nat) => (0 : Int))
    (fun (i : Nat) => (0 : Int)) res) ∧
    ((!mbbba) = false →
    ((True ∧ Sub (AV.pt (1000 : Nat) [] (0 : Nat)) (AV.pt (1000 : Nat) [] (0 : Nat)) ∧ True) ∧
    (True ∧ True ∧ True ∧ True ∧ True ∧ True) ∧
    SubB
    (AV.cons (1 : Nat) (AV.vec true (1 : Nat) man man fun (i0 : Nat) => AV.sc (Value.int IntKind.i64 (maf i0)))
    (AV.cons (1 : Nat) (AV.sc (Value.int IntKind.i64 mba))
    (AV.cons (1 : Nat) (AV.sc (Value.int IntKind.i64 mbba))
    (AV.cons (1 : Nat) (AV.sc (Value.bool mbbba)) (AV.cons (1 : Nat) (AV.sc (Value.int IntKind.i64 mbbbba)) AV.nil)))))
    (AV.cons (1 : Nat) (AV.vec true (1 : Nat) man man fun (i0 : Nat) => AV.sc (Value.int IntKind.i64 (maf i0)))
    (AV.cons (1 : Nat) (AV.sc (Value.int IntKind.i64 mba))
    (AV.cons (1 : Nat) (AV.sc (Value.int IntKind.i64 mbba))
    (AV.cons (1 : Nat) (AV.sc (Value.bool mbbba))
    (AV.cons (1 : Nat) (AV.sc (Value.int IntKind.i64 mbbbba)) AV.nil))))) ∧
    True) ∧
    L36_0 (0 : Nat) man maf mba mbba mbbba mbbbba (0 : Nat) (fun (i : Nat) => Int.ofNat (0 : Nat))
    (fun (i : Nat) => Int.ofNat (0 : Nat)) (fun (i : Nat) => Int.ofNat (0 : Nat)) res)) from
    ⟨trivial, ⟨trivial, ⟨⟨rfl, trivial⟩, (Exists.elim h fun x3 h3 => ⟨x3, (And.elim (fun h4 k4 => ⟨⟨⟨⟨trivial, ⟨trivial, ⟨trivial, ⟨trivial, ⟨trivial, trivial⟩⟩⟩⟩⟩, trivial⟩, ⟨trivial, h4⟩⟩, ⟨trivial, (And.elim (fun h6 k6 => ⟨(fun x7 => (fun h7 => ⟨trivial, ⟨trivial, ⟨⟨⟨trivial, ⟨Sub.refl _, trivial⟩⟩, trivial⟩, ((fun h11 => ⟨h11, trivial⟩) h7)⟩⟩⟩) (h6 x7)), (fun x7 => (fun h7 => ⟨trivial, ⟨trivial, ⟨⟨rfl, trivial⟩, ⟨trivial, (And.elim (fun h12 k12 => ⟨(fun x13 => (fun h13 => ⟨trivial, ⟨trivial, ⟨⟨⟨⟨trivial, ⟨trivial, ⟨trivial, trivial⟩⟩⟩, trivial⟩, trivial⟩, (And.elim (fun h17 k17 => ⟨(And.elim (fun h18 k18 => ⟨((fun h19 => ⟨h19, rfl⟩) h18), (And.elim (fun h19 k19 => ⟨h19, k19⟩) k18)⟩) h17), ⟨trivial, ⟨⟨⟨trivial, ⟨Sub.refl _, ⟨trivial, ⟨Sub.refl _, trivial⟩⟩⟩⟩, ⟨⟨trivial, ⟨trivial, ⟨trivial, ⟨trivial, ⟨trivial, trivial⟩⟩⟩⟩⟩, ⟨SubB.refl _, ⟨trivial, ⟨SubB.refl _, trivial⟩⟩⟩⟩⟩, k17⟩⟩⟩) h13)⟩⟩⟩) (h12 x13)), (fun x13 => (fun h13 => ⟨⟨⟨trivial, ⟨Sub.refl _, trivial⟩⟩, ⟨⟨trivial, ⟨trivial, ⟨trivial, ⟨trivial, ⟨trivial, trivial⟩⟩⟩⟩⟩, ⟨SubB.refl _, trivial⟩⟩⟩, h13⟩) (k12 x13))⟩) h7)⟩⟩⟩⟩) (k6 x7))⟩) k4)⟩⟩) h3)⟩)⟩⟩⟩)
theorem r36_0 (out_n : Nat) (b0an : Nat) (b0af : Nat → Int) (b0ba : Int) (b0bba : Int) (b0bbba : Bool) (b0bbbba : Int) (b1n : Nat) (b1fa : Nat → Int) (b1fba : Nat → Int) (b1fbba : Nat → Int) (res : AV)
    (h : ∃ (r : Nat × (Nat → Int) × (Nat → Int) × (Nat → Int)),
  ((0 : Nat) + (1 : Nat) ≤ (1 : Nat) ∧
    Ok Proofs.Try.prog (71 : Nat)
    [AV.vec true (3 : Nat) (1 : Nat) (1 : Nat) fun (i : Nat) =>
    AV.cons (1 : Nat) (AV.sc (Value.int IntKind.i64 (21 : Int)))
    (AV.cons (1 : Nat) (AV.sc (Value.int IntKind.i64 (0 : Int))) (AV.cons (1 : Nat) (AV.sc (Value.int IntKind.i64 (0 : Int))) AV.nil)),
    AV.sc (Value.int IntKind.i64 (IntKind.i64.wrap ((↑b0an : Int) - (1 : Int))))]
    []
    (AV.vec false (3 : Nat) r.fst r.fst fun (i0 : Nat) =>
    AV.cons (1 : Nat) (AV.sc (Value.int IntKind.i64 (r.snd.fst i0)))
    (AV.cons (1 : Nat) (AV.sc (Value.int IntKind.i64 (r.snd.snd.fst i0)))
    (AV.cons (1 : Nat) (AV.sc (Value.int IntKind.i64 (r.snd.snd.snd i0))) AV.nil)))
    []) ∧
    (out_n ≤ b1n ∧ (out_n + r.fst) * (24 : Nat) ≤ (140737488355328 : Nat) ∧ out_n + r.fst ≤ maxLen) ∧
    (out_n + r.fst ≤ out_n + r.fst ∧
    (0 : Nat) + (1 : Nat) ≤ (1 : Nat) ∧ (out_n + r.fst + (1 : Nat)) * (24 : Nat) ≤ (140737488355328 : Nat) ∧ out_n + r.fst + (1 : Nat) ≤ maxLen) ∧
    ((0 : Nat) + (out_n + r.fst + (1 : Nat)) ≤ out_n + r.fst + (1 : Nat) ∧
    Sub
    (AV.vec false (3 : Nat) (out_n + r.fst + (1 : Nat)) (out_n + r.fst + (1 : Nat) - (0 : Nat)) fun (i : Nat) =>
    AV.cons (1 : Nat)
    (AV.sc
    (Value.int IntKind.i64
    (bif (plus (0 : Nat) i).blt (out_n + r.fst) then
    bif (plus (0 : Nat) i).blt out_n then b1fa (plus (0 : Nat) i) else r.snd.fst (plus (0 : Nat) i - out_n)
    else (22 : Int))))
    (AV.cons (1 : Nat)
    (AV.sc
    (Value.int IntKind.i64
    (bif (plus (0 : Nat) i).blt (out_n + r.fst) then
    bif (plus (0 : Nat) i).blt out_n then b1fba (plus (0 : Nat) i) else r.snd.snd.fst (plus (0 : Nat) i - out_n)
    else b0bbbba)))
    (AV.cons (1 : Nat)
    (AV.sc
    (Value.int IntKind.i64
    (bif (plus (0 : Nat) i).blt (out_n + r.fst) then
    bif (plus (0 : Nat) i).blt out_n then b1fbba (plus (0 : Nat) i) else r.snd.snd.snd (plus (0 : Nat) i - out_n)
    else (0 : Int))))
    AV.nil)))
    (AV.vec false (3 : Nat) (out_n + r.fst + (1 : Nat)) (out_n + r.fst + (1 : Nat)) fun (i : Nat) =>
    AV.cons (1 : Nat)
    (AV.sc
    (Value.int IntKind.i64
    (bif (plus (0 : Nat) i).blt (out_n + r.fst) then
    bif (plus (0 : Nat) i).blt out_n then b1fa (plus (0 : Nat) i) else r.snd.fst (plus (0 : Nat) i - out_n)
    else (22 : Int))))
    (AV.cons (1 : Nat)
    (AV.sc
    (Value.int IntKind.i64
    (bif (plus (0 : Nat) i).blt (out_n + r.fst) then
    bif (plus (0 : Nat) i).blt out_n then b1fba (plus (0 : Nat) i) else r.snd.snd.fst (plus (0 : Nat) i - out_n)
    else b0bbbba)))
    (AV.cons (1 : Nat)
    (AV.sc
    (Value.int IntKind.i64
    (bif (plus (0 : Nat) i).blt (out_n + r.fst) then
    bif (plus (0 : Nat) i).blt out_n then b1fbba (plus (0 : Nat) i) else r.snd.snd.snd (plus (0 : Nat) i - out_n)
    else (0 : Int))))
    AV.nil)))) ∧
    Sub
    (AV.vec false (3 : Nat) (out_n + r.fst + (1 : Nat)) (out_n + r.fst + (1 : Nat)) fun (i : Nat) =>
    AV.cons (1 : Nat)
    (AV.sc
    (Value.int IntKind.i64
    (bif (plus (0 : Nat) i).blt (out_n + r.fst) then
    bif (plus (0 : Nat) i).blt out_n then b1fa (plus (0 : Nat) i) else r.snd.fst (plus (0 : Nat) i - out_n)
    else (22 : Int))))
    (AV.cons (1 : Nat)
    (AV.sc
    (Value.int IntKind.i64
    (bif (plus (0 : Nat) i).blt (out_n + r.fst) then
    bif (plus (0 : Nat) i).blt out_n then b1fba (plus (0 : Nat) i) else r.snd.snd.fst (plus (0 : Nat) i - out_n)
    else b0bbbba)))
    (AV.cons (1 : Nat)
    (AV.sc
    (Value.int IntKind.i64
    (bif (plus (0 : Nat) i).blt (out_n + r.fst) then
    bif (plus (0 : Nat) i).blt out_n then b1fbba (plus (0 : Nat) i) else r.snd.snd.snd (plus (0 : Nat) i - out_n)
    else (0 : Int))))
    AV.nil)))
    res) :
    L36_0 out_n b0an b0af b0ba b0bba b0bbba b0bbbba b1n b1fa b1fba b1fbba res :=
  rule Go.Am.Seat.tabOk 36 [] Go.Proofs.Try.f36 hf36 [1, 1, 1, 1] (s36_0 out_n b0an b0af b0ba b0bba b0bbba b0bbbba b1n b1fa b1fba b1fbba) (m36_0 out_n b0an b0af b0ba b0bba b0bbba b0bbbba b1n b1fa b1fba b1fbba) res [] 400
    (Orc.call [] []
  (fun (r71 : Nat × (Nat → Int) × (Nat → Int) × (Nat → Int)) =>
    AV.vec false (3 : Nat) r71.fst r71.fst fun (i0 : Nat) =>
    AV.cons (1 : Nat) (AV.sc (Value.int IntKind.i64 (r71.snd.fst i0)))
    (AV.cons (1 : Nat) (AV.sc (Value.int IntKind.i64 (r71.snd.snd.fst i0)))
    (AV.cons (1 : Nat) (AV.sc (Value.int IntKind.i64 (r71.snd.snd.snd i0))) AV.nil)))
  (fun (r71 : Nat × (Nat → Int) × (Nat → Int) × (Nat → Int)) => []) fun (r71 : Nat × (Nat → Int) × (Nat → Int) × (Nat → Int)) =>
  Orc.fin
    (AV.vec false (3 : Nat) (out_n + r71.fst + (1 : Nat)) (out_n + r71.fst + (1 : Nat)) fun (i : Nat) =>
    AV.cons (1 : Nat)
    (AV.sc
    (Value.int IntKind.i64
    (bif (plus (0 : Nat) i).blt (out_n + r71.fst) then
    bif (plus (0 : Nat) i).blt out_n then b1fa (plus (0 : Nat) i) else r71.snd.fst (plus (0 : Nat) i - out_n)
    else (22 : Int))))
    (AV.cons (1 : Nat)
    (AV.sc
    (Value.int IntKind.i64
    (bif (plus (0 : Nat) i).blt (out_n + r71.fst) then
    bif (plus (0 : Nat) i).blt out_n then b1fba (plus (0 : Nat) i) else r71.snd.snd.fst (plus (0 : Nat) i - out_n)
    else b0bbbba)))
    (AV.cons (1 : Nat)
    (AV.sc
    (Value.int IntKind.i64
    (bif (plus (0 : Nat) i).blt (out_n + r71.fst) then
    bif (plus (0 : Nat) i).blt out_n then b1fbba (plus (0 : Nat) i) else r71.snd.snd.snd (plus (0 : Nat) i - out_n)
    else (0 : Int))))
    AV.nil)))
    [] []) _ _ (by kernel_rfl) (by kernel_rfl) (show True ∧
  True ∧
    (((True ∧ True ∧ True ∧ True) ∧ True) ∧ True) ∧
    True ∧
    ((0 : Nat) = plus (0 : Nat) (0 : Nat) ∧ True) ∧
    True ∧
    True ∧
    ∃ (r : Nat × (Nat → Int) × (Nat → Int) × (Nat → Int)),
    (((0 : Nat) + (1 : Nat) ≤ (1 : Nat) ∧ True ∧ True) ∧
    True ∧
    Ok Proofs.Try.prog (71 : Nat)
    [AV.vec true (3 : Nat) (1 : Nat) (1 : Nat) fun (i : Nat) =>
    AV.cons (1 : Nat) (AV.sc (Value.int IntKind.i64 (21 : Int)))
    (AV.cons (1 : Nat) (AV.sc (Value.int IntKind.i64 (0 : Int)))
    (AV.cons (1 : Nat) (AV.sc (Value.int IntKind.i64 (0 : Int))) AV.nil)),
    AV.sc (Value.int IntKind.i64 (IntKind.i64.wrap ((↑b0an : Int) - (1 : Int))))]
    []
    (AV.vec false (3 : Nat) r.fst r.fst fun (i0 : Nat) =>
    AV.cons (1 : Nat) (AV.sc (Value.int IntKind.i64 (r.snd.fst i0)))
    (AV.cons (1 : Nat) (AV.sc (Value.int IntKind.i64 (r.snd.snd.fst i0)))
    (AV.cons (1 : Nat) (AV.sc (Value.int IntKind.i64 (r.snd.snd.snd i0))) AV.nil)))
    []) ∧
    (out_n ≤ b1n ∧ True ∧ (out_n + r.fst) * (24 : Nat) ≤ (140737488355328 : Nat) ∧ out_n + r.fst ≤ maxLen) ∧
    True ∧
    True ∧
    True ∧
    ((1 : Nat) + ((1 : Nat) + ((1 : Nat) + ((1 : Nat) + (0 : Nat)))) = plus (0 : Nat) (4 : Nat) ∧ True) ∧
    True ∧
    (((True ∧ True ∧ True ∧ True) ∧ True) ∧ True) ∧
    (out_n + r.fst ≤ out_n + r.fst ∧
    ((0 : Nat) + (1 : Nat) ≤ (1 : Nat) ∧ (3 : Nat) = (3 : Nat)) ∧
    (out_n + r.fst + (1 : Nat)) * (24 : Nat) ≤ (140737488355328 : Nat) ∧ out_n + r.fst + (1 : Nat) ≤ maxLen) ∧
    True ∧
    True ∧
    (((0 : Nat) + (out_n + r.fst + (1 : Nat)) ≤ out_n + r.fst + (1 : Nat) ∧
    Sub
    (AV.vec false (3 : Nat) (out_n + r.fst + (1 : Nat)) (out_n + r.fst + (1 : Nat) - (0 : Nat)) fun (i : Nat) =>
    AV.cons (1 : Nat)
    (AV.sc
    (Value.int IntKind.i64
    (bif (plus (0 : Nat) i).blt (out_n + r.fst) then
    bif (plus (0 : Nat) i).blt out_n then b1fa (plus (0 : Nat) i)
    else r.snd.fst (plus (0 : Nat) i - out_n)
    else (22 : Int))))
    (AV.cons (1 : Nat)
    (AV.sc
    (Value.int IntKind.i64
    (bif (plus (0 : Nat) i).blt (out_n + r.fst) then
    bif (plus (0 : Nat) i).blt out_n then b1fba (plus (0 : Nat) i)
    else r.snd.snd.fst (plus (0 : Nat) i - out_n)
    else b0bbbba)))
    (AV.cons (1 : Nat)
    (AV.sc
    (Value.int IntKind.i64
    (bif (plus (0 : Nat) i).blt (out_n + r.fst) then
    bif (plus (0 : Nat) i).blt out_n then b1fbba (plus (0 : Nat) i)
    else r.snd.snd.snd (plus (0 : Nat) i - out_n)
    else (0 : Int))))
    AV.nil)))
    (AV.vec false (3 : Nat) (out_n + r.fst + (1 : Nat)) (out_n + r.fst + (1 : Nat)) fun (i : Nat) =>
    AV.cons (1 : Nat)
    (AV.sc
    (Value.int IntKind.i64
    (bif (plus (0 : Nat) i).blt (out_n + r.fst) then
    bif (plus (0 : Nat) i).blt out_n then b1fa (plus (0 : Nat) i)
    else r.snd.fst (plus (0 : Nat) i - out_n)
    else (22 : Int))))
    (AV.cons (1 : Nat)
    (AV.sc
    (Value.int IntKind.i64
    (bif (plus (0 : Nat) i).blt (out_n + r.fst) then
    bif (plus (0 : Nat) i).blt out_n then b1fba (plus (0 : Nat) i)
    else r.snd.snd.fst (plus (0 : Nat) i - out_n)
    else b0bbbba)))
    (AV.cons (1 : Nat)
    (AV.sc
    (Value.int IntKind.i64
    (bif (plus (0 : Nat) i).blt (out_n + r.fst) then
    bif (plus (0 : Nat) i).blt out_n then b1fbba (plus (0 : Nat) i)
    else r.snd.snd.snd (plus (0 : Nat) i - out_n)
    else (0 : Int))))
    AV.nil))) ∧
    True) ∧
    True) ∧
    Sub
    (AV.vec false (3 : Nat) (out_n + r.fst + (1 : Nat)) (out_n + r.fst + (1 : Nat)) fun (i : Nat) =>
    AV.cons (1 : Nat)
    (AV.sc
    (Value.int IntKind.i64
    (bif (plus (0 : Nat) i).blt (out_n + r.fst) then
    bif (plus (0 : Nat) i).blt out_n then b1fa (plus (0 : Nat) i) else r.snd.fst (plus (0 : Nat) i - out_n)
    else (22 : Int))))
    (AV.cons (1 : Nat)
    (AV.sc
    (Value.int IntKind.i64
    (bif (plus (0 : Nat) i).blt (out_n + r.fst) then
    bif (plus (0 : Nat) i).blt out_n then b1fba (plus (0 : Nat) i)
    else r.snd.snd.fst (plus (0 : Nat) i - out_n)
    else b0bbbba)))
    (AV.cons (1 : Nat)
    (AV.sc
    (Value.int IntKind.i64
    (bif (plus (0 : Nat) i).blt (out_n + r.fst) then
    bif (plus (0 : Nat) i).blt out_n then b1fbba (plus (0 : Nat) i)
    else r.snd.snd.snd (plus (0 : Nat) i - out_n)
    else (0 : Int))))
    AV.nil)))
    res ∧
    SubOut [] [] from
    ⟨trivial, ⟨trivial, ⟨⟨⟨⟨trivial, ⟨trivial, ⟨trivial, trivial⟩⟩⟩, trivial⟩, trivial⟩, ⟨trivial, ⟨⟨rfl, trivial⟩, ⟨trivial, ⟨trivial, (Exists.elim h fun x7 h7 => ⟨x7, (And.elim (fun h8 k8 => ⟨(And.elim (fun h9 k9 => ⟨((fun h10 => ⟨h10, ⟨trivial, trivial⟩⟩) h9), ⟨trivial, k9⟩⟩) h8), (And.elim (fun h9 k9 => ⟨(And.elim (fun h10 k10 => ⟨h10, ⟨trivial, (And.elim (fun h12 k12 => ⟨h12, k12⟩) k10)⟩⟩) h9), ⟨trivial, ⟨trivial, ⟨trivial, ⟨⟨rfl, trivial⟩, ⟨trivial, ⟨⟨⟨⟨trivial, ⟨trivial, ⟨trivial, trivial⟩⟩⟩, trivial⟩, trivial⟩, (And.elim (fun h16 k16 => ⟨(And.elim (fun h17 k17 => ⟨h17, (And.elim (fun h18 k18 => ⟨((fun h19 => ⟨h19, rfl⟩) h18), (And.elim (fun h19 k19 => ⟨h19, k19⟩) k18)⟩) k17)⟩) h16), ⟨trivial, ⟨trivial, (And.elim (fun h19 k19 => ⟨((fun h20 => ⟨(And.elim (fun h21 k21 => ⟨h21, ((fun h22 => ⟨h22, trivial⟩) k21)⟩) h20), trivial⟩) h19), ((fun h20 => ⟨h20, trivial⟩) k19)⟩) k16)⟩⟩⟩) k9)⟩⟩⟩⟩⟩⟩⟩) k8)⟩) h7)⟩)⟩⟩⟩⟩⟩⟩⟩)
theorem hf39 : Go.Proofs.Try.prog.funcs[39]? = some Go.Proofs.Try.f39 := by kernel_rfl
abbrev s39_e : List (Nat × AV) := []
abbrev m39_e : List (Nat × Nat × AV) := []
def L39_e (res : AV) : Prop := Goes ⟨Go.Proofs.Try.prog, 39, [], res, []⟩ (place Go.Proofs.Try.f39 []) (s39_e ) (m39_e )
theorem o39 (res : AV) (hnew : newOnly res) (h : L39_e  res) : Ok Go.Proofs.Try.prog 39 [] [] res [] :=
  okRule2 39 Go.Proofs.Try.f39 hf39 [] [] res [] [] rfl (by kernel_rfl) (by kernel_rfl) (by kernel_rfl) ⟨hnew, by simp⟩ (L39_e  res) (by kernel_rfl) h
theorem r39_e (res : AV)
    (h : ∃ (r :
  Nat ×
    (Nat → Int) ×
    (Nat → Int) ×
    (Nat → Int) ×
    Nat ×
    (Nat → Nat) ×
    (Nat → Nat → Int) ×
    (Nat → Int) × (Nat → Int) × (Nat → Bool) × (Nat → Int) × Nat × (Nat → Int) × Nat × (Nat → Int) × (Nat → Int) × (Nat → Int) × Int),
  ((0 : Nat) + (5 : Nat) ≤ (5 : Nat) ∧
    Ok Proofs.Try.prog (41 : Nat)
    [AV.sc
    (Value.string
    (ByteArray.mk #[(32 : UInt8), (32 : UInt8), (32 : UInt8), (32 : UInt8), (97 : UInt8), (10 : UInt8), (32 : UInt8), (32 : UInt8), (98 : UInt8)])),
    AV.vec true (3 : Nat) (5 : Nat) (5 : Nat) fun (i : Nat) =>
    AV.cons (1 : Nat)
    (AV.sc
    (Value.int IntKind.i64
    (bif (plus (0 : Nat) i).beq (4 : Nat) then (0 : Int)
    else
    bif (plus (0 : Nat) i).beq (3 : Nat) then (25 : Int)
    else
    bif (plus (0 : Nat) i).beq (2 : Nat) then (19 : Int)
    else bif (plus (0 : Nat) i).beq (1 : Nat) then (0 : Int) else bif (plus (0 : Nat) i).beq (0 : Nat) then (25 : Int) else (0 : Int))))
    (AV.cons (1 : Nat)
    (AV.sc
    (Value.int IntKind.i64
    (bif (plus (0 : Nat) i).beq (4 : Nat) then (1 : Int)
    else
    bif (plus (0 : Nat) i).beq (3 : Nat) then (2 : Int)
    else
    bif (plus (0 : Nat) i).beq (2 : Nat) then (1 : Int)
    else bif (plus (0 : Nat) i).beq (1 : Nat) then (1 : Int) else bif (plus (0 : Nat) i).beq (0 : Nat) then (4 : Int) else (0 : Int))))
    (AV.cons (1 : Nat)
    (AV.sc
    (Value.int IntKind.i64
    (bif (plus (0 : Nat) i).beq (4 : Nat) then (0 : Int)
    else
    bif (plus (0 : Nat) i).beq (3 : Nat) then (0 : Int)
    else
    bif (plus (0 : Nat) i).beq (2 : Nat) then (0 : Int)
    else bif (plus (0 : Nat) i).beq (1 : Nat) then (0 : Int) else bif (plus (0 : Nat) i).beq (0 : Nat) then (0 : Int) else (0 : Int))))
    AV.nil))]
    []
    (AV.cons (1 : Nat)
    (AV.cons (1 : Nat)
    (AV.vec false (3 : Nat) r.fst r.fst fun (i0 : Nat) =>
    AV.cons (1 : Nat) (AV.sc (Value.int IntKind.i64 (r.snd.fst i0)))
    (AV.cons (1 : Nat) (AV.sc (Value.int IntKind.i64 (r.snd.snd.fst i0)))
    (AV.cons (1 : Nat) (AV.sc (Value.int IntKind.i64 (r.snd.snd.snd.fst i0))) AV.nil)))
    (AV.cons (1 : Nat)
    (AV.vec false (5 : Nat) r.snd.snd.snd.snd.fst r.snd.snd.snd.snd.fst fun (i0 : Nat) =>
    AV.cons (1 : Nat)
    (AV.vec false (1 : Nat) (r.snd.snd.snd.snd.snd.fst i0) (r.snd.snd.snd.snd.snd.fst i0) fun (i1 : Nat) =>
    AV.sc (Value.int IntKind.i64 (r.snd.snd.snd.snd.snd.snd.fst i0 i1)))
    (AV.cons (1 : Nat) (AV.sc (Value.int IntKind.i64 (r.snd.snd.snd.snd.snd.snd.snd.fst i0)))
    (AV.cons (1 : Nat) (AV.sc (Value.int IntKind.i64 (r.snd.snd.snd.snd.snd.snd.snd.snd.fst i0)))
    (AV.cons (1 : Nat) (AV.sc (Value.bool (r.snd.snd.snd.snd.snd.snd.snd.snd.snd.fst i0)))
    (AV.cons (1 : Nat) (AV.sc (Value.int IntKind.i64 (r.snd.snd.snd.snd.snd.snd.snd.snd.snd.snd.fst i0))) AV.nil)))))
    (AV.cons (1 : Nat)
    (AV.vec false (1 : Nat) r.snd.snd.snd.snd.snd.snd.snd.snd.snd.snd.snd.fst r.snd.snd.snd.snd.snd.snd.snd.snd.snd.snd.snd.fst fun (i0 : Nat) =>
    AV.sc (Value.int IntKind.i64 (r.snd.snd.snd.snd.snd.snd.snd.snd.snd.snd.snd.snd.fst i0)))
    (AV.cons (1 : Nat)
    (AV.vec false (3 : Nat) r.snd.snd.snd.snd.snd.snd.snd.snd.snd.snd.snd.snd.snd.fst r.snd.snd.snd.snd.snd.snd.snd.snd.snd.snd.snd.snd.snd.fst
    fun (i0 : Nat) =>
    AV.cons (1 : Nat) (AV.sc (Value.int IntKind.i64 (r.snd.snd.snd.snd.snd.snd.snd.snd.snd.snd.snd.snd.snd.snd.fst i0)))
    (AV.cons (1 : Nat) (AV.sc (Value.int IntKind.i64 (r.snd.snd.snd.snd.snd.snd.snd.snd.snd.snd.snd.snd.snd.snd.snd.fst i0)))
    (AV.cons (1 : Nat) (AV.sc (Value.int IntKind.i64 (r.snd.snd.snd.snd.snd.snd.snd.snd.snd.snd.snd.snd.snd.snd.snd.snd.fst i0)))
    AV.nil)))
    AV.nil))))
    (AV.cons (1 : Nat) (AV.sc (Value.int IntKind.i64 r.snd.snd.snd.snd.snd.snd.snd.snd.snd.snd.snd.snd.snd.snd.snd.snd.snd)) AV.nil)).tup
    []) ∧
    ((r.snd.snd.snd.snd.snd.snd.snd.snd.snd.snd.snd.snd.snd.snd.snd.snd.snd == (0 : Int)) = true →
    ∃ (r_1 : Bool),
    ((0 : Nat) + (8 : Nat) ≤ (8 : Nat) ∧
    Ok Proofs.Try.prog (35 : Nat)
    [AV.vec true (3 : Nat) r.snd.snd.snd.snd.snd.snd.snd.snd.snd.snd.snd.snd.snd.fst r.snd.snd.snd.snd.snd.snd.snd.snd.snd.snd.snd.snd.snd.fst
    fun (i : Nat) =>
    AV.cons (1 : Nat) (AV.sc (Value.int IntKind.i64 (r.snd.snd.snd.snd.snd.snd.snd.snd.snd.snd.snd.snd.snd.snd.fst i)))
    (AV.cons (1 : Nat) (AV.sc (Value.int IntKind.i64 (r.snd.snd.snd.snd.snd.snd.snd.snd.snd.snd.snd.snd.snd.snd.snd.fst i)))
    (AV.cons (1 : Nat) (AV.sc (Value.int IntKind.i64 (r.snd.snd.snd.snd.snd.snd.snd.snd.snd.snd.snd.snd.snd.snd.snd.snd.fst i))) AV.nil)),
    AV.vec true (3 : Nat) (8 : Nat) (8 : Nat) fun (i : Nat) =>
    AV.cons (1 : Nat)
    (AV.sc
    (Value.int IntKind.i64
    (bif (plus (0 : Nat) i).beq (7 : Nat) then (22 : Int)
    else
    bif (plus (0 : Nat) i).beq (6 : Nat) then (19 : Int)
    else
    bif (plus (0 : Nat) i).beq (5 : Nat) then (0 : Int)
    else
    bif (plus (0 : Nat) i).beq (4 : Nat) then (23 : Int)
    else
    bif (plus (0 : Nat) i).beq (3 : Nat) then (21 : Int)
    else
    bif (plus (0 : Nat) i).beq (2 : Nat) then (19 : Int)
    else
    bif (plus (0 : Nat) i).beq (1 : Nat) then (0 : Int)
    else bif (plus (0 : Nat) i).beq (0 : Nat) then (20 : Int) else (0 : Int))))
    (AV.cons (1 : Nat)
    (AV.sc
    (Value.int IntKind.i64
    (bif (plus (0 : Nat) i).beq (7 : Nat) then (0 : Int)
    else
    bif (plus (0 : Nat) i).beq (6 : Nat) then (0 : Int)
    else
    bif (plus (0 : Nat) i).beq (5 : Nat) then (0 : Int)
    else
    bif (plus (0 : Nat) i).beq (4 : Nat) then (0 : Int)
    else
    bif (plus (0 : Nat) i).beq (3 : Nat) then (2 : Int)
    else
    bif (plus (0 : Nat) i).beq (2 : Nat) then (0 : Int)
    else
    bif (plus (0 : Nat) i).beq (1 : Nat) then (0 : Int)
    else bif (plus (0 : Nat) i).beq (0 : Nat) then (4 : Int) else (0 : Int))))
    (AV.cons (1 : Nat)
    (AV.sc
    (Value.int IntKind.i64
    (bif (plus (0 : Nat) i).beq (7 : Nat) then (0 : Int)
    else
    bif (plus (0 : Nat) i).beq (6 : Nat) then (0 : Int)
    else
    bif (plus (0 : Nat) i).beq (5 : Nat) then (1 : Int)
    else
    bif (plus (0 : Nat) i).beq (4 : Nat) then (0 : Int)
    else
    bif (plus (0 : Nat) i).beq (3 : Nat) then (0 : Int)
    else
    bif (plus (0 : Nat) i).beq (2 : Nat) then (1 : Int)
    else
    bif (plus (0 : Nat) i).beq (1 : Nat) then (1 : Int)
    else bif (plus (0 : Nat) i).beq (0 : Nat) then (0 : Int) else (0 : Int))))
    AV.nil))]
    [] (AV.sc (Value.bool r_1)) []) ∧
    (r_1 = true →
    ∃ (r : Nat × Int × Int × Bool × Int × Nat × (Nat → Int)),
    Ok Proofs.Try.prog (31 : Nat) [] []
    (AV.cons (1 : Nat) (AV.rf (1000 : Nat) (1 : Nat) (0 : Nat) r.fst)
    (AV.cons (1 : Nat) (AV.sc (Value.int IntKind.i64 r.snd.fst))
    (AV.cons (1 : Nat) (AV.sc (Value.int IntKind.i64 r.snd.snd.fst))
    (AV.cons (1 : Nat) (AV.sc (Value.bool r.snd.snd.snd.fst))
    (AV.cons (1 : Nat) (AV.sc (Value.int IntKind.i64 r.snd.snd.snd.snd.fst)) AV.nil)))))
    [((1000 : Nat), (3 : Nat),
    AV.ar r.snd.snd.snd.snd.snd.fst (1 : Nat) fun (i0 : Nat) => AV.sc (Value.int IntKind.i64 (r.snd.snd.snd.snd.snd.snd i0)))] ∧
    ∃ (r_2 : Bool),
    (((0 : Nat) + r.fst ≤ r.snd.snd.snd.snd.snd.fst ∧ (0 : Nat) + (1 : Nat) ≤ (1 : Nat)) ∧
    Ok Proofs.Try.prog (32 : Nat)
    [AV.cons (1 : Nat)
    (AV.vec true (1 : Nat) r.fst (r.snd.snd.snd.snd.snd.fst - (0 : Nat)) fun (i : Nat) =>
    AV.sc (Value.int IntKind.i64 (r.snd.snd.snd.snd.snd.snd (plus (0 : Nat) i))))
    (AV.cons (1 : Nat) (AV.sc (Value.int IntKind.i64 r.snd.fst))
    (AV.cons (1 : Nat) (AV.sc (Value.int IntKind.i64 r.snd.snd.fst))
    (AV.cons (1 : Nat) (AV.sc (Value.bool r.snd.snd.snd.fst))
    (AV.cons (1 : Nat) (AV.sc (Value.int IntKind.i64 r.snd.snd.snd.snd.fst)) AV.nil)))),
    AV.cons (1 : Nat) (AV.vec true (1 : Nat) (1 : Nat) (1 : Nat) fun (i : Nat) => AV.sc (Value.int IntKind.i64 (0 : Int)))
    (AV.cons (1 : Nat) (AV.sc (Value.int IntKind.i64 (0 : Int)))
    (AV.cons (1 : Nat) (AV.sc (Value.int IntKind.i64 (0 : Int)))
    (AV.cons (1 : Nat) (AV.sc (Value.bool true)) (AV.cons (1 : Nat) (AV.sc (Value.int IntKind.i64 (0 : Int))) AV.nil))))]
    [] (AV.sc (Value.bool r_2)) []) ∧
    Sub (AV.sc (Value.bool r_2)) res) ∧
    (r_1 = !true → Sub (AV.sc (Value.bool false)) res)) ∧
    ((r.snd.snd.snd.snd.snd.snd.snd.snd.snd.snd.snd.snd.snd.snd.snd.snd.snd == (0 : Int)) = !true → Sub (AV.sc (Value.bool false)) res)) :
    L39_e  res :=
  rule Go.Am.Seat.tabOk 39 [] Go.Proofs.Try.f39 hf39 [] (s39_e ) (m39_e ) res [] 400
    (Orc.call [] []
  (fun
    (r41 :
    Nat ×
    (Nat → Int) ×
    (Nat → Int) ×
    (Nat → Int) ×
    Nat ×
    (Nat → Nat) ×
    (Nat → Nat → Int) ×
    (Nat → Int) × (Nat → Int) × (Nat → Bool) × (Nat → Int) × Nat × (Nat → Int) × Nat × (Nat → Int) × (Nat → Int) × (Nat → Int) × Int) =>
    (AV.cons (1 : Nat)
    (AV.cons (1 : Nat)
    (AV.vec false (3 : Nat) r41.fst r41.fst fun (i0 : Nat) =>
    AV.cons (1 : Nat) (AV.sc (Value.int IntKind.i64 (r41.snd.fst i0)))
    (AV.cons (1 : Nat) (AV.sc (Value.int IntKind.i64 (r41.snd.snd.fst i0)))
    (AV.cons (1 : Nat) (AV.sc (Value.int IntKind.i64 (r41.snd.snd.snd.fst i0))) AV.nil)))
    (AV.cons (1 : Nat)
    (AV.vec false (5 : Nat) r41.snd.snd.snd.snd.fst r41.snd.snd.snd.snd.fst fun (i0 : Nat) =>
    AV.cons (1 : Nat)
    (AV.vec false (1 : Nat) (r41.snd.snd.snd.snd.snd.fst i0) (r41.snd.snd.snd.snd.snd.fst i0) fun (i1 : Nat) =>
    AV.sc (Value.int IntKind.i64 (r41.snd.snd.snd.snd.snd.snd.fst i0 i1)))
    (AV.cons (1 : Nat) (AV.sc (Value.int IntKind.i64 (r41.snd.snd.snd.snd.snd.snd.snd.fst i0)))
    (AV.cons (1 : Nat) (AV.sc (Value.int IntKind.i64 (r41.snd.snd.snd.snd.snd.snd.snd.snd.fst i0)))
    (AV.cons (1 : Nat) (AV.sc (Value.bool (r41.snd.snd.snd.snd.snd.snd.snd.snd.snd.fst i0)))
    (AV.cons (1 : Nat) (AV.sc (Value.int IntKind.i64 (r41.snd.snd.snd.snd.snd.snd.snd.snd.snd.snd.fst i0))) AV.nil)))))
    (AV.cons (1 : Nat)
    (AV.vec false (1 : Nat) r41.snd.snd.snd.snd.snd.snd.snd.snd.snd.snd.snd.fst r41.snd.snd.snd.snd.snd.snd.snd.snd.snd.snd.snd.fst fun (i0 : Nat) =>
    AV.sc (Value.int IntKind.i64 (r41.snd.snd.snd.snd.snd.snd.snd.snd.snd.snd.snd.snd.fst i0)))
    (AV.cons (1 : Nat)
    (AV.vec false (3 : Nat) r41.snd.snd.snd.snd.snd.snd.snd.snd.snd.snd.snd.snd.snd.fst r41.snd.snd.snd.snd.snd.snd.snd.snd.snd.snd.snd.snd.snd.fst
    fun (i0 : Nat) =>
    AV.cons (1 : Nat) (AV.sc (Value.int IntKind.i64 (r41.snd.snd.snd.snd.snd.snd.snd.snd.snd.snd.snd.snd.snd.snd.fst i0)))
    (AV.cons (1 : Nat) (AV.sc (Value.int IntKind.i64 (r41.snd.snd.snd.snd.snd.snd.snd.snd.snd.snd.snd.snd.snd.snd.snd.fst i0)))
    (AV.cons (1 : Nat) (AV.sc (Value.int IntKind.i64 (r41.snd.snd.snd.snd.snd.snd.snd.snd.snd.snd.snd.snd.snd.snd.snd.snd.fst i0))) AV.nil)))
    AV.nil))))
    (AV.cons (1 : Nat) (AV.sc (Value.int IntKind.i64 r41.snd.snd.snd.snd.snd.snd.snd.snd.snd.snd.snd.snd.snd.snd.snd.snd.snd)) AV.nil)).tup)
  (fun
    (r41 :
    Nat ×
    (Nat → Int) ×
    (Nat → Int) ×
    (Nat → Int) ×
    Nat ×
    (Nat → Nat) ×
    (Nat → Nat → Int) ×
    (Nat → Int) × (Nat → Int) × (Nat → Bool) × (Nat → Int) × Nat × (Nat → Int) × Nat × (Nat → Int) × (Nat → Int) × (Nat → Int) × Int) =>
    [])
  fun
    (r41 :
    Nat ×
    (Nat → Int) ×
    (Nat → Int) ×
    (Nat → Int) ×
    Nat ×
    (Nat → Nat) ×
    (Nat → Nat → Int) ×
    (Nat → Int) × (Nat → Int) × (Nat → Bool) × (Nat → Int) × Nat × (Nat → Int) × Nat × (Nat → Int) × (Nat → Int) × (Nat → Int) × Int) =>
  (Orc.call [] [] (fun (r35 : Bool) => AV.sc (Value.bool r35)) (fun (r35 : Bool) => []) fun (r35 : Bool) =>
    (Orc.call [] [((100340 : Nat), (1000 : Nat))]
    (fun (r31 : Nat × Int × Int × Bool × Int × Nat × (Nat → Int)) =>
    AV.cons (1 : Nat) (AV.rf (1000 : Nat) (1 : Nat) (0 : Nat) r31.fst)
    (AV.cons (1 : Nat) (AV.sc (Value.int IntKind.i64 r31.snd.fst))
    (AV.cons (1 : Nat) (AV.sc (Value.int IntKind.i64 r31.snd.snd.fst))
    (AV.cons (1 : Nat) (AV.sc (Value.bool r31.snd.snd.snd.fst))
    (AV.cons (1 : Nat) (AV.sc (Value.int IntKind.i64 r31.snd.snd.snd.snd.fst)) AV.nil)))))
    (fun (r31 : Nat × Int × Int × Bool × Int × Nat × (Nat → Int)) =>
    [((1000 : Nat), (3 : Nat),
    AV.ar r31.snd.snd.snd.snd.snd.fst (1 : Nat) fun (i0 : Nat) => AV.sc (Value.int IntKind.i64 (r31.snd.snd.snd.snd.snd.snd i0)))])
    fun (r31 : Nat × Int × Int × Bool × Int × Nat × (Nat → Int)) =>
    (Orc.call [] [] (fun (r32 : Bool) => AV.sc (Value.bool r32)) (fun (r32 : Bool) => []) fun (r32 : Bool) =>
    Orc.fin (AV.sc (Value.bool (bif true then r32 else false))) [] []).yes.yes.yes).br
    (Orc.fin (AV.sc (Value.bool false)) [] []).no.no.no).yes.yes.yes.br
    (Orc.fin (AV.sc (Value.bool false)) [] []).no.no.no.no.no.no.no) _ _ (by kernel_rfl) (by kernel_rfl) (show True ∧
  True ∧
    True ∧
    True ∧
    True ∧
    True ∧
    (((True ∧ True ∧ True ∧ True) ∧
    (True ∧ True ∧ True ∧ True) ∧ (True ∧ True ∧ True ∧ True) ∧ (True ∧ True ∧ True ∧ True) ∧ (True ∧ True ∧ True ∧ True) ∧ True) ∧
    True) ∧
    True ∧
    True ∧
    ∃ (r :
    Nat ×
    (Nat → Int) ×
    (Nat → Int) ×
    (Nat → Int) ×
    Nat ×
    (Nat → Nat) ×
    (Nat → Nat → Int) ×
    (Nat → Int) ×
    (Nat → Int) × (Nat → Bool) × (Nat → Int) × Nat × (Nat → Int) × Nat × (Nat → Int) × (Nat → Int) × (Nat → Int) × Int),
    ((True ∧ (0 : Nat) + (5 : Nat) ≤ (5 : Nat) ∧ True) ∧
    True ∧
    Ok Proofs.Try.prog (41 : Nat)
    [AV.sc
    (Value.string
    (ByteArray.mk
    #[(32 : UInt8), (32 : UInt8), (32 : UInt8), (32 : UInt8), (97 : UInt8), (10 : UInt8), (32 : UInt8), (32 : UInt8),
    (98 : UInt8)])),
    AV.vec true (3 : Nat) (5 : Nat) (5 : Nat) fun (i : Nat) =>
    AV.cons (1 : Nat)
    (AV.sc
    (Value.int IntKind.i64
    (bif (plus (0 : Nat) i).beq (4 : Nat) then (0 : Int)
    else
    bif (plus (0 : Nat) i).beq (3 : Nat) then (25 : Int)
    else
    bif (plus (0 : Nat) i).beq (2 : Nat) then (19 : Int)
    else
    bif (plus (0 : Nat) i).beq (1 : Nat) then (0 : Int)
    else bif (plus (0 : Nat) i).beq (0 : Nat) then (25 : Int) else (0 : Int))))
    (AV.cons (1 : Nat)
    (AV.sc
    (Value.int IntKind.i64
    (bif (plus (0 : Nat) i).beq (4 : Nat) then (1 : Int)
    else
    bif (plus (0 : Nat) i).beq (3 : Nat) then (2 : Int)
    else
    bif (plus (0 : Nat) i).beq (2 : Nat) then (1 : Int)
    else
    bif (plus (0 : Nat) i).beq (1 : Nat) then (1 : Int)
    else bif (plus (0 : Nat) i).beq (0 : Nat) then (4 : Int) else (0 : Int))))
    (AV.cons (1 : Nat)
    (AV.sc
    (Value.int IntKind.i64
    (bif (plus (0 : Nat) i).beq (4 : Nat) then (0 : Int)
    else
    bif (plus (0 : Nat) i).beq (3 : Nat) then (0 : Int)
    else
    bif (plus (0 : Nat) i).beq (2 : Nat) then (0 : Int)
    else
    bif (plus (0 : Nat) i).beq (1 : Nat) then (0 : Int)
    else bif (plus (0 : Nat) i).beq (0 : Nat) then (0 : Int) else (0 : Int))))
    AV.nil))]
    []
    (AV.cons (1 : Nat)
    (AV.cons (1 : Nat)
    (AV.vec false (3 : Nat) r.fst r.fst fun (i0 : Nat) =>
    AV.cons (1 : Nat) (AV.sc (Value.int IntKind.i64 (r.snd.fst i0)))
    (AV.cons (1 : Nat) (AV.sc (Value.int IntKind.i64 (r.snd.snd.fst i0)))
    (AV.cons (1 : Nat) (AV.sc (Value.int IntKind.i64 (r.snd.snd.snd.fst i0))) AV.nil)))
    (AV.cons (1 : Nat)
    (AV.vec false (5 : Nat) r.snd.snd.snd.snd.fst r.snd.snd.snd.snd.fst fun (i0 : Nat) =>
    AV.cons (1 : Nat)
    (AV.vec false (1 : Nat) (r.snd.snd.snd.snd.snd.fst i0) (r.snd.snd.snd.snd.snd.fst i0) fun (i1 : Nat) =>
    AV.sc (Value.int IntKind.i64 (r.snd.snd.snd.snd.snd.snd.fst i0 i1)))
    (AV.cons (1 : Nat) (AV.sc (Value.int IntKind.i64 (r.snd.snd.snd.snd.snd.snd.snd.fst i0)))
    (AV.cons (1 : Nat) (AV.sc (Value.int IntKind.i64 (r.snd.snd.snd.snd.snd.snd.snd.snd.fst i0)))
    (AV.cons (1 : Nat) (AV.sc (Value.bool (r.snd.snd.snd.snd.snd.snd.snd.snd.snd.fst i0)))
    (AV.cons (1 : Nat) (AV.sc (Value.int IntKind.i64 (r.snd.snd.snd.snd.snd.snd.snd.snd.snd.snd.fst i0))) AV.nil)))))
    (AV.cons (1 : Nat)
    (AV.vec false (1 : Nat) r.snd.snd.snd.snd.snd.snd.snd.snd.snd.snd.snd.fst
    r.snd.snd.snd.snd.snd.snd.snd.snd.snd.snd.snd.fst fun (i0 : Nat) =>
    AV.sc (Value.int IntKind.i64 (r.snd.snd.snd.snd.snd.snd.snd.snd.snd.snd.snd.snd.fst i0)))
    (AV.cons (1 : Nat)
    (AV.vec false (3 : Nat) r.snd.snd.snd.snd.snd.snd.snd.snd.snd.snd.snd.snd.snd.fst
    r.snd.snd.snd.snd.snd.snd.snd.snd.snd.snd.snd.snd.snd.fst fun (i0 : Nat) =>
    AV.cons (1 : Nat) (AV.sc (Value.int IntKind.i64 (r.snd.snd.snd.snd.snd.snd.snd.snd.snd.snd.snd.snd.snd.snd.fst i0)))
    (AV.cons (1 : Nat)
    (AV.sc (Value.int IntKind.i64 (r.snd.snd.snd.snd.snd.snd.snd.snd.snd.snd.snd.snd.snd.snd.snd.fst i0)))
    (AV.cons (1 : Nat)
    (AV.sc (Value.int IntKind.i64 (r.snd.snd.snd.snd.snd.snd.snd.snd.snd.snd.snd.snd.snd.snd.snd.snd.fst i0)))
    AV.nil)))
    AV.nil))))
    (AV.cons (1 : Nat) (AV.sc (Value.int IntKind.i64 r.snd.snd.snd.snd.snd.snd.snd.snd.snd.snd.snd.snd.snd.snd.snd.snd.snd))
    AV.nil)).tup
    []) ∧
    True ∧
    True ∧
    True ∧
    True ∧
    ((0 : Nat) = (0 : Nat) ∧ True) ∧
    True ∧
    True ∧
    True ∧
    True ∧
    True ∧
    True ∧
    True ∧
    True ∧
    True ∧
    (((True ∧ True ∧ True ∧ True) ∧
    (True ∧ True ∧ True ∧ True) ∧
    (True ∧ True ∧ True ∧ True) ∧
    (True ∧ True ∧ True ∧ True) ∧
    (True ∧ True ∧ True ∧ True) ∧
    (True ∧ True ∧ True ∧ True) ∧
    (True ∧ True ∧ True ∧ True) ∧ (True ∧ True ∧ True ∧ True) ∧ True) ∧
    True) ∧
    True ∧
    True ∧
    True ∧
    True ∧
    ((r.snd.snd.snd.snd.snd.snd.snd.snd.snd.snd.snd.snd.snd.snd.snd.snd.snd == (0 : Int)) = true →
    True ∧
    true = true ∧
    ((1 : Nat) + ((1 : Nat) + ((1 : Nat) + (0 : Nat))) = plus (0 : Nat) (3 : Nat) ∧ True) ∧
    true = true ∧
    True ∧
    true = true ∧
    ∃ (r_1 : Bool),
    ((True ∧ (0 : Nat) + (8 : Nat) ≤ (8 : Nat) ∧ True) ∧
    True ∧
    Ok Proofs.Try.prog (35 : Nat)
    [AV.vec true (3 : Nat)
    r.snd.snd.snd.snd.snd.snd.snd.snd.snd.snd.snd.snd.snd.fst
    r.snd.snd.snd.snd.snd.snd.snd.snd.snd.snd.snd.snd.snd.fst
    fun (i : Nat) =>
    AV.cons (1 : Nat)
    (AV.sc
    (Value.int IntKind.i64
    (r.snd.snd.snd.snd.snd.snd.snd.snd.snd.snd.snd.snd.snd.snd.fst
    i)))
    (AV.cons (1 : Nat)
    (AV.sc
    (Value.int IntKind.i64
    (r.snd.snd.snd.snd.snd.snd.snd.snd.snd.snd.snd.snd.snd.snd.snd.fst
    i)))
    (AV.cons (1 : Nat)
    (AV.sc
    (Value.int IntKind.i64
    (r.snd.snd.snd.snd.snd.snd.snd.snd.snd.snd.snd.snd.snd.snd.snd.snd.fst
    i)))
    AV.nil)),
    AV.vec true (3 : Nat) (8 : Nat) (8 : Nat) fun (i : Nat) =>
    AV.cons (1 : Nat)
    (AV.sc
    (Value.int IntKind.i64
    (bif (plus (0 : Nat) i).beq (7 : Nat) then (22 : Int)
    else
    bif (plus (0 : Nat) i).beq (6 : Nat) then (19 : Int)
    else
    bif (plus (0 : Nat) i).beq (5 : Nat) then (0 : Int)
    else
    bif (plus (0 : Nat) i).beq (4 : Nat) then (23 : Int)
    else
    bif (plus (0 : Nat) i).beq (3 : Nat) then (21 : Int)
    else
    bif (plus (0 : Nat) i).beq (2 : Nat) then (19 : Int)
    else
    bif (plus (0 : Nat) i).beq (1 : Nat) then (0 : Int)
    else
    bif (plus (0 : Nat) i).beq (0 : Nat) then
    (20 : Int)
    else (0 : Int))))
    (AV.cons (1 : Nat)
    (AV.sc
    (Value.int IntKind.i64
    (bif (plus (0 : Nat) i).beq (7 : Nat) then (0 : Int)
    else
    bif (plus (0 : Nat) i).beq (6 : Nat) then (0 : Int)
    else
    bif (plus (0 : Nat) i).beq (5 : Nat) then (0 : Int)
    else
    bif (plus (0 : Nat) i).beq (4 : Nat) then (0 : Int)
    else
    bif (plus (0 : Nat) i).beq (3 : Nat) then (2 : Int)
    else
    bif (plus (0 : Nat) i).beq (2 : Nat) then (0 : Int)
    else
    bif (plus (0 : Nat) i).beq (1 : Nat) then
    (0 : Int)
    else
    bif (plus (0 : Nat) i).beq (0 : Nat) then
    (4 : Int)
    else (0 : Int))))
    (AV.cons (1 : Nat)
    (AV.sc
    (Value.int IntKind.i64
    (bif (plus (0 : Nat) i).beq (7 : Nat) then (0 : Int)
    else
    bif (plus (0 : Nat) i).beq (6 : Nat) then (0 : Int)
    else
    bif (plus (0 : Nat) i).beq (5 : Nat) then (1 : Int)
    else
    bif (plus (0 : Nat) i).beq (4 : Nat) then (0 : Int)
    else
    bif (plus (0 : Nat) i).beq (3 : Nat) then (0 : Int)
    else
    bif (plus (0 : Nat) i).beq (2 : Nat) then
    (1 : Int)
    else
    bif (plus (0 : Nat) i).beq (1 : Nat) then
    (1 : Int)
    else
    bif (plus (0 : Nat) i).beq (0 : Nat) then
    (0 : Int)
    else (0 : Int))))
    AV.nil))]
    [] (AV.sc (Value.bool r_1)) []) ∧
    True ∧
    True ∧
    (r_1 = true →
    ∃ (r : Nat × Int × Int × Bool × Int × Nat × (Nat → Int)),
    (True ∧
    True ∧
    Ok Proofs.Try.prog (31 : Nat) [] []
    (AV.cons (1 : Nat)
    (AV.rf (1000 : Nat) (1 : Nat) (0 : Nat) r.fst)
    (AV.cons (1 : Nat) (AV.sc (Value.int IntKind.i64 r.snd.fst))
    (AV.cons (1 : Nat)
    (AV.sc (Value.int IntKind.i64 r.snd.snd.fst))
    (AV.cons (1 : Nat)
    (AV.sc (Value.bool r.snd.snd.snd.fst))
    (AV.cons (1 : Nat)
    (AV.sc
    (Value.int IntKind.i64 r.snd.snd.snd.snd.fst))
    AV.nil)))))
    [((1000 : Nat), (3 : Nat),
    AV.ar r.snd.snd.snd.snd.snd.fst (1 : Nat)
    fun (i0 : Nat) =>
    AV.sc
    (Value.int IntKind.i64
    (r.snd.snd.snd.snd.snd.snd i0)))]) ∧
    true = true ∧
    ((True ∧ True) ∧ True) ∧
    true = true ∧
    True ∧
    true = true ∧
    ∃ (r_2 : Bool),
    ((((0 : Nat) + r.fst ≤ r.snd.snd.snd.snd.snd.fst ∧
    True ∧ True ∧ True ∧ True ∧ True) ∧
    ((0 : Nat) + (1 : Nat) ≤ (1 : Nat) ∧
    True ∧ True ∧ True ∧ True ∧ True) ∧
    True) ∧
    True ∧
    Ok Proofs.Try.prog (32 : Nat)
    [AV.cons (1 : Nat)
    (AV.vec true (1 : Nat) r.fst
    (r.snd.snd.snd.snd.snd.fst - (0 : Nat))
    fun (i : Nat) =>
    AV.sc
    (Value.int IntKind.i64
    (r.snd.snd.snd.snd.snd.snd
    (plus (0 : Nat) i))))
    (AV.cons (1 : Nat)
    (AV.sc (Value.int IntKind.i64 r.snd.fst))
    (AV.cons (1 : Nat)
    (AV.sc
    (Value.int IntKind.i64 r.snd.snd.fst))
    (AV.cons (1 : Nat)
    (AV.sc (Value.bool r.snd.snd.snd.fst))
    (AV.cons (1 : Nat)
    (AV.sc
    (Value.int IntKind.i64
    r.snd.snd.snd.snd.fst))
    AV.nil)))),
    AV.cons (1 : Nat)
    (AV.vec true (1 : Nat) (1 : Nat) (1 : Nat)
    fun (i : Nat) =>
    AV.sc (Value.int IntKind.i64 (0 : Int)))
    (AV.cons (1 : Nat)
    (AV.sc (Value.int IntKind.i64 (0 : Int)))
    (AV.cons (1 : Nat)
    (AV.sc
    (Value.int IntKind.i64 (0 : Int)))
    (AV.cons (1 : Nat)
    (AV.sc (Value.bool true))
    (AV.cons (1 : Nat)
    (AV.sc
    (Value.int IntKind.i64 (0 : Int)))
    AV.nil))))]
    [] (AV.sc (Value.bool r_2)) []) ∧
    True ∧
    True ∧
    True ∧
    ((True ∧
    Sub (AV.sc (Value.bool r_2))
    (AV.sc (Value.bool r_2)) ∧
    True) ∧
    True) ∧
    Sub (AV.sc (Value.bool r_2)) res ∧
    SubOut [] []) ∧
    (r_1 = !true →
    true = true ∧
    (!true) = !true ∧
    true = true ∧
    (!true) = !true ∧
    true = true ∧
    (!true) = !true ∧
    true = true ∧
    True ∧
    True ∧
    True ∧
    ((True ∧
    Sub (AV.sc (Value.bool false))
    (AV.sc (Value.bool false)) ∧
    True) ∧
    True) ∧
    Sub (AV.sc (Value.bool false)) res ∧
    SubOut [] [])) ∧
    ((r.snd.snd.snd.snd.snd.snd.snd.snd.snd.snd.snd.snd.snd.snd.snd.snd.snd == (0 : Int)) = !true →
    true = true ∧
    (!true) = !true ∧
    true = true ∧
    (!true) = !true ∧
    true = true ∧
    (!true) = !true ∧
    true = true ∧
    True ∧
    True ∧
    false = !true ∧
    true = true ∧
    (!true) = !true ∧
    true = true ∧
    (!true) = !true ∧
    true = true ∧
    (!true) = !true ∧
    true = true ∧
    True ∧
    True ∧
    True ∧
    ((True ∧
    Sub (AV.sc (Value.bool false))
    (AV.sc (Value.bool false)) ∧
    True) ∧
    True) ∧
    Sub (AV.sc (Value.bool false)) res ∧ SubOut [] []) from
    ⟨trivial, ⟨trivial, ⟨trivial, ⟨trivial, ⟨trivial, ⟨trivial, ⟨⟨⟨⟨trivial, ⟨trivial, ⟨trivial, trivial⟩⟩⟩, ⟨⟨trivial, ⟨trivial, ⟨trivial, trivial⟩⟩⟩, ⟨⟨trivial, ⟨trivial, ⟨trivial, trivial⟩⟩⟩, ⟨⟨trivial, ⟨trivial, ⟨trivial, trivial⟩⟩⟩, ⟨⟨trivial, ⟨trivial, ⟨trivial, trivial⟩⟩⟩, trivial⟩⟩⟩⟩⟩, trivial⟩, ⟨trivial, ⟨trivial, (Exists.elim h fun x9 h9 => ⟨x9, (And.elim (fun h10 k10 => ⟨(And.elim (fun h11 k11 => ⟨⟨trivial, ((fun h13 => ⟨h13, trivial⟩) h11)⟩, ⟨trivial, k11⟩⟩) h10), ⟨trivial, ⟨trivial, ⟨trivial, ⟨trivial, ⟨⟨rfl, trivial⟩, ⟨trivial, ⟨trivial, ⟨trivial, ⟨trivial, ⟨trivial, ⟨trivial, ⟨trivial, ⟨trivial, ⟨trivial, ⟨⟨⟨⟨trivial, ⟨trivial, ⟨trivial, trivial⟩⟩⟩, ⟨⟨trivial, ⟨trivial, ⟨trivial, trivial⟩⟩⟩, ⟨⟨trivial, ⟨trivial, ⟨trivial, trivial⟩⟩⟩, ⟨⟨trivial, ⟨trivial, ⟨trivial, trivial⟩⟩⟩, ⟨⟨trivial, ⟨trivial, ⟨trivial, trivial⟩⟩⟩, ⟨⟨trivial, ⟨trivial, ⟨trivial, trivial⟩⟩⟩, ⟨⟨trivial, ⟨trivial, ⟨trivial, trivial⟩⟩⟩, ⟨⟨trivial, ⟨trivial, ⟨trivial, trivial⟩⟩⟩, trivial⟩⟩⟩⟩⟩⟩⟩⟩, trivial⟩, ⟨trivial, ⟨trivial, ⟨trivial, ⟨trivial, (And.elim (fun h30 k30 => ⟨(fun x31 => (fun h31 => ⟨trivial, ⟨rfl, ⟨⟨rfl, trivial⟩, ⟨rfl, ⟨trivial, ⟨rfl, (Exists.elim h31 fun x38 h38 => ⟨x38, (And.elim (fun h39 k39 => ⟨(And.elim (fun h40 k40 => ⟨⟨trivial, ((fun h42 => ⟨h42, trivial⟩) h40)⟩, ⟨trivial, k40⟩⟩) h39), ⟨trivial, ⟨trivial, (And.elim (fun h42 k42 => ⟨(fun x43 => (fun h43 => (Exists.elim h43 fun x44 h44 => ⟨x44, (And.elim (fun h45 k45 => ⟨⟨trivial, ⟨trivial, h45⟩⟩, ⟨rfl, ⟨⟨⟨trivial, trivial⟩, trivial⟩, ⟨rfl, ⟨trivial, ⟨rfl, (Exists.elim k45 fun x51 h51 => ⟨x51, (And.elim (fun h52 k52 => ⟨(And.elim (fun h53 k53 => ⟨(And.elim (fun h54 k54 => ⟨((fun h55 => ⟨h55, ⟨trivial, ⟨trivial, ⟨trivial, ⟨trivial, trivial⟩⟩⟩⟩⟩) h54), ((fun h55 => ⟨((fun h56 => ⟨h56, ⟨trivial, ⟨trivial, ⟨trivial, ⟨trivial, trivial⟩⟩⟩⟩⟩) h55), trivial⟩) k54)⟩) h53), ⟨trivial, k53⟩⟩) h52), ⟨trivial, ⟨trivial, ⟨trivial, ⟨⟨⟨trivial, ⟨Sub.refl _, trivial⟩⟩, trivial⟩, ((fun h57 => ⟨h57, trivial⟩) k52)⟩⟩⟩⟩⟩) h51)⟩)⟩⟩⟩⟩⟩⟩) h44)⟩)) (h42 x43)), (fun x43 => (fun h43 => ⟨rfl, ⟨rfl, ⟨rfl, ⟨rfl, ⟨rfl, ⟨rfl, ⟨rfl, ⟨trivial, ⟨trivial, ⟨trivial, ⟨⟨⟨trivial, ⟨Sub.refl _, trivial⟩⟩, trivial⟩, ((fun h55 => ⟨h55, trivial⟩) h43)⟩⟩⟩⟩⟩⟩⟩⟩⟩⟩⟩) (k42 x43))⟩) k39)⟩⟩⟩) h38)⟩)⟩⟩⟩⟩⟩⟩) (h30 x31)), (fun x31 => (fun h31 => ⟨rfl, ⟨rfl, ⟨rfl, ⟨rfl, ⟨rfl, ⟨rfl, ⟨rfl, ⟨trivial, ⟨trivial, ⟨rfl, ⟨rfl, ⟨rfl, ⟨rfl, ⟨rfl, ⟨rfl, ⟨rfl, ⟨rfl, ⟨trivial, ⟨trivial, ⟨trivial, ⟨⟨⟨trivial, ⟨Sub.refl _, trivial⟩⟩, trivial⟩, ((fun h53 => ⟨h53, trivial⟩) h31)⟩⟩⟩⟩⟩⟩⟩⟩⟩⟩⟩⟩⟩⟩⟩⟩⟩⟩⟩⟩⟩) (k30 x31))⟩) k10)⟩⟩⟩⟩⟩⟩⟩⟩⟩⟩⟩⟩⟩⟩⟩⟩⟩⟩⟩⟩) h9)⟩)⟩⟩⟩⟩⟩⟩⟩⟩⟩)
end Go.Am.Seat
