/- The rules of 13 functions: from what is owed at each place of a function the function goes on as it is told there. Printed by a program of this seat; Lean checks each. -/
import Derived.Test.YtpmgbnlenpgdoaaAmZ2
import Derived.Test.YtpmgbnlenpgdoaaTab
open Go Go.Am Go.Am.Seat
namespace Go.Am.Seat
set_option linter.unusedVariables false
set_option maxRecDepth 100000
theorem hf27 : Go.Proofs.Try.prog.funcs[27]? = some Go.Proofs.Try.f27 := by kernel_rfl
abbrev s27_e : List (Nat × AV) := []
abbrev m27_e : List (Nat × Nat × AV) := []
def L27_e (res : AV) : Prop := Goes ⟨Go.Proofs.Try.prog, 27, [], res, []⟩ (place Go.Proofs.Try.f27 []) (s27_e ) (m27_e )
theorem a27_e (res : AV) (h : (∀ slot, fact (look .undef (s27_e ) slot)) → L27_e  res) : L27_e  res :=
  assumeRule 27 [] Go.Proofs.Try.f27 hf27 [] (s27_e ) (m27_e ) res [] _ (by kernel_rfl) h
theorem o27 (res : AV) (hnew : newOnly res) (h : L27_e  res) : Ok Go.Proofs.Try.prog 27 [] [] res [] :=
  okRule2 27 Go.Proofs.Try.f27 hf27 [] [] res [] [] rfl (by kernel_rfl) (by kernel_rfl) (by kernel_rfl) ⟨hnew, by simp⟩ (L27_e  res) (by kernel_rfl) h
theorem r27_e (res : AV)
    (h : ∃ (r : Nat × (Nat → Int) × (Nat → Int) × (Nat → Nat → Int) × Int × (Nat → Int) × Nat × (Nat → Nat) × (Nat → Nat → Int) × Nat × (Nat → Int)),
  Ok Proofs.Try.prog (68 : Nat) [] []
    (AV.cons (1 : Nat)
    (AV.vec false (7 : Nat) r.fst r.fst fun (i0 : Nat) =>
    AV.cons (1 : Nat) (AV.sc (Value.int IntKind.i64 (r.snd.fst i0)))
    (AV.cons (6 : Nat)
    (AV.cons (1 : Nat) (AV.sc (Value.int IntKind.i64 (r.snd.snd.fst i0)))
    (AV.cons (4 : Nat) (AV.ar (4 : Nat) (1 : Nat) fun (i1 : Nat) => AV.sc (Value.int IntKind.u64 (r.snd.snd.snd.fst i0 i1)))
    (AV.cons (1 : Nat) AV.undef AV.nil)))
    AV.nil))
    (AV.cons (1 : Nat)
    (AV.cons (1 : Nat) (AV.sc (Value.int IntKind.i64 r.snd.snd.snd.snd.fst))
    (AV.cons (256 : Nat) (AV.ar (256 : Nat) (1 : Nat) fun (i0 : Nat) => AV.sc (Value.int IntKind.u8 (r.snd.snd.snd.snd.snd.fst i0)))
    (AV.cons (1 : Nat)
    (AV.vec false (1 : Nat) r.snd.snd.snd.snd.snd.snd.fst r.snd.snd.snd.snd.snd.snd.fst fun (i0 : Nat) =>
    AV.vec false (1 : Nat) (r.snd.snd.snd.snd.snd.snd.snd.fst i0) (r.snd.snd.snd.snd.snd.snd.snd.fst i0) fun (i1 : Nat) =>
    AV.sc (Value.int IntKind.i64 (r.snd.snd.snd.snd.snd.snd.snd.snd.fst i0 i1)))
    (AV.cons (1 : Nat)
    (AV.vec false (1 : Nat) r.snd.snd.snd.snd.snd.snd.snd.snd.snd.fst r.snd.snd.snd.snd.snd.snd.snd.snd.snd.fst fun (i0 : Nat) =>
    AV.sc (Value.int IntKind.i64 (r.snd.snd.snd.snd.snd.snd.snd.snd.snd.snd i0)))
    AV.nil))))
    AV.nil)).tup
    [] ∧
    ∃ (r_1 : Nat × (Nat → Int) × (Nat → Int) × (Nat → Int) × Int),
    Ok Proofs.Try.prog (23 : Nat)
    [AV.vec true (7 : Nat) r.fst r.fst fun (i : Nat) =>
    AV.cons (1 : Nat) (AV.sc (Value.int IntKind.i64 (r.snd.fst i)))
    (AV.cons (6 : Nat)
    (AV.cons (1 : Nat) (AV.sc (Value.int IntKind.i64 (r.snd.snd.fst i)))
    (AV.cons (4 : Nat) (AV.ar (4 : Nat) (1 : Nat) fun (i_1 : Nat) => AV.sc (Value.int IntKind.u64 (r.snd.snd.snd.fst i i_1)))
    (AV.cons (1 : Nat) AV.undef AV.nil)))
    AV.nil),
    AV.cons (1 : Nat) (AV.sc (Value.int IntKind.i64 r.snd.snd.snd.snd.fst))
    (AV.cons (256 : Nat) (AV.ar (256 : Nat) (1 : Nat) fun (i : Nat) => AV.sc (Value.int IntKind.u8 (r.snd.snd.snd.snd.snd.fst i)))
    (AV.cons (1 : Nat)
    (AV.vec true (1 : Nat) r.snd.snd.snd.snd.snd.snd.fst r.snd.snd.snd.snd.snd.snd.fst fun (i : Nat) =>
    AV.vec true (1 : Nat) (r.snd.snd.snd.snd.snd.snd.snd.fst i) (r.snd.snd.snd.snd.snd.snd.snd.fst i) fun (i_1 : Nat) =>
    AV.sc (Value.int IntKind.i64 (r.snd.snd.snd.snd.snd.snd.snd.snd.fst i i_1)))
    (AV.cons (1 : Nat)
    (AV.vec true (1 : Nat) r.snd.snd.snd.snd.snd.snd.snd.snd.snd.fst r.snd.snd.snd.snd.snd.snd.snd.snd.snd.fst fun (i : Nat) =>
    AV.sc (Value.int IntKind.i64 (r.snd.snd.snd.snd.snd.snd.snd.snd.snd.snd i)))
    AV.nil))),
    AV.sc (Value.string (ByteArray.mk #[(97 : UInt8), (97 : UInt8), (98 : UInt8), (99 : UInt8)]))]
    []
    (AV.cons (1 : Nat)
    (AV.vec false (3 : Nat) r_1.fst r_1.fst fun (i0 : Nat) =>
    AV.cons (1 : Nat) (AV.sc (Value.int IntKind.i64 (r_1.snd.fst i0)))
    (AV.cons (1 : Nat) (AV.sc (Value.int IntKind.i64 (r_1.snd.snd.fst i0)))
    (AV.cons (1 : Nat) (AV.sc (Value.int IntKind.i64 (r_1.snd.snd.snd.fst i0))) AV.nil)))
    (AV.cons (1 : Nat) (AV.sc (Value.int IntKind.i64 r_1.snd.snd.snd.snd)) AV.nil)).tup
    [] ∧
    ((0 : Int) ≤ (0 : Int) ∧ (0 : Int) ≤ (1 : Int) ∧ (1 : Int) ≤ (↑r.fst : Int)) ∧
    ∃ (r_2 : Nat × (Nat → Int) × (Nat → Int) × (Nat → Int) × Int),
    Ok Proofs.Try.prog (23 : Nat)
    [AV.vec true (7 : Nat) ((1 : Int) - (0 : Int)).toNat ((1 : Int) - (0 : Int)).toNat fun (i : Nat) =>
    AV.cons (1 : Nat) (AV.sc (Value.int IntKind.i64 (r.snd.fst (plus (Int.toNat (0 : Int)) i))))
    (AV.cons (6 : Nat)
    (AV.cons (1 : Nat) (AV.sc (Value.int IntKind.i64 (r.snd.snd.fst (plus (Int.toNat (0 : Int)) i))))
    (AV.cons (4 : Nat)
    (AV.ar (4 : Nat) (1 : Nat) fun (i_1 : Nat) => AV.sc (Value.int IntKind.u64 (r.snd.snd.snd.fst (plus (Int.toNat (0 : Int)) i) i_1)))
    (AV.cons (1 : Nat) AV.undef AV.nil)))
    AV.nil),
    AV.cons (1 : Nat) (AV.sc (Value.int IntKind.i64 r.snd.snd.snd.snd.fst))
    (AV.cons (256 : Nat) (AV.ar (256 : Nat) (1 : Nat) fun (i : Nat) => AV.sc (Value.int IntKind.u8 (r.snd.snd.snd.snd.snd.fst i)))
    (AV.cons (1 : Nat)
    (AV.vec true (1 : Nat) r.snd.snd.snd.snd.snd.snd.fst r.snd.snd.snd.snd.snd.snd.fst fun (i : Nat) =>
    AV.vec true (1 : Nat) (r.snd.snd.snd.snd.snd.snd.snd.fst i) (r.snd.snd.snd.snd.snd.snd.snd.fst i) fun (i_1 : Nat) =>
    AV.sc (Value.int IntKind.i64 (r.snd.snd.snd.snd.snd.snd.snd.snd.fst i i_1)))
    (AV.cons (1 : Nat)
    (AV.vec true (1 : Nat) r.snd.snd.snd.snd.snd.snd.snd.snd.snd.fst r.snd.snd.snd.snd.snd.snd.snd.snd.snd.fst fun (i : Nat) =>
    AV.sc (Value.int IntKind.i64 (r.snd.snd.snd.snd.snd.snd.snd.snd.snd.snd i)))
    AV.nil))),
    AV.sc (Value.string (ByteArray.mk #[(97 : UInt8), (97 : UInt8), (98 : UInt8)]))]
    []
    (AV.cons (1 : Nat)
    (AV.vec false (3 : Nat) r_2.fst r_2.fst fun (i0 : Nat) =>
    AV.cons (1 : Nat) (AV.sc (Value.int IntKind.i64 (r_2.snd.fst i0)))
    (AV.cons (1 : Nat) (AV.sc (Value.int IntKind.i64 (r_2.snd.snd.fst i0)))
    (AV.cons (1 : Nat) (AV.sc (Value.int IntKind.i64 (r_2.snd.snd.snd.fst i0))) AV.nil)))
    (AV.cons (1 : Nat) (AV.sc (Value.int IntKind.i64 r_2.snd.snd.snd.snd)) AV.nil)).tup
    [] ∧
    ((r_1.snd.snd.snd.snd == (0 : Int)) = true →
    ∃ (r : Bool),
    ((0 : Nat) + (3 : Nat) ≤ (3 : Nat) ∧
    Ok Proofs.Try.prog (25 : Nat)
    [AV.vec true (3 : Nat) r_1.fst r_1.fst fun (i : Nat) =>
    AV.cons (1 : Nat) (AV.sc (Value.int IntKind.i64 (r_1.snd.fst i)))
    (AV.cons (1 : Nat) (AV.sc (Value.int IntKind.i64 (r_1.snd.snd.fst i)))
    (AV.cons (1 : Nat) (AV.sc (Value.int IntKind.i64 (r_1.snd.snd.snd.fst i))) AV.nil)),
    AV.vec true (3 : Nat) (3 : Nat) (3 : Nat) fun (i : Nat) =>
    AV.cons (1 : Nat)
    (AV.sc
    (Value.int IntKind.i64
    (bif (plus (0 : Nat) i).beq (2 : Nat) then (23 : Int)
    else
    bif (plus (0 : Nat) i).beq (1 : Nat) then (80 : Int)
    else bif (plus (0 : Nat) i).beq (0 : Nat) then (70 : Int) else (0 : Int))))
    (AV.cons (1 : Nat)
    (AV.sc
    (Value.int IntKind.i64
    (bif (plus (0 : Nat) i).beq (2 : Nat) then (1 : Int)
    else
    bif (plus (0 : Nat) i).beq (1 : Nat) then (1 : Int)
    else bif (plus (0 : Nat) i).beq (0 : Nat) then (2 : Int) else (0 : Int))))
    (AV.cons (1 : Nat)
    (AV.sc
    (Value.int IntKind.i64
    (bif (plus (0 : Nat) i).beq (2 : Nat) then (1 : Int)
    else
    bif (plus (0 : Nat) i).beq (1 : Nat) then (1 : Int)
    else bif (plus (0 : Nat) i).beq (0 : Nat) then (3 : Int) else (0 : Int))))
    AV.nil))]
    [] (AV.sc (Value.bool r)) []) ∧
    (r = true → Sub (AV.sc (Value.bool (r_2.snd.snd.snd.snd == (2 : Int)))) res) ∧ (r = !true → Sub (AV.sc (Value.bool false)) res)) ∧
    ((r_1.snd.snd.snd.snd == (0 : Int)) = !true → Sub (AV.sc (Value.bool false)) res)) :
    L27_e  res :=
  rule Go.Am.Seat.tabOk 27 [] Go.Proofs.Try.f27 hf27 [] (s27_e ) (m27_e ) res [] 400
    (Orc.call [] []
  (fun (r68 : Nat × (Nat → Int) × (Nat → Int) × (Nat → Nat → Int) × Int × (Nat → Int) × Nat × (Nat → Nat) × (Nat → Nat → Int) × Nat × (Nat → Int)) =>
    (AV.cons (1 : Nat)
    (AV.vec false (7 : Nat) r68.fst r68.fst fun (i0 : Nat) =>
    AV.cons (1 : Nat) (AV.sc (Value.int IntKind.i64 (r68.snd.fst i0)))
    (AV.cons (6 : Nat)
    (AV.cons (1 : Nat) (AV.sc (Value.int IntKind.i64 (r68.snd.snd.fst i0)))
    (AV.cons (4 : Nat) (AV.ar (4 : Nat) (1 : Nat) fun (i1 : Nat) => AV.sc (Value.int IntKind.u64 (r68.snd.snd.snd.fst i0 i1)))
    (AV.cons (1 : Nat) AV.undef AV.nil)))
    AV.nil))
    (AV.cons (1 : Nat)
    (AV.cons (1 : Nat) (AV.sc (Value.int IntKind.i64 r68.snd.snd.snd.snd.fst))
    (AV.cons (256 : Nat) (AV.ar (256 : Nat) (1 : Nat) fun (i0 : Nat) => AV.sc (Value.int IntKind.u8 (r68.snd.snd.snd.snd.snd.fst i0)))
    (AV.cons (1 : Nat)
    (AV.vec false (1 : Nat) r68.snd.snd.snd.snd.snd.snd.fst r68.snd.snd.snd.snd.snd.snd.fst fun (i0 : Nat) =>
    AV.vec false (1 : Nat) (r68.snd.snd.snd.snd.snd.snd.snd.fst i0) (r68.snd.snd.snd.snd.snd.snd.snd.fst i0) fun (i1 : Nat) =>
    AV.sc (Value.int IntKind.i64 (r68.snd.snd.snd.snd.snd.snd.snd.snd.fst i0 i1)))
    (AV.cons (1 : Nat)
    (AV.vec false (1 : Nat) r68.snd.snd.snd.snd.snd.snd.snd.snd.snd.fst r68.snd.snd.snd.snd.snd.snd.snd.snd.snd.fst fun (i0 : Nat) =>
    AV.sc (Value.int IntKind.i64 (r68.snd.snd.snd.snd.snd.snd.snd.snd.snd.snd i0)))
    AV.nil))))
    AV.nil)).tup)
  (fun (r68 : Nat × (Nat → Int) × (Nat → Int) × (Nat → Nat → Int) × Int × (Nat → Int) × Nat × (Nat → Nat) × (Nat → Nat → Int) × Nat × (Nat → Int)) => [])
  fun (r68 : Nat × (Nat → Int) × (Nat → Int) × (Nat → Nat → Int) × Int × (Nat → Int) × Nat × (Nat → Nat) × (Nat → Nat → Int) × Nat × (Nat → Int)) =>
  Orc.call [] []
    (fun (r23 : Nat × (Nat → Int) × (Nat → Int) × (Nat → Int) × Int) =>
    (AV.cons (1 : Nat)
    (AV.vec false (3 : Nat) r23.fst r23.fst fun (i0 : Nat) =>
    AV.cons (1 : Nat) (AV.sc (Value.int IntKind.i64 (r23.snd.fst i0)))
    (AV.cons (1 : Nat) (AV.sc (Value.int IntKind.i64 (r23.snd.snd.fst i0)))
    (AV.cons (1 : Nat) (AV.sc (Value.int IntKind.i64 (r23.snd.snd.snd.fst i0))) AV.nil)))
    (AV.cons (1 : Nat) (AV.sc (Value.int IntKind.i64 r23.snd.snd.snd.snd)) AV.nil)).tup)
    (fun (r23 : Nat × (Nat → Int) × (Nat → Int) × (Nat → Int) × Int) => []) fun (r23 : Nat × (Nat → Int) × (Nat → Int) × (Nat → Int) × Int) =>
    Orc.call [] []
    (fun (r23 : Nat × (Nat → Int) × (Nat → Int) × (Nat → Int) × Int) =>
    (AV.cons (1 : Nat)
    (AV.vec false (3 : Nat) r23.fst r23.fst fun (i0 : Nat) =>
    AV.cons (1 : Nat) (AV.sc (Value.int IntKind.i64 (r23.snd.fst i0)))
    (AV.cons (1 : Nat) (AV.sc (Value.int IntKind.i64 (r23.snd.snd.fst i0)))
    (AV.cons (1 : Nat) (AV.sc (Value.int IntKind.i64 (r23.snd.snd.snd.fst i0))) AV.nil)))
    (AV.cons (1 : Nat) (AV.sc (Value.int IntKind.i64 r23.snd.snd.snd.snd)) AV.nil)).tup)
    (fun (r23 : Nat × (Nat → Int) × (Nat → Int) × (Nat → Int) × Int) => []) fun (r23 : Nat × (Nat → Int) × (Nat → Int) × (Nat → Int) × Int) =>
    (Orc.call [] [] (fun (r25 : Bool) => AV.sc (Value.bool r25)) (fun (r25 : Bool) => []) fun (r25 : Bool) =>
    (Orc.fin (AV.sc (Value.bool (bif true then r23.snd.snd.snd.snd == (2 : Int) else false))) [] []).yes.br
    (Orc.fin (AV.sc (Value.bool false)) [] []).no).yes.yes.yes.yes.yes.br
    (Orc.fin (AV.sc (Value.bool false)) [] []).no.no.no.no.no.no.no) _ _ (by kernel_rfl) (by kernel_rfl) (show True ∧
  ∃ (r : Nat × (Nat → Int) × (Nat → Int) × (Nat → Nat → Int) × Int × (Nat → Int) × Nat × (Nat → Nat) × (Nat → Nat → Int) × Nat × (Nat → Int)),
    (True ∧
    True ∧
    Ok Proofs.Try.prog (68 : Nat) [] []
    (AV.cons (1 : Nat)
    (AV.vec false (7 : Nat) r.fst r.fst fun (i0 : Nat) =>
    AV.cons (1 : Nat) (AV.sc (Value.int IntKind.i64 (r.snd.fst i0)))
    (AV.cons (6 : Nat)
    (AV.cons (1 : Nat) (AV.sc (Value.int IntKind.i64 (r.snd.snd.fst i0)))
    (AV.cons (4 : Nat) (AV.ar (4 : Nat) (1 : Nat) fun (i1 : Nat) => AV.sc (Value.int IntKind.u64 (r.snd.snd.snd.fst i0 i1)))
    (AV.cons (1 : Nat) AV.undef AV.nil)))
    AV.nil))
    (AV.cons (1 : Nat)
    (AV.cons (1 : Nat) (AV.sc (Value.int IntKind.i64 r.snd.snd.snd.snd.fst))
    (AV.cons (256 : Nat) (AV.ar (256 : Nat) (1 : Nat) fun (i0 : Nat) => AV.sc (Value.int IntKind.u8 (r.snd.snd.snd.snd.snd.fst i0)))
    (AV.cons (1 : Nat)
    (AV.vec false (1 : Nat) r.snd.snd.snd.snd.snd.snd.fst r.snd.snd.snd.snd.snd.snd.fst fun (i0 : Nat) =>
    AV.vec false (1 : Nat) (r.snd.snd.snd.snd.snd.snd.snd.fst i0) (r.snd.snd.snd.snd.snd.snd.snd.fst i0) fun (i1 : Nat) =>
    AV.sc (Value.int IntKind.i64 (r.snd.snd.snd.snd.snd.snd.snd.snd.fst i0 i1)))
    (AV.cons (1 : Nat)
    (AV.vec false (1 : Nat) r.snd.snd.snd.snd.snd.snd.snd.snd.snd.fst r.snd.snd.snd.snd.snd.snd.snd.snd.snd.fst fun (i0 : Nat) =>
    AV.sc (Value.int IntKind.i64 (r.snd.snd.snd.snd.snd.snd.snd.snd.snd.snd i0)))
    AV.nil))))
    AV.nil)).tup
    []) ∧
    True ∧
    True ∧
    True ∧
    True ∧
    True ∧
    ((0 : Nat) = (0 : Nat) ∧ True) ∧
    True ∧
    ((0 : Nat) = (0 : Nat) ∧ True) ∧
    ∃ (r_1 : Nat × (Nat → Int) × (Nat → Int) × (Nat → Int) × Int),
    ((True ∧ (True ∧ True ∧ True ∧ True ∧ True) ∧ True ∧ True) ∧
    True ∧
    Ok Proofs.Try.prog (23 : Nat)
    [AV.vec true (7 : Nat) r.fst r.fst fun (i : Nat) =>
    AV.cons (1 : Nat) (AV.sc (Value.int IntKind.i64 (r.snd.fst i)))
    (AV.cons (6 : Nat)
    (AV.cons (1 : Nat) (AV.sc (Value.int IntKind.i64 (r.snd.snd.fst i)))
    (AV.cons (4 : Nat)
    (AV.ar (4 : Nat) (1 : Nat) fun (i_1 : Nat) => AV.sc (Value.int IntKind.u64 (r.snd.snd.snd.fst i i_1)))
    (AV.cons (1 : Nat) AV.undef AV.nil)))
    AV.nil),
    AV.cons (1 : Nat) (AV.sc (Value.int IntKind.i64 r.snd.snd.snd.snd.fst))
    (AV.cons (256 : Nat)
    (AV.ar (256 : Nat) (1 : Nat) fun (i : Nat) => AV.sc (Value.int IntKind.u8 (r.snd.snd.snd.snd.snd.fst i)))
    (AV.cons (1 : Nat)
    (AV.vec true (1 : Nat) r.snd.snd.snd.snd.snd.snd.fst r.snd.snd.snd.snd.snd.snd.fst fun (i : Nat) =>
    AV.vec true (1 : Nat) (r.snd.snd.snd.snd.snd.snd.snd.fst i) (r.snd.snd.snd.snd.snd.snd.snd.fst i) fun (i_1 : Nat) =>
    AV.sc (Value.int IntKind.i64 (r.snd.snd.snd.snd.snd.snd.snd.snd.fst i i_1)))
    (AV.cons (1 : Nat)
    (AV.vec true (1 : Nat) r.snd.snd.snd.snd.snd.snd.snd.snd.snd.fst r.snd.snd.snd.snd.snd.snd.snd.snd.snd.fst
    fun (i : Nat) => AV.sc (Value.int IntKind.i64 (r.snd.snd.snd.snd.snd.snd.snd.snd.snd.snd i)))
    AV.nil))),
    AV.sc (Value.string (ByteArray.mk #[(97 : UInt8), (97 : UInt8), (98 : UInt8), (99 : UInt8)]))]
    []
    (AV.cons (1 : Nat)
    (AV.vec false (3 : Nat) r_1.fst r_1.fst fun (i0 : Nat) =>
    AV.cons (1 : Nat) (AV.sc (Value.int IntKind.i64 (r_1.snd.fst i0)))
    (AV.cons (1 : Nat) (AV.sc (Value.int IntKind.i64 (r_1.snd.snd.fst i0)))
    (AV.cons (1 : Nat) (AV.sc (Value.int IntKind.i64 (r_1.snd.snd.snd.fst i0))) AV.nil)))
    (AV.cons (1 : Nat) (AV.sc (Value.int IntKind.i64 r_1.snd.snd.snd.snd)) AV.nil)).tup
    []) ∧
    True ∧
    True ∧
    True ∧
    True ∧
    True ∧
    True ∧
    ((0 : Int) ≤ (0 : Int) ∧ (0 : Int) ≤ (1 : Int) ∧ (1 : Int) ≤ (↑r.fst : Int)) ∧
    ((0 : Nat) = (0 : Nat) ∧ True) ∧
    ∃ (r_2 : Nat × (Nat → Int) × (Nat → Int) × (Nat → Int) × Int),
    ((True ∧ (True ∧ True ∧ True ∧ True ∧ True) ∧ True ∧ True) ∧
    True ∧
    Ok Proofs.Try.prog (23 : Nat)
    [AV.vec true (7 : Nat) ((1 : Int) - (0 : Int)).toNat ((1 : Int) - (0 : Int)).toNat fun (i : Nat) =>
    AV.cons (1 : Nat) (AV.sc (Value.int IntKind.i64 (r.snd.fst (plus (Int.toNat (0 : Int)) i))))
    (AV.cons (6 : Nat)
    (AV.cons (1 : Nat) (AV.sc (Value.int IntKind.i64 (r.snd.snd.fst (plus (Int.toNat (0 : Int)) i))))
    (AV.cons (4 : Nat)
    (AV.ar (4 : Nat) (1 : Nat) fun (i_1 : Nat) =>
    AV.sc (Value.int IntKind.u64 (r.snd.snd.snd.fst (plus (Int.toNat (0 : Int)) i) i_1)))
    (AV.cons (1 : Nat) AV.undef AV.nil)))
    AV.nil),
    AV.cons (1 : Nat) (AV.sc (Value.int IntKind.i64 r.snd.snd.snd.snd.fst))
    (AV.cons (256 : Nat)
    (AV.ar (256 : Nat) (1 : Nat) fun (i : Nat) =>
    AV.sc (Value.int IntKind.u8 (r.snd.snd.snd.snd.snd.fst i)))
    (AV.cons (1 : Nat)
    (AV.vec true (1 : Nat) r.snd.snd.snd.snd.snd.snd.fst r.snd.snd.snd.snd.snd.snd.fst fun (i : Nat) =>
    AV.vec true (1 : Nat) (r.snd.snd.snd.snd.snd.snd.snd.fst i) (r.snd.snd.snd.snd.snd.snd.snd.fst i)
    fun (i_1 : Nat) => AV.sc (Value.int IntKind.i64 (r.snd.snd.snd.snd.snd.snd.snd.snd.fst i i_1)))
    (AV.cons (1 : Nat)
    (AV.vec true (1 : Nat) r.snd.snd.snd.snd.snd.snd.snd.snd.snd.fst
    r.snd.snd.snd.snd.snd.snd.snd.snd.snd.fst fun (i : Nat) =>
    AV.sc (Value.int IntKind.i64 (r.snd.snd.snd.snd.snd.snd.snd.snd.snd.snd i)))
    AV.nil))),
    AV.sc (Value.string (ByteArray.mk #[(97 : UInt8), (97 : UInt8), (98 : UInt8)]))]
    []
    (AV.cons (1 : Nat)
    (AV.vec false (3 : Nat) r_2.fst r_2.fst fun (i0 : Nat) =>
    AV.cons (1 : Nat) (AV.sc (Value.int IntKind.i64 (r_2.snd.fst i0)))
    (AV.cons (1 : Nat) (AV.sc (Value.int IntKind.i64 (r_2.snd.snd.fst i0)))
    (AV.cons (1 : Nat) (AV.sc (Value.int IntKind.i64 (r_2.snd.snd.snd.fst i0))) AV.nil)))
    (AV.cons (1 : Nat) (AV.sc (Value.int IntKind.i64 r_2.snd.snd.snd.snd)) AV.nil)).tup
    []) ∧
    True ∧
    True ∧
    True ∧
    True ∧
    True ∧
    True ∧
    True ∧
    True ∧
    ((r_1.snd.snd.snd.snd == (0 : Int)) = true →
    True ∧
    true = true ∧
    True ∧
    true = true ∧
    True ∧
    true = true ∧
    True ∧
    true = true ∧
    (((True ∧ True ∧ True ∧ True) ∧
    (True ∧ True ∧ True ∧ True) ∧ (True ∧ True ∧ True ∧ True) ∧ True) ∧
    True) ∧
    true = true ∧
    ∃ (r : Bool),
    ((True ∧ (0 : Nat) + (3 : Nat) ≤ (3 : Nat) ∧ True) ∧
    True ∧
    Ok Proofs.Try.prog (25 : Nat)
    [AV.vec true (3 : Nat) r_1.fst r_1.fst fun (i : Nat) =>
    AV.cons (1 : Nat)
    (AV.sc (Value.int IntKind.i64 (r_1.snd.fst i)))
    (AV.cons (1 : Nat)
    (AV.sc (Value.int IntKind.i64 (r_1.snd.snd.fst i)))
    (AV.cons (1 : Nat)
    (AV.sc
    (Value.int IntKind.i64 (r_1.snd.snd.snd.fst i)))
    AV.nil)),
    AV.vec true (3 : Nat) (3 : Nat) (3 : Nat) fun (i : Nat) =>
    AV.cons (1 : Nat)
    (AV.sc
    (Value.int IntKind.i64
    (bif (plus (0 : Nat) i).beq (2 : Nat) then (23 : Int)
    else
    bif (plus (0 : Nat) i).beq (1 : Nat) then (80 : Int)
    else
    bif (plus (0 : Nat) i).beq (0 : Nat) then
    (70 : Int)
    else (0 : Int))))
    (AV.cons (1 : Nat)
    (AV.sc
    (Value.int IntKind.i64
    (bif (plus (0 : Nat) i).beq (2 : Nat) then (1 : Int)
    else
    bif (plus (0 : Nat) i).beq (1 : Nat) then
    (1 : Int)
    else
    bif (plus (0 : Nat) i).beq (0 : Nat) then
    (2 : Int)
    else (0 : Int))))
    (AV.cons (1 : Nat)
    (AV.sc
    (Value.int IntKind.i64
    (bif (plus (0 : Nat) i).beq (2 : Nat) then
    (1 : Int)
    else
    bif (plus (0 : Nat) i).beq (1 : Nat) then
    (1 : Int)
    else
    bif (plus (0 : Nat) i).beq (0 : Nat) then
    (3 : Int)
    else (0 : Int))))
    AV.nil))]
    [] (AV.sc (Value.bool r)) []) ∧
    True ∧
    True ∧
    (r = true →
    True ∧
    true = true ∧
    True ∧
    True ∧
    True ∧
    True ∧
    ((True ∧
    Sub
    (AV.sc
    (Value.bool
    (r_2.snd.snd.snd.snd == (2 : Int))))
    (AV.sc
    (Value.bool
    (r_2.snd.snd.snd.snd ==
    (2 : Int)))) ∧
    True) ∧
    True) ∧
    Sub
    (AV.sc
    (Value.bool
    (r_2.snd.snd.snd.snd == (2 : Int))))
    res ∧
    SubOut [] []) ∧
    (r = !true →
    true = true ∧
    (!true) = !true ∧
    true = true ∧
    True ∧
    True ∧
    True ∧
    ((True ∧
    Sub (AV.sc (Value.bool false))
    (AV.sc (Value.bool false)) ∧
    True) ∧
    True) ∧
    Sub (AV.sc (Value.bool false)) res ∧
    SubOut [] [])) ∧
    ((r_1.snd.snd.snd.snd == (0 : Int)) = !true →
    true = true ∧
    (!true) = !true ∧
    true = true ∧
    (!true) = !true ∧
    true = true ∧
    (!true) = !true ∧
    true = true ∧
    (!true) = !true ∧
    true = true ∧
    (!true) = !true ∧
    true = true ∧
    True ∧
    True ∧
    false = !true ∧
    true = true ∧
    (!true) = !true ∧
    true = true ∧
    True ∧
    True ∧
    True ∧
    ((True ∧
    Sub (AV.sc (Value.bool false))
    (AV.sc (Value.bool false)) ∧
    True) ∧
    True) ∧
    Sub (AV.sc (Value.bool false)) res ∧ SubOut [] []) from
    ⟨trivial, (Exists.elim h fun x1 h1 => ⟨x1, (And.elim (fun h2 k2 => ⟨⟨trivial, ⟨trivial, h2⟩⟩, ⟨trivial, ⟨trivial, ⟨trivial, ⟨trivial, ⟨trivial, ⟨⟨rfl, trivial⟩, ⟨trivial, ⟨⟨rfl, trivial⟩, (Exists.elim k2 fun x11 h11 => ⟨x11, (And.elim (fun h12 k12 => ⟨⟨⟨trivial, ⟨⟨trivial, ⟨trivial, ⟨trivial, ⟨trivial, trivial⟩⟩⟩⟩, ⟨trivial, trivial⟩⟩⟩, ⟨trivial, h12⟩⟩, ⟨trivial, ⟨trivial, ⟨trivial, ⟨trivial, ⟨trivial, ⟨trivial, (And.elim (fun h19 k19 => ⟨(And.elim (fun h20 k20 => ⟨h20, (And.elim (fun h21 k21 => ⟨h21, k21⟩) k20)⟩) h19), ⟨⟨rfl, trivial⟩, (Exists.elim k19 fun x21 h21 => ⟨x21, (And.elim (fun h22 k22 => ⟨⟨⟨trivial, ⟨⟨trivial, ⟨trivial, ⟨trivial, ⟨trivial, trivial⟩⟩⟩⟩, ⟨trivial, trivial⟩⟩⟩, ⟨trivial, h22⟩⟩, ⟨trivial, ⟨trivial, ⟨trivial, ⟨trivial, ⟨trivial, ⟨trivial, ⟨trivial, ⟨trivial, (And.elim (fun h31 k31 => ⟨(fun x32 => (fun h32 => ⟨trivial, ⟨rfl, ⟨trivial, ⟨rfl, ⟨trivial, ⟨rfl, ⟨trivial, ⟨rfl, ⟨⟨⟨⟨trivial, ⟨trivial, ⟨trivial, trivial⟩⟩⟩, ⟨⟨trivial, ⟨trivial, ⟨trivial, trivial⟩⟩⟩, ⟨⟨trivial, ⟨trivial, ⟨trivial, trivial⟩⟩⟩, trivial⟩⟩⟩, trivial⟩, ⟨rfl, (Exists.elim h32 fun x43 h43 => ⟨x43, (And.elim (fun h44 k44 => ⟨(And.elim (fun h45 k45 => ⟨⟨trivial, ((fun h47 => ⟨h47, trivial⟩) h45)⟩, ⟨trivial, k45⟩⟩) h44), ⟨trivial, ⟨trivial, (And.elim (fun h47 k47 => ⟨(fun x48 => (fun h48 => ⟨trivial, ⟨rfl, ⟨trivial, ⟨trivial, ⟨trivial, ⟨trivial, ⟨⟨⟨trivial, ⟨Sub.refl _, trivial⟩⟩, trivial⟩, ((fun h56 => ⟨h56, trivial⟩) h48)⟩⟩⟩⟩⟩⟩⟩) (h47 x48)), (fun x48 => (fun h48 => ⟨rfl, ⟨rfl, ⟨rfl, ⟨trivial, ⟨trivial, ⟨trivial, ⟨⟨⟨trivial, ⟨Sub.refl _, trivial⟩⟩, trivial⟩, ((fun h56 => ⟨h56, trivial⟩) h48)⟩⟩⟩⟩⟩⟩⟩) (k47 x48))⟩) k44)⟩⟩⟩) h43)⟩)⟩⟩⟩⟩⟩⟩⟩⟩⟩⟩) (h31 x32)), (fun x32 => (fun h32 => ⟨rfl, ⟨rfl, ⟨rfl, ⟨rfl, ⟨rfl, ⟨rfl, ⟨rfl, ⟨rfl, ⟨rfl, ⟨rfl, ⟨rfl, ⟨trivial, ⟨trivial, ⟨rfl, ⟨rfl, ⟨rfl, ⟨rfl, ⟨trivial, ⟨trivial, ⟨trivial, ⟨⟨⟨trivial, ⟨Sub.refl _, trivial⟩⟩, trivial⟩, ((fun h54 => ⟨h54, trivial⟩) h32)⟩⟩⟩⟩⟩⟩⟩⟩⟩⟩⟩⟩⟩⟩⟩⟩⟩⟩⟩⟩⟩) (k31 x32))⟩) k22)⟩⟩⟩⟩⟩⟩⟩⟩⟩) h21)⟩)⟩⟩) k12)⟩⟩⟩⟩⟩⟩⟩) h11)⟩)⟩⟩⟩⟩⟩⟩⟩⟩⟩) h1)⟩)⟩)
theorem hf28 : Go.Proofs.Try.prog.funcs[28]? = some Go.Proofs.Try.f28 := by kernel_rfl
abbrev s28_e (rulesn : Nat) (rulesfa : Nat → Int) (rulesfbaa : Nat → Int) (rulesfbabaf : Nat → Nat → Int) (da : Int) (dbaf : Nat → Int) (dbban : Nat) (dbbafn : Nat → Nat) (dbbaff : Nat → Nat → Int) (dbbban : Nat) (dbbbaf : Nat → Int) (text : ByteArray) : List (Nat × AV) := [(0, (.vec true 7 rulesn rulesn (fun i0 => (.cons 1 (.sc (.int .i64 (rulesfa i0))) (.cons 6 (.cons 1 (.sc (.int .i64 (rulesfbaa i0))) (.cons 4 (.ar 4 1 (fun i1 => (.sc (.int .u64 (rulesfbabaf i0 i1))))) (.cons 1 .undef .nil))) .nil))))), (1, (.cons 1 (.sc (.int .i64 da)) (.cons 256 (.ar 256 1 (fun i0 => (.sc (.int .u8 (dbaf i0))))) (.cons 1 (.vec true 1 dbban dbban (fun i0 => (.vec true 1 (dbbafn i0) (dbbafn i0) (fun i1 => (.sc (.int .i64 (dbbaff i0 i1))))))) (.cons 1 (.vec true 1 dbbban dbbban (fun i0 => (.sc (.int .i64 (dbbbaf i0))))) .nil))))), (2, (.sc (.string text)))]
abbrev m28_e (rulesn : Nat) (rulesfa : Nat → Int) (rulesfbaa : Nat → Int) (rulesfbabaf : Nat → Nat → Int) (da : Int) (dbaf : Nat → Int) (dbban : Nat) (dbbafn : Nat → Nat) (dbbaff : Nat → Nat → Int) (dbbban : Nat) (dbbbaf : Nat → Int) (text : ByteArray) : List (Nat × Nat × AV) := []
def L28_e (rulesn : Nat) (rulesfa : Nat → Int) (rulesfbaa : Nat → Int) (rulesfbabaf : Nat → Nat → Int) (da : Int) (dbaf : Nat → Int) (dbban : Nat) (dbbafn : Nat → Nat) (dbbaff : Nat → Nat → Int) (dbbban : Nat) (dbbbaf : Nat → Int) (text : ByteArray) (res : AV) : Prop := Goes ⟨Go.Proofs.Try.prog, 28, [], res, []⟩ (place Go.Proofs.Try.f28 []) (s28_e rulesn rulesfa rulesfbaa rulesfbabaf da dbaf dbban dbbafn dbbaff dbbban dbbbaf text) (m28_e rulesn rulesfa rulesfbaa rulesfbabaf da dbaf dbban dbbafn dbbaff dbbban dbbbaf text)
theorem a28_e (rulesn : Nat) (rulesfa : Nat → Int) (rulesfbaa : Nat → Int) (rulesfbabaf : Nat → Nat → Int) (da : Int) (dbaf : Nat → Int) (dbban : Nat) (dbbafn : Nat → Nat) (dbbaff : Nat → Nat → Int) (dbbban : Nat) (dbbbaf : Nat → Int) (text : ByteArray) (res : AV) (h : (∀ slot, fact (look .undef (s28_e rulesn rulesfa rulesfbaa rulesfbabaf da dbaf dbban dbbafn dbbaff dbbban dbbbaf text) slot)) → L28_e rulesn rulesfa rulesfbaa rulesfbabaf da dbaf dbban dbbafn dbbaff dbbban dbbbaf text res) : L28_e rulesn rulesfa rulesfbaa rulesfbabaf da dbaf dbban dbbafn dbbaff dbbban dbbbaf text res :=
  assumeRule 28 [] Go.Proofs.Try.f28 hf28 [] (s28_e rulesn rulesfa rulesfbaa rulesfbabaf da dbaf dbban dbbafn dbbaff dbbban dbbbaf text) (m28_e rulesn rulesfa rulesfbaa rulesfbabaf da dbaf dbban dbbafn dbbaff dbbban dbbbaf text) res [] _ (by kernel_rfl) h
theorem o28 (rulesn : Nat) (rulesfa : Nat → Int) (rulesfbaa : Nat → Int) (rulesfbabaf : Nat → Nat → Int) (da : Int) (dbaf : Nat → Int) (dbban : Nat) (dbbafn : Nat → Nat) (dbbaff : Nat → Nat → Int) (dbbban : Nat) (dbbbaf : Nat → Int) (text : ByteArray) (res : AV) (hnew : newOnly res) (h : L28_e rulesn rulesfa rulesfbaa rulesfbabaf da dbaf dbban dbbafn dbbaff dbbban dbbbaf text res) : Ok Go.Proofs.Try.prog 28 [(.vec true 7 rulesn rulesn (fun i0 => (.cons 1 (.sc (.int .i64 (rulesfa i0))) (.cons 6 (.cons 1 (.sc (.int .i64 (rulesfbaa i0))) (.cons 4 (.ar 4 1 (fun i1 => (.sc (.int .u64 (rulesfbabaf i0 i1))))) (.cons 1 .undef .nil))) .nil)))), (.cons 1 (.sc (.int .i64 da)) (.cons 256 (.ar 256 1 (fun i0 => (.sc (.int .u8 (dbaf i0))))) (.cons 1 (.vec true 1 dbban dbban (fun i0 => (.vec true 1 (dbbafn i0) (dbbafn i0) (fun i1 => (.sc (.int .i64 (dbbaff i0 i1))))))) (.cons 1 (.vec true 1 dbbban dbbban (fun i0 => (.sc (.int .i64 (dbbbaf i0))))) .nil)))), (.sc (.string text))] [] res [] :=
  okRule2 28 Go.Proofs.Try.f28 hf28 [(.vec true 7 rulesn rulesn (fun i0 => (.cons 1 (.sc (.int .i64 (rulesfa i0))) (.cons 6 (.cons 1 (.sc (.int .i64 (rulesfbaa i0))) (.cons 4 (.ar 4 1 (fun i1 => (.sc (.int .u64 (rulesfbabaf i0 i1))))) (.cons 1 .undef .nil))) .nil)))), (.cons 1 (.sc (.int .i64 da)) (.cons 256 (.ar 256 1 (fun i0 => (.sc (.int .u8 (dbaf i0))))) (.cons 1 (.vec true 1 dbban dbban (fun i0 => (.vec true 1 (dbbafn i0) (dbbafn i0) (fun i1 => (.sc (.int .i64 (dbbaff i0 i1))))))) (.cons 1 (.vec true 1 dbbban dbbban (fun i0 => (.sc (.int .i64 (dbbbaf i0))))) .nil)))), (.sc (.string text))] [] res [] [] rfl (by kernel_rfl) (by kernel_rfl) (by kernel_rfl) ⟨hnew, by simp⟩ (L28_e rulesn rulesfa rulesfbaa rulesfbabaf da dbaf dbban dbbafn dbbaff dbbban dbbbaf text res) (by kernel_rfl) h
theorem r28_e (rulesn : Nat) (rulesfa : Nat → Int) (rulesfbaa : Nat → Int) (rulesfbabaf : Nat → Nat → Int) (da : Int) (dbaf : Nat → Int) (dbban : Nat) (dbbafn : Nat → Nat) (dbbaff : Nat → Nat → Int) (dbbban : Nat) (dbbbaf : Nat → Int) (text : ByteArray) (res : AV)
    (h : (decide ((↑text.size : Int) ≤ (300 : Int)) = true →
    ∃ (r : Bool),
    Ok Proofs.Try.prog (15 : Nat)
    [AV.cons (1 : Nat) (AV.sc (Value.int IntKind.i64 da))
    (AV.cons (256 : Nat) (AV.ar (256 : Nat) (1 : Nat) fun (i : Nat) => AV.sc (Value.int IntKind.u8 (dbaf i)))
    (AV.cons (1 : Nat)
    (AV.vec true (1 : Nat) dbban dbban fun (i : Nat) =>
    AV.vec true (1 : Nat) (dbbafn i) (dbbafn i) fun (i_1 : Nat) => AV.sc (Value.int IntKind.i64 (dbbaff i i_1)))
    (AV.cons (1 : Nat) (AV.vec true (1 : Nat) dbbban dbbban fun (i : Nat) => AV.sc (Value.int IntKind.i64 (dbbbaf i))) AV.nil))),
    AV.sc (Value.int IntKind.i64 (5000 : Int))]
    [] (AV.sc (Value.bool r)) [] ∧
    ((!r) = true → Sub (AV.sc (Value.bool (decide ((↑rulesn : Int) ≤ (1000 : Int))))) res) ∧ ((!r) = !true → Sub (AV.sc (Value.bool false)) res)) ∧
  (decide ((↑text.size : Int) ≤ (300 : Int)) = !true → Sub (AV.sc (Value.bool false)) res)) :
    L28_e rulesn rulesfa rulesfbaa rulesfbabaf da dbaf dbban dbbafn dbbaff dbbban dbbbaf text res :=
  rule Go.Am.Seat.tabOk 28 [] Go.Proofs.Try.f28 hf28 [] (s28_e rulesn rulesfa rulesfbaa rulesfbabaf da dbaf dbban dbbafn dbbaff dbbban dbbbaf text) (m28_e rulesn rulesfa rulesfbaa rulesfbabaf da dbaf dbban dbbafn dbbaff dbbban dbbbaf text) res [] 400
    ((Orc.call [] [] (fun (r15 : Bool) => AV.sc (Value.bool r15)) (fun (r15 : Bool) => []) fun (r15 : Bool) =>
    ((Orc.fin (AV.sc (Value.bool (bif true then decide ((↑rulesn : Int) ≤ (1000 : Int)) else false))) [] []).yes.yes.br
    (Orc.fin (AV.sc (Value.bool false)) [] []).no.no).yes).yes.br
  (Orc.fin (AV.sc (Value.bool false)) [] []).no.no.no.no.no) _ _ (by kernel_rfl) (by kernel_rfl) (show True ∧
  True ∧
    True ∧
    True ∧
    True ∧
    True ∧
    (decide ((↑text.size : Int) ≤ (300 : Int)) = true →
    ((0 : Nat) = (0 : Nat) ∧ True) ∧
    true = true ∧
    ∃ (r : Bool),
    (((True ∧ True ∧ True ∧ True ∧ True) ∧ True ∧ True) ∧
    True ∧
    Ok Proofs.Try.prog (15 : Nat)
    [AV.cons (1 : Nat) (AV.sc (Value.int IntKind.i64 da))
    (AV.cons (256 : Nat) (AV.ar (256 : Nat) (1 : Nat) fun (i : Nat) => AV.sc (Value.int IntKind.u8 (dbaf i)))
    (AV.cons (1 : Nat)
    (AV.vec true (1 : Nat) dbban dbban fun (i : Nat) =>
    AV.vec true (1 : Nat) (dbbafn i) (dbbafn i) fun (i_1 : Nat) => AV.sc (Value.int IntKind.i64 (dbbaff i i_1)))
    (AV.cons (1 : Nat) (AV.vec true (1 : Nat) dbbban dbbban fun (i : Nat) => AV.sc (Value.int IntKind.i64 (dbbbaf i)))
    AV.nil))),
    AV.sc (Value.int IntKind.i64 (5000 : Int))]
    [] (AV.sc (Value.bool r)) []) ∧
    true = true ∧
    True ∧
    True ∧
    True ∧
    ((!r) = true →
    True ∧
    true = true ∧
    True ∧
    true = true ∧
    True ∧
    True ∧
    True ∧
    True ∧
    ((True ∧
    Sub (AV.sc (Value.bool (decide ((↑rulesn : Int) ≤ (1000 : Int)))))
    (AV.sc (Value.bool (decide ((↑rulesn : Int) ≤ (1000 : Int))))) ∧
    True) ∧
    True) ∧
    Sub (AV.sc (Value.bool (decide ((↑rulesn : Int) ≤ (1000 : Int))))) res ∧ SubOut [] []) ∧
    ((!r) = !true →
    true = true ∧
    (!true) = !true ∧
    true = true ∧
    (!true) = !true ∧
    true = true ∧
    True ∧
    True ∧
    True ∧
    ((True ∧ Sub (AV.sc (Value.bool false)) (AV.sc (Value.bool false)) ∧ True) ∧ True) ∧
    Sub (AV.sc (Value.bool false)) res ∧ SubOut [] [])) ∧
    (decide ((↑text.size : Int) ≤ (300 : Int)) = !true →
    true = true ∧
    (!true) = !true ∧
    true = true ∧
    (!true) = !true ∧
    true = true ∧
    True ∧
    True ∧
    false = !true ∧
    true = true ∧
    (!true) = !true ∧
    true = true ∧
    (!true) = !true ∧
    true = true ∧
    True ∧
    True ∧
    True ∧
    ((True ∧ Sub (AV.sc (Value.bool false)) (AV.sc (Value.bool false)) ∧ True) ∧ True) ∧
    Sub (AV.sc (Value.bool false)) res ∧ SubOut [] []) from
    ⟨trivial, ⟨trivial, ⟨trivial, ⟨trivial, ⟨trivial, ⟨trivial, (And.elim (fun h6 k6 => ⟨(fun x7 => (fun h7 => ⟨⟨rfl, trivial⟩, ⟨rfl, (Exists.elim h7 fun x10 h10 => ⟨x10, (And.elim (fun h11 k11 => ⟨⟨⟨⟨trivial, ⟨trivial, ⟨trivial, ⟨trivial, trivial⟩⟩⟩⟩, ⟨trivial, trivial⟩⟩, ⟨trivial, h11⟩⟩, ⟨rfl, ⟨trivial, ⟨trivial, ⟨trivial, (And.elim (fun h16 k16 => ⟨(fun x17 => (fun h17 => ⟨trivial, ⟨rfl, ⟨trivial, ⟨rfl, ⟨trivial, ⟨trivial, ⟨trivial, ⟨trivial, ⟨⟨⟨trivial, ⟨Sub.refl _, trivial⟩⟩, trivial⟩, ((fun h27 => ⟨h27, trivial⟩) h17)⟩⟩⟩⟩⟩⟩⟩⟩⟩) (h16 x17)), (fun x17 => (fun h17 => ⟨rfl, ⟨rfl, ⟨rfl, ⟨rfl, ⟨rfl, ⟨trivial, ⟨trivial, ⟨trivial, ⟨⟨⟨trivial, ⟨Sub.refl _, trivial⟩⟩, trivial⟩, ((fun h27 => ⟨h27, trivial⟩) h17)⟩⟩⟩⟩⟩⟩⟩⟩⟩) (k16 x17))⟩) k11)⟩⟩⟩⟩⟩) h10)⟩)⟩⟩) (h6 x7)), (fun x7 => (fun h7 => ⟨rfl, ⟨rfl, ⟨rfl, ⟨rfl, ⟨rfl, ⟨trivial, ⟨trivial, ⟨rfl, ⟨rfl, ⟨rfl, ⟨rfl, ⟨rfl, ⟨rfl, ⟨trivial, ⟨trivial, ⟨trivial, ⟨⟨⟨trivial, ⟨Sub.refl _, trivial⟩⟩, trivial⟩, ((fun h25 => ⟨h25, trivial⟩) h7)⟩⟩⟩⟩⟩⟩⟩⟩⟩⟩⟩⟩⟩⟩⟩⟩⟩) (k6 x7))⟩) h)⟩⟩⟩⟩⟩⟩)
theorem hf29 : Go.Proofs.Try.prog.funcs[29]? = some Go.Proofs.Try.f29 := by kernel_rfl
abbrev s29_e (text : ByteArray) (ea : Int) (eba : Int) (ebba : ByteArray) : List (Nat × AV) := [(0, (.sc (.string text))), (1, (.cons 1 (.sc (.int .i64 ea)) (.cons 1 (.sc (.int .i64 eba)) (.cons 1 (.sc (.string ebba)) .nil))))]
abbrev m29_e (text : ByteArray) (ea : Int) (eba : Int) (ebba : ByteArray) : List (Nat × Nat × AV) := []
def L29_e (text : ByteArray) (ea : Int) (eba : Int) (ebba : ByteArray) (res : AV) : Prop := Goes ⟨Go.Proofs.Try.prog, 29, [], res, []⟩ (place Go.Proofs.Try.f29 []) (s29_e text ea eba ebba) (m29_e text ea eba ebba)
theorem a29_e (text : ByteArray) (ea : Int) (eba : Int) (ebba : ByteArray) (res : AV) (h : (∀ slot, fact (look .undef (s29_e text ea eba ebba) slot)) → L29_e text ea eba ebba res) : L29_e text ea eba ebba res :=
  assumeRule 29 [] Go.Proofs.Try.f29 hf29 [] (s29_e text ea eba ebba) (m29_e text ea eba ebba) res [] _ (by kernel_rfl) h
theorem o29 (text : ByteArray) (ea : Int) (eba : Int) (ebba : ByteArray) (res : AV) (hnew : newOnly res) (h : L29_e text ea eba ebba res) : Ok Go.Proofs.Try.prog 29 [(.sc (.string text)), (.cons 1 (.sc (.int .i64 ea)) (.cons 1 (.sc (.int .i64 eba)) (.cons 1 (.sc (.string ebba)) .nil)))] [] res [] :=
  okRule2 29 Go.Proofs.Try.f29 hf29 [(.sc (.string text)), (.cons 1 (.sc (.int .i64 ea)) (.cons 1 (.sc (.int .i64 eba)) (.cons 1 (.sc (.string ebba)) .nil)))] [] res [] [] rfl (by kernel_rfl) (by kernel_rfl) (by kernel_rfl) ⟨hnew, by simp⟩ (L29_e text ea eba ebba res) (by kernel_rfl) h
theorem r29_e (text : ByteArray) (ea : Int) (eba : Int) (ebba : ByteArray) (res : AV)
    (h : ∃ (r : Int),
  Ok Proofs.Try.prog (69 : Nat)
    [AV.sc (Value.int IntKind.i64 (↑text.size : Int)),
    AV.cons (1 : Nat) (AV.sc (Value.int IntKind.i64 ea))
    (AV.cons (1 : Nat) (AV.sc (Value.int IntKind.i64 eba)) (AV.cons (1 : Nat) (AV.sc (Value.string ebba)) AV.nil))]
    [] (AV.sc (Value.int IntKind.i64 r)) [] ∧
    ((r != (0 : Int)) = true →
    Sub (AV.cons (1 : Nat) (AV.sc (Value.string (ByteArray.mk #[]))) (AV.cons (1 : Nat) (AV.sc (Value.int IntKind.i64 r)) AV.nil)).tup res) ∧
    ((r != (0 : Int)) = false →
    ((0 : Int) ≤ (0 : Int) ∧ (0 : Int) ≤ ea ∧ ea ≤ (↑text.size : Int)) ∧
    (text.extract (Int.toNat (0 : Int)) ea.toNat).size + ebba.size ≤ (9223372036854775807 : Nat) ∧
    ((0 : Int) ≤ eba ∧ eba ≤ (↑text.size : Int) ∧ (↑text.size : Int) ≤ (↑text.size : Int)) ∧
    (text.extract (Int.toNat (0 : Int)) ea.toNat ++ ebba).size + (text.extract eba.toNat (↑text.size : Int).toNat).size ≤
    (9223372036854775807 : Nat) ∧
    Sub
    (AV.cons (1 : Nat)
    (AV.sc (Value.string (text.extract (Int.toNat (0 : Int)) ea.toNat ++ ebba ++ text.extract eba.toNat (↑text.size : Int).toNat)))
    (AV.cons (1 : Nat) (AV.sc (Value.int IntKind.i64 (0 : Int))) AV.nil)).tup
    res)) :
    L29_e text ea eba ebba res :=
  rule Go.Am.Seat.tabOk 29 [] Go.Proofs.Try.f29 hf29 [] (s29_e text ea eba ebba) (m29_e text ea eba ebba) res [] 400
    (Orc.call [] [] (fun (r69 : Int) => AV.sc (Value.int IntKind.i64 r69)) (fun (r69 : Int) => []) fun (r69 : Int) =>
  (Orc.fin (AV.cons (1 : Nat) (AV.sc (Value.string (ByteArray.mk #[]))) (AV.cons (1 : Nat) (AV.sc (Value.int IntKind.i64 r69)) AV.nil)).tup [] []).br
    (Orc.fin
    (AV.cons (1 : Nat)
    (AV.sc
    (Value.string
    (text.extract (Int.toNat (0 : Int)) (IntKind.i64, ea).snd.toNat ++ ebba ++ text.extract (IntKind.i64, eba).snd.toNat (↑text.size : Int).toNat)))
    (AV.cons (1 : Nat) (AV.sc (Value.int IntKind.i64 (0 : Int))) AV.nil)).tup
    [] [])) _ _ (by kernel_rfl) (by kernel_rfl) (show True ∧
  True ∧
    True ∧
    True ∧
    True ∧
    ((0 : Nat) = (0 : Nat) ∧ True) ∧
    ∃ (r : Int),
    ((True ∧ (True ∧ True ∧ True ∧ True) ∧ True) ∧
    True ∧
    Ok Proofs.Try.prog (69 : Nat)
    [AV.sc (Value.int IntKind.i64 (↑text.size : Int)),
    AV.cons (1 : Nat) (AV.sc (Value.int IntKind.i64 ea))
    (AV.cons (1 : Nat) (AV.sc (Value.int IntKind.i64 eba)) (AV.cons (1 : Nat) (AV.sc (Value.string ebba)) AV.nil))]
    [] (AV.sc (Value.int IntKind.i64 r)) []) ∧
    True ∧
    True ∧
    True ∧
    ((r != (0 : Int)) = true →
    True ∧
    True ∧
    True ∧
    (True ∧ True ∧ True) ∧
    (((True ∧ True ∧ True) ∧
    Sub
    (AV.cons (1 : Nat) (AV.sc (Value.string (ByteArray.mk #[])))
    (AV.cons (1 : Nat) (AV.sc (Value.int IntKind.i64 r)) AV.nil)).tup
    (AV.cons (1 : Nat) (AV.sc (Value.string (ByteArray.mk #[])))
    (AV.cons (1 : Nat) (AV.sc (Value.int IntKind.i64 r)) AV.nil)).tup ∧
    True) ∧
    True) ∧
    Sub
    (AV.cons (1 : Nat) (AV.sc (Value.string (ByteArray.mk #[])))
    (AV.cons (1 : Nat) (AV.sc (Value.int IntKind.i64 r)) AV.nil)).tup
    res ∧
    SubOut [] []) ∧
    ((r != (0 : Int)) = false →
    True ∧
    True ∧
    ((0 : Nat) = plus (0 : Nat) (0 : Nat) ∧ True) ∧
    ((0 : Int) ≤ (0 : Int) ∧ (0 : Int) ≤ ea ∧ ea ≤ (↑text.size : Int)) ∧
    True ∧
    ((1 : Nat) + ((1 : Nat) + (0 : Nat)) = plus (0 : Nat) (2 : Nat) ∧ True) ∧
    (text.extract (Int.toNat (0 : Int)) ea.toNat).size + ebba.size ≤ (9223372036854775807 : Nat) ∧
    True ∧
    True ∧
    ((1 : Nat) + (0 : Nat) = plus (0 : Nat) (1 : Nat) ∧ True) ∧
    ((0 : Int) ≤ eba ∧ eba ≤ (↑text.size : Int) ∧ (↑text.size : Int) ≤ (↑text.size : Int)) ∧
    (text.extract (Int.toNat (0 : Int)) ea.toNat ++ ebba).size +
    (text.extract eba.toNat (↑text.size : Int).toNat).size ≤
    (9223372036854775807 : Nat) ∧
    True ∧
    True ∧
    (True ∧ True ∧ True) ∧
    (((True ∧ True ∧ True) ∧
    Sub
    (AV.cons (1 : Nat)
    (AV.sc
    (Value.string
    (text.extract (Int.toNat (0 : Int)) ea.toNat ++ ebba ++
    text.extract eba.toNat (↑text.size : Int).toNat)))
    (AV.cons (1 : Nat) (AV.sc (Value.int IntKind.i64 (0 : Int))) AV.nil)).tup
    (AV.cons (1 : Nat)
    (AV.sc
    (Value.string
    (text.extract (Int.toNat (0 : Int)) ea.toNat ++ ebba ++
    text.extract eba.toNat (↑text.size : Int).toNat)))
    (AV.cons (1 : Nat) (AV.sc (Value.int IntKind.i64 (0 : Int))) AV.nil)).tup ∧
    True) ∧
    True) ∧
    Sub
    (AV.cons (1 : Nat)
    (AV.sc
    (Value.string
    (text.extract (Int.toNat (0 : Int)) ea.toNat ++ ebba ++
    text.extract eba.toNat (↑text.size : Int).toNat)))
    (AV.cons (1 : Nat) (AV.sc (Value.int IntKind.i64 (0 : Int))) AV.nil)).tup
    res ∧
    SubOut [] []) from
    ⟨trivial, ⟨trivial, ⟨trivial, ⟨trivial, ⟨trivial, ⟨⟨rfl, trivial⟩, (Exists.elim h fun x6 h6 => ⟨x6, (And.elim (fun h7 k7 => ⟨⟨⟨trivial, ⟨⟨trivial, ⟨trivial, ⟨trivial, trivial⟩⟩⟩, trivial⟩⟩, ⟨trivial, h7⟩⟩, ⟨trivial, ⟨trivial, ⟨trivial, (And.elim (fun h11 k11 => ⟨(fun x12 => (fun h12 => ⟨trivial, ⟨trivial, ⟨trivial, ⟨⟨trivial, ⟨trivial, trivial⟩⟩, ⟨⟨⟨⟨trivial, ⟨trivial, trivial⟩⟩, ⟨Sub.refl _, trivial⟩⟩, trivial⟩, ((fun h18 => ⟨h18, trivial⟩) h12)⟩⟩⟩⟩⟩) (h11 x12)), (fun x12 => (fun h12 => ⟨trivial, ⟨trivial, ⟨⟨rfl, trivial⟩, (And.elim (fun h16 k16 => ⟨(And.elim (fun h17 k17 => ⟨h17, (And.elim (fun h18 k18 => ⟨h18, k18⟩) k17)⟩) h16), ⟨trivial, ⟨⟨rfl, trivial⟩, (And.elim (fun h19 k19 => ⟨h19, ⟨trivial, ⟨trivial, ⟨⟨rfl, trivial⟩, (And.elim (fun h23 k23 => ⟨(And.elim (fun h24 k24 => ⟨h24, (And.elim (fun h25 k25 => ⟨h25, k25⟩) k24)⟩) h23), (And.elim (fun h24 k24 => ⟨h24, ⟨trivial, ⟨trivial, ⟨⟨trivial, ⟨trivial, trivial⟩⟩, ⟨⟨⟨⟨trivial, ⟨trivial, trivial⟩⟩, ⟨Sub.refl _, trivial⟩⟩, trivial⟩, ((fun h29 => ⟨h29, trivial⟩) k24)⟩⟩⟩⟩⟩) k23)⟩) k19)⟩⟩⟩⟩) k16)⟩⟩⟩) h12)⟩⟩⟩) (k11 x12))⟩) k7)⟩⟩⟩⟩) h6)⟩)⟩⟩⟩⟩⟩⟩)
theorem hf54 : Go.Proofs.Try.prog.funcs[54]? = some Go.Proofs.Try.f54 := by kernel_rfl
abbrev s54_e (da : Int) (dbaf : Nat → Int) (dbban : Nat) (dbbafn : Nat → Nat) (dbbaff : Nat → Nat → Int) (dbbban : Nat) (dbbbaf : Nat → Int) : List (Nat × AV) := [(0, (.cons 1 (.sc (.int .i64 da)) (.cons 256 (.ar 256 1 (fun i0 => (.sc (.int .u8 (dbaf i0))))) (.cons 1 (.vec true 1 dbban dbban (fun i0 => (.vec true 1 (dbbafn i0) (dbbafn i0) (fun i1 => (.sc (.int .i64 (dbbaff i0 i1))))))) (.cons 1 (.vec true 1 dbbban dbbban (fun i0 => (.sc (.int .i64 (dbbbaf i0))))) .nil)))))]
abbrev m54_e (da : Int) (dbaf : Nat → Int) (dbban : Nat) (dbbafn : Nat → Nat) (dbbaff : Nat → Nat → Int) (dbbban : Nat) (dbbbaf : Nat → Int) : List (Nat × Nat × AV) := []
def L54_e (da : Int) (dbaf : Nat → Int) (dbban : Nat) (dbbafn : Nat → Nat) (dbbaff : Nat → Nat → Int) (dbbban : Nat) (dbbbaf : Nat → Int) (res : AV) : Prop := Goes ⟨Go.Proofs.Try.prog, 54, [], res, []⟩ (place Go.Proofs.Try.f54 []) (s54_e da dbaf dbban dbbafn dbbaff dbbban dbbbaf) (m54_e da dbaf dbban dbbafn dbbaff dbbban dbbbaf)
theorem a54_e (da : Int) (dbaf : Nat → Int) (dbban : Nat) (dbbafn : Nat → Nat) (dbbaff : Nat → Nat → Int) (dbbban : Nat) (dbbbaf : Nat → Int) (res : AV) (h : (∀ slot, fact (look .undef (s54_e da dbaf dbban dbbafn dbbaff dbbban dbbbaf) slot)) → L54_e da dbaf dbban dbbafn dbbaff dbbban dbbbaf res) : L54_e da dbaf dbban dbbafn dbbaff dbbban dbbbaf res :=
  assumeRule 54 [] Go.Proofs.Try.f54 hf54 [] (s54_e da dbaf dbban dbbafn dbbaff dbbban dbbbaf) (m54_e da dbaf dbban dbbafn dbbaff dbbban dbbbaf) res [] _ (by kernel_rfl) h
abbrev s54_0 (da : Int) (dbaf : Nat → Int) (dbban : Nat) (dbbafn : Nat → Nat) (dbbaff : Nat → Nat → Int) (dbbban : Nat) (dbbbaf : Nat → Int) (k : Int) (m : Int) : List (Nat × AV) := [(1, (.ip false (.cons 1 (.sc (.int .i64 da)) (.cons 256 (.ar 256 1 (fun i0 => (.sc (.int .u8 (dbaf i0))))) (.cons 1 (.vec true 1 dbban dbban (fun i0 => (.vec true 1 (dbbafn i0) (dbbafn i0) (fun i1 => (.sc (.int .i64 (dbbaff i0 i1))))))) (.cons 1 (.vec true 1 dbbban dbbban (fun i0 => (.sc (.int .i64 (dbbbaf i0))))) .nil)))))), (3, (.sc (.int .i64 k))), (4, (.sc (.int .i64 m)))]
abbrev m54_0 (da : Int) (dbaf : Nat → Int) (dbban : Nat) (dbbafn : Nat → Nat) (dbbaff : Nat → Nat → Int) (dbbban : Nat) (dbbbaf : Nat → Int) (k : Int) (m : Int) : List (Nat × Nat × AV) := []
def L54_0 (da : Int) (dbaf : Nat → Int) (dbban : Nat) (dbbafn : Nat → Nat) (dbbaff : Nat → Nat → Int) (dbbban : Nat) (dbbbaf : Nat → Int) (k : Int) (m : Int) (res : AV) : Prop := Goes ⟨Go.Proofs.Try.prog, 54, [], res, []⟩ (place Go.Proofs.Try.f54 [1, 1, 1, 1, 1]) (s54_0 da dbaf dbban dbbafn dbbaff dbbban dbbbaf k m) (m54_0 da dbaf dbban dbbafn dbbaff dbbban dbbbaf k m)
theorem a54_0 (da : Int) (dbaf : Nat → Int) (dbban : Nat) (dbbafn : Nat → Nat) (dbbaff : Nat → Nat → Int) (dbbban : Nat) (dbbbaf : Nat → Int) (k : Int) (m : Int) (res : AV) (h : (∀ slot, fact (look .undef (s54_0 da dbaf dbban dbbafn dbbaff dbbban dbbbaf k m) slot)) → L54_0 da dbaf dbban dbbafn dbbaff dbbban dbbbaf k m res) : L54_0 da dbaf dbban dbbafn dbbaff dbbban dbbbaf k m res :=
  assumeRule 54 [] Go.Proofs.Try.f54 hf54 [1, 1, 1, 1, 1] (s54_0 da dbaf dbban dbbafn dbbaff dbbban dbbbaf k m) (m54_0 da dbaf dbban dbbafn dbbaff dbbban dbbbaf k m) res [] _ (by kernel_rfl) h
abbrev s54_1 (da : Int) (dbaf : Nat → Int) (dbban : Nat) (dbbafn : Nat → Nat) (dbbaff : Nat → Nat → Int) (dbbban : Nat) (dbbbaf : Nat → Int) (k : Int) (m : Int) (t52n : Nat) (t52fn : Nat → Nat) (t52ff : Nat → Nat → Int) (t53 : Int) (t54 : Int) : List (Nat × AV) := [(1, (.ip false (.cons 1 (.sc (.int .i64 da)) (.cons 256 (.ar 256 1 (fun i0 => (.sc (.int .u8 (dbaf i0))))) (.cons 1 (.vec true 1 dbban dbban (fun i0 => (.vec true 1 (dbbafn i0) (dbbafn i0) (fun i1 => (.sc (.int .i64 (dbbaff i0 i1))))))) (.cons 1 (.vec true 1 dbbban dbbban (fun i0 => (.sc (.int .i64 (dbbbaf i0))))) .nil)))))), (3, (.sc (.int .i64 k))), (4, (.sc (.int .i64 m))), (52, (.vec true 1 t52n t52n (fun i0 => (.vec true 1 (t52fn i0) (t52fn i0) (fun i1 => (.sc (.int .i64 (t52ff i0 i1)))))))), (53, (.sc (.int .i64 t53))), (54, (.sc (.int .i64 t54)))]
abbrev m54_1 (da : Int) (dbaf : Nat → Int) (dbban : Nat) (dbbafn : Nat → Nat) (dbbaff : Nat → Nat → Int) (dbbban : Nat) (dbbbaf : Nat → Int) (k : Int) (m : Int) (t52n : Nat) (t52fn : Nat → Nat) (t52ff : Nat → Nat → Int) (t53 : Int) (t54 : Int) : List (Nat × Nat × AV) := []
def L54_1 (da : Int) (dbaf : Nat → Int) (dbban : Nat) (dbbafn : Nat → Nat) (dbbaff : Nat → Nat → Int) (dbbban : Nat) (dbbbaf : Nat → Int) (k : Int) (m : Int) (t52n : Nat) (t52fn : Nat → Nat) (t52ff : Nat → Nat → Int) (t53 : Int) (t54 : Int) (res : AV) : Prop := Goes ⟨Go.Proofs.Try.prog, 54, [], res, []⟩ (place Go.Proofs.Try.f54 [1, 1, 1, 1, 1, 1, 0, 1, 0, 0]) (s54_1 da dbaf dbban dbbafn dbbaff dbbban dbbbaf k m t52n t52fn t52ff t53 t54) (m54_1 da dbaf dbban dbbafn dbbaff dbbban dbbbaf k m t52n t52fn t52ff t53 t54)
theorem a54_1 (da : Int) (dbaf : Nat → Int) (dbban : Nat) (dbbafn : Nat → Nat) (dbbaff : Nat → Nat → Int) (dbbban : Nat) (dbbbaf : Nat → Int) (k : Int) (m : Int) (t52n : Nat) (t52fn : Nat → Nat) (t52ff : Nat → Nat → Int) (t53 : Int) (t54 : Int) (res : AV) (h : (∀ slot, fact (look .undef (s54_1 da dbaf dbban dbbafn dbbaff dbbban dbbbaf k m t52n t52fn t52ff t53 t54) slot)) → L54_1 da dbaf dbban dbbafn dbbaff dbbban dbbbaf k m t52n t52fn t52ff t53 t54 res) : L54_1 da dbaf dbban dbbafn dbbaff dbbban dbbbaf k m t52n t52fn t52ff t53 t54 res :=
  assumeRule 54 [] Go.Proofs.Try.f54 hf54 [1, 1, 1, 1, 1, 1, 0, 1, 0, 0] (s54_1 da dbaf dbban dbbafn dbbaff dbbban dbbbaf k m t52n t52fn t52ff t53 t54) (m54_1 da dbaf dbban dbbafn dbbaff dbbban dbbbaf k m t52n t52fn t52ff t53 t54) res [] _ (by kernel_rfl) h
theorem o54 (da : Int) (dbaf : Nat → Int) (dbban : Nat) (dbbafn : Nat → Nat) (dbbaff : Nat → Nat → Int) (dbbban : Nat) (dbbbaf : Nat → Int) (res : AV) (hnew : newOnly res) (h : L54_e da dbaf dbban dbbafn dbbaff dbbban dbbbaf res) : Ok Go.Proofs.Try.prog 54 [(.cons 1 (.sc (.int .i64 da)) (.cons 256 (.ar 256 1 (fun i0 => (.sc (.int .u8 (dbaf i0))))) (.cons 1 (.vec true 1 dbban dbban (fun i0 => (.vec true 1 (dbbafn i0) (dbbafn i0) (fun i1 => (.sc (.int .i64 (dbbaff i0 i1))))))) (.cons 1 (.vec true 1 dbbban dbbban (fun i0 => (.sc (.int .i64 (dbbbaf i0))))) .nil))))] [] res [] :=
  okRule2 54 Go.Proofs.Try.f54 hf54 [(.cons 1 (.sc (.int .i64 da)) (.cons 256 (.ar 256 1 (fun i0 => (.sc (.int .u8 (dbaf i0))))) (.cons 1 (.vec true 1 dbban dbban (fun i0 => (.vec true 1 (dbbafn i0) (dbbafn i0) (fun i1 => (.sc (.int .i64 (dbbaff i0 i1))))))) (.cons 1 (.vec true 1 dbbban dbbban (fun i0 => (.sc (.int .i64 (dbbbaf i0))))) .nil))))] [] res [] [] rfl (by kernel_rfl) (by kernel_rfl) (by kernel_rfl) ⟨hnew, by simp⟩ (L54_e da dbaf dbban dbbafn dbbaff dbbban dbbbaf res) (by kernel_rfl) h
theorem r54_e (da : Int) (dbaf : Nat → Int) (dbban : Nat) (dbbafn : Nat → Nat) (dbbaff : Nat → Nat → Int) (dbbban : Nat) (dbbbaf : Nat → Int) (res : AV)
    (h : (decide
    ((if true = true then if (↑dbbban : Int) > (↑dbban : Int) then (↑dbbban : Int) else (↑dbban : Int)
    else if (↑dbbban : Int) < (↑dbban : Int) then (↑dbbban : Int) else (↑dbban : Int)) >
    (2048 : Int)) =
    true →
    Sub (AV.sc (Value.int IntKind.i64 (3 : Int))) res) ∧
  (decide
    ((if true = true then if (↑dbbban : Int) > (↑dbban : Int) then (↑dbbban : Int) else (↑dbban : Int)
    else if (↑dbbban : Int) < (↑dbban : Int) then (↑dbbban : Int) else (↑dbban : Int)) >
    (2048 : Int)) =
    false →
    (((↑dbban : Int) == (0 : Int)) = false →
    (((↑dbbban : Int) != (↑dbban : Int)) = false →
    (decide (da < (0 : Int)) = false →
    (decide (da ≥ (↑dbban : Int)) = true → Sub (AV.sc (Value.int IntKind.i64 (2 : Int))) res) ∧
    (decide (da ≥ (↑dbban : Int)) = false →
    ((0 : Int) ≤ (0 : Int) ∧ (0 : Int) < (↑dbban : Int)) ∧
    L54_0 da dbaf dbban dbbafn dbbaff dbbban dbbbaf (↑dbban : Int) (↑(dbbafn (Int.toNat (0 : Int))) : Int) res)) ∧
    (decide (da < (0 : Int)) = !false → Sub (AV.sc (Value.int IntKind.i64 (2 : Int))) res)) ∧
    (((↑dbbban : Int) != (↑dbban : Int)) = !false → Sub (AV.sc (Value.int IntKind.i64 (2 : Int))) res)) ∧
    (((↑dbban : Int) == (0 : Int)) = !false → Sub (AV.sc (Value.int IntKind.i64 (2 : Int))) res))) :
    L54_e da dbaf dbban dbbafn dbbaff dbbban dbbbaf res :=
  rule Go.Am.Seat.tabOk 54 [] Go.Proofs.Try.f54 hf54 [] (s54_e da dbaf dbban dbbafn dbbaff dbbban dbbbaf) (m54_e da dbaf dbban dbbafn dbbaff dbbban dbbbaf) res [] 400
    ((Orc.fin (AV.sc (Value.int IntKind.i64 (3 : Int))) [] []).br
  (((((Orc.fin (AV.sc (Value.int IntKind.i64 (2 : Int))) [] []).br
    (Orc.cut (nat_lit 3) (s54_0 da dbaf dbban dbbafn dbbaff dbbban dbbbaf (↑dbban : Int) (↑(dbbafn (Int.toNat (0 : Int))) : Int))
    (m54_0 da dbaf dbban dbbafn dbbaff dbbban dbbbaf (↑dbban : Int) (↑(dbbafn (Int.toNat (0 : Int))) : Int)) [])).yes.yes.yes.br
    (Orc.fin (AV.sc (Value.int IntKind.i64 (2 : Int))) [] []).yes.no.no.no).yes.yes.br
    (Orc.fin (AV.sc (Value.int IntKind.i64 (2 : Int))) [] []).yes.no.no.no.no.no.no).yes.yes.yes.yes.br
    (Orc.fin (AV.sc (Value.int IntKind.i64 (2 : Int))) [] []).yes.no.no.no.no.no.no.no.no.no.no.no)) _ _ (by kernel_rfl) (by kernel_rfl) (show True ∧
  True ∧
    True ∧
    ((1 : Nat) + ((256 : Nat) + (0 : Nat)) = plus (0 : Nat) (257 : Nat) ∧ True) ∧
    True ∧
    True ∧
    True ∧
    True ∧
    ((1 : Nat) + ((256 : Nat) + ((1 : Nat) + (0 : Nat))) = plus (0 : Nat) (258 : Nat) ∧ True) ∧
    True ∧
    True ∧
    True ∧
    (decide
    ((if true = true then if (↑dbbban : Int) > (↑dbban : Int) then (↑dbbban : Int) else (↑dbban : Int)
    else if (↑dbbban : Int) < (↑dbban : Int) then (↑dbbban : Int) else (↑dbban : Int)) >
    (2048 : Int)) =
    true →
    True ∧
    True ∧
    ((True ∧ Sub (AV.sc (Value.int IntKind.i64 (3 : Int))) (AV.sc (Value.int IntKind.i64 (3 : Int))) ∧ True) ∧ True) ∧
    Sub (AV.sc (Value.int IntKind.i64 (3 : Int))) res ∧ SubOut [] []) ∧
    (decide
    ((if true = true then if (↑dbbban : Int) > (↑dbban : Int) then (↑dbbban : Int) else (↑dbban : Int)
    else if (↑dbbban : Int) < (↑dbban : Int) then (↑dbbban : Int) else (↑dbban : Int)) >
    (2048 : Int)) =
    false →
    True ∧
    True ∧
    True ∧
    (((↑dbban : Int) == (0 : Int)) = false →
    True ∧
    false = false ∧
    ((1 : Nat) + ((256 : Nat) + ((1 : Nat) + (0 : Nat))) = plus (0 : Nat) (258 : Nat) ∧ True) ∧
    false = false ∧
    True ∧
    false = false ∧
    True ∧
    false = false ∧
    True ∧
    True ∧
    True ∧
    (((↑dbbban : Int) != (↑dbban : Int)) = false →
    True ∧
    false = false ∧
    ((0 : Nat) = plus (0 : Nat) (0 : Nat) ∧ True) ∧
    false = false ∧
    True ∧
    True ∧
    True ∧
    (decide (da < (0 : Int)) = false →
    True ∧
    false = false ∧
    ((0 : Nat) = plus (0 : Nat) (0 : Nat) ∧ True) ∧
    false = false ∧
    True ∧
    false = false ∧
    True ∧
    True ∧
    (decide (da ≥ (↑dbban : Int)) = true →
    True ∧
    True ∧
    ((True ∧
    Sub (AV.sc (Value.int IntKind.i64 (2 : Int)))
    (AV.sc (Value.int IntKind.i64 (2 : Int))) ∧
    True) ∧
    True) ∧
    Sub (AV.sc (Value.int IntKind.i64 (2 : Int))) res ∧
    SubOut [] []) ∧
    (decide (da ≥ (↑dbban : Int)) = false →
    True ∧
    ((1 : Nat) + ((256 : Nat) + (0 : Nat)) =
    plus (0 : Nat) (257 : Nat) ∧
    True) ∧
    ((0 : Int) ≤ (0 : Int) ∧ (0 : Int) < (↑dbban : Int)) ∧
    True ∧
    True ∧
    True ∧
    ((((0 : Nat) = (0 : Nat) ∧ True) ∧
    Sub
    (AV.ip false
    (AV.cons (1 : Nat)
    (AV.sc
    (Value.int IntKind.i64 da))
    (AV.cons (256 : Nat)
    (AV.ar (256 : Nat) (1 : Nat)
    fun (i0 : Nat) =>
    AV.sc
    (Value.int IntKind.u8
    (dbaf i0)))
    (AV.cons (1 : Nat)
    (AV.vec true (1 : Nat) dbban
    dbban fun (i0 : Nat) =>
    AV.vec true (1 : Nat)
    (dbbafn i0) (dbbafn i0)
    fun (i1 : Nat) =>
    AV.sc
    (Value.int IntKind.i64
    (dbbaff i0 i1)))
    (AV.cons (1 : Nat)
    (AV.vec true (1 : Nat)
    dbbban dbbban
    fun (i0 : Nat) =>
    AV.sc
    (Value.int IntKind.i64
    (dbbbaf i0)))
    AV.nil)))))
    (AV.ip false
    (AV.cons (1 : Nat)
    (AV.sc
    (Value.int IntKind.i64 da))
    (AV.cons (256 : Nat)
    (AV.ar (256 : Nat) (1 : Nat)
    fun (i0 : Nat) =>
    AV.sc
    (Value.int IntKind.u8
    (dbaf i0)))
    (AV.cons (1 : Nat)
    (AV.vec true (1 : Nat) dbban
    dbban fun (i0 : Nat) =>
    AV.vec true (1 : Nat)
    (dbbafn i0) (dbbafn i0)
    fun (i1 : Nat) =>
    AV.sc
    (Value.int IntKind.i64
    (dbbaff i0 i1)))
    (AV.cons (1 : Nat)
    (AV.vec true (1 : Nat)
    dbbban dbbban
    fun (i0 : Nat) =>
    AV.sc
    (Value.int IntKind.i64
    (dbbbaf i0)))
    AV.nil))))) ∧
    True ∧
    Sub
    (AV.sc
    (Value.int IntKind.i64
    (↑dbban : Int)))
    (AV.sc
    (Value.int IntKind.i64
    (↑dbban : Int))) ∧
    True ∧
    Sub
    (AV.sc
    (Value.int IntKind.i64
    (↑(dbbafn
    (Int.toNat
    (0 : Int))) :
    Int)))
    (AV.sc
    (Value.int IntKind.i64
    (↑(dbbafn
    (Int.toNat
    (0 : Int))) :
    Int))) ∧
    True) ∧
    True) ∧
    L54_0 da dbaf dbban dbbafn dbbaff dbbban
    dbbbaf (↑dbban : Int)
    (↑(dbbafn (Int.toNat (0 : Int))) : Int)
    res)) ∧
    (decide (da < (0 : Int)) = !false →
    true = true ∧
    (!false) = !false ∧
    true = true ∧
    (!false) = !false ∧
    true = true ∧
    (!false) = !false ∧
    true = true ∧
    True ∧
    true = true ∧
    True ∧
    True ∧
    ((True ∧
    Sub (AV.sc (Value.int IntKind.i64 (2 : Int)))
    (AV.sc (Value.int IntKind.i64 (2 : Int))) ∧
    True) ∧
    True) ∧
    Sub (AV.sc (Value.int IntKind.i64 (2 : Int))) res ∧
    SubOut [] [])) ∧
    (((↑dbbban : Int) != (↑dbban : Int)) = !false →
    true = true ∧
    (!false) = !false ∧
    true = true ∧
    (!false) = !false ∧
    true = true ∧
    True ∧
    True ∧
    true = !false ∧
    true = true ∧
    (!false) = !false ∧
    true = true ∧
    (!false) = !false ∧
    true = true ∧
    (!false) = !false ∧
    true = true ∧
    True ∧
    true = true ∧
    True ∧
    True ∧
    ((True ∧
    Sub (AV.sc (Value.int IntKind.i64 (2 : Int)))
    (AV.sc (Value.int IntKind.i64 (2 : Int))) ∧
    True) ∧
    True) ∧
    Sub (AV.sc (Value.int IntKind.i64 (2 : Int))) res ∧
    SubOut [] [])) ∧
    (((↑dbban : Int) == (0 : Int)) = !false →
    true = true ∧
    (!false) = !false ∧
    true = true ∧
    (!false) = !false ∧
    true = true ∧
    (!false) = !false ∧
    true = true ∧
    (!false) = !false ∧
    true = true ∧
    True ∧
    True ∧
    true = !false ∧
    true = true ∧
    (!false) = !false ∧
    true = true ∧
    (!false) = !false ∧
    true = true ∧
    True ∧
    True ∧
    true = !false ∧
    true = true ∧
    (!false) = !false ∧
    true = true ∧
    (!false) = !false ∧
    true = true ∧
    (!false) = !false ∧
    true = true ∧
    True ∧
    true = true ∧
    True ∧
    True ∧
    ((True ∧
    Sub (AV.sc (Value.int IntKind.i64 (2 : Int)))
    (AV.sc (Value.int IntKind.i64 (2 : Int))) ∧
    True) ∧
    True) ∧
    Sub (AV.sc (Value.int IntKind.i64 (2 : Int))) res ∧
    SubOut [] [])) from
    ⟨trivial, ⟨trivial, ⟨trivial, ⟨⟨rfl, trivial⟩, ⟨trivial, ⟨trivial, ⟨trivial, ⟨trivial, ⟨⟨rfl, trivial⟩, ⟨trivial, ⟨trivial, ⟨trivial, (And.elim (fun h12 k12 => ⟨(fun x13 => (fun h13 => ⟨trivial, ⟨trivial, ⟨⟨⟨trivial, ⟨Sub.refl _, trivial⟩⟩, trivial⟩, ((fun h17 => ⟨h17, trivial⟩) h13)⟩⟩⟩) (h12 x13)), (fun x13 => (fun h13 => ⟨trivial, ⟨trivial, ⟨trivial, (And.elim (fun h17 k17 => ⟨(fun x18 => (fun h18 => ⟨trivial, ⟨rfl, ⟨⟨rfl, trivial⟩, ⟨rfl, ⟨trivial, ⟨rfl, ⟨trivial, ⟨rfl, ⟨trivial, ⟨trivial, ⟨trivial, (And.elim (fun h30 k30 => ⟨(fun x31 => (fun h31 => ⟨trivial, ⟨rfl, ⟨⟨rfl, trivial⟩, ⟨rfl, ⟨trivial, ⟨trivial, ⟨trivial, (And.elim (fun h39 k39 => ⟨(fun x40 => (fun h40 => ⟨trivial, ⟨rfl, ⟨⟨rfl, trivial⟩, ⟨rfl, ⟨trivial, ⟨rfl, ⟨trivial, ⟨trivial, (And.elim (fun h49 k49 => ⟨(fun x50 => (fun h50 => ⟨trivial, ⟨trivial, ⟨⟨⟨trivial, ⟨Sub.refl _, trivial⟩⟩, trivial⟩, ((fun h54 => ⟨h54, trivial⟩) h50)⟩⟩⟩) (h49 x50)), (fun x50 => (fun h50 => ⟨trivial, ⟨⟨rfl, trivial⟩, (And.elim (fun h53 k53 => ⟨(And.elim (fun h54 k54 => ⟨h54, k54⟩) h53), ⟨trivial, ⟨trivial, ⟨trivial, ⟨⟨⟨⟨rfl, trivial⟩, ⟨Sub.refl _, ⟨trivial, ⟨Sub.refl _, ⟨trivial, ⟨Sub.refl _, trivial⟩⟩⟩⟩⟩⟩, trivial⟩, k53⟩⟩⟩⟩⟩) h50)⟩⟩) (k49 x50))⟩) h40)⟩⟩⟩⟩⟩⟩⟩⟩) (h39 x40)), (fun x40 => (fun h40 => ⟨rfl, ⟨rfl, ⟨rfl, ⟨rfl, ⟨rfl, ⟨rfl, ⟨rfl, ⟨trivial, ⟨rfl, ⟨trivial, ⟨trivial, ⟨⟨⟨trivial, ⟨Sub.refl _, trivial⟩⟩, trivial⟩, ((fun h53 => ⟨h53, trivial⟩) h40)⟩⟩⟩⟩⟩⟩⟩⟩⟩⟩⟩⟩) (k39 x40))⟩) h31)⟩⟩⟩⟩⟩⟩⟩) (h30 x31)), (fun x31 => (fun h31 => ⟨rfl, ⟨rfl, ⟨rfl, ⟨rfl, ⟨rfl, ⟨trivial, ⟨trivial, ⟨rfl, ⟨rfl, ⟨rfl, ⟨rfl, ⟨rfl, ⟨rfl, ⟨rfl, ⟨rfl, ⟨trivial, ⟨rfl, ⟨trivial, ⟨trivial, ⟨⟨⟨trivial, ⟨Sub.refl _, trivial⟩⟩, trivial⟩, ((fun h52 => ⟨h52, trivial⟩) h31)⟩⟩⟩⟩⟩⟩⟩⟩⟩⟩⟩⟩⟩⟩⟩⟩⟩⟩⟩⟩) (k30 x31))⟩) h18)⟩⟩⟩⟩⟩⟩⟩⟩⟩⟩⟩) (h17 x18)), (fun x18 => (fun h18 => ⟨rfl, ⟨rfl, ⟨rfl, ⟨rfl, ⟨rfl, ⟨rfl, ⟨rfl, ⟨rfl, ⟨rfl, ⟨trivial, ⟨trivial, ⟨rfl, ⟨rfl, ⟨rfl, ⟨rfl, ⟨rfl, ⟨rfl, ⟨trivial, ⟨trivial, ⟨rfl, ⟨rfl, ⟨rfl, ⟨rfl, ⟨rfl, ⟨rfl, ⟨rfl, ⟨rfl, ⟨trivial, ⟨rfl, ⟨trivial, ⟨trivial, ⟨⟨⟨trivial, ⟨Sub.refl _, trivial⟩⟩, trivial⟩, ((fun h51 => ⟨h51, trivial⟩) h18)⟩⟩⟩⟩⟩⟩⟩⟩⟩⟩⟩⟩⟩⟩⟩⟩⟩⟩⟩⟩⟩⟩⟩⟩⟩⟩⟩⟩⟩⟩⟩⟩) (k17 x18))⟩) h13)⟩⟩⟩) (k12 x13))⟩) h)⟩⟩⟩⟩⟩⟩⟩⟩⟩⟩⟩⟩)
theorem r54_0 (da : Int) (dbaf : Nat → Int) (dbban : Nat) (dbbafn : Nat → Nat) (dbbaff : Nat → Nat → Int) (dbbban : Nat) (dbbbaf : Nat → Int) (k : Int) (m : Int) (res : AV)
    (h : (decide (m > (256 : Int)) = false →
    (256 : Nat) ≤ maxLen ∧
    ∃ (r : Int),
    Ok Proofs.Try.prog (90 : Nat) [AV.vec true (1 : Nat) (256 : Nat) (256 : Nat) fun (i : Nat) => AV.sc (Value.int IntKind.u8 (dbaf i))] []
    (AV.sc (Value.int IntKind.u8 r)) [] ∧
    (decide (m ≤ IntKind.i64.wrap r) = true → Sub (AV.sc (Value.int IntKind.i64 (2 : Int))) res) ∧
    (decide (m ≤ IntKind.i64.wrap r) = false → L54_1 da dbaf dbban dbbafn dbbaff dbbban dbbbaf k m dbban dbbafn dbbaff (↑dbban : Int) (0 : Int) res)) ∧
  (decide (m > (256 : Int)) = !false → Sub (AV.sc (Value.int IntKind.i64 (2 : Int))) res)) :
    L54_0 da dbaf dbban dbbafn dbbaff dbbban dbbbaf k m res :=
  rule Go.Am.Seat.tabOk 54 [] Go.Proofs.Try.f54 hf54 [1, 1, 1, 1, 1] (s54_0 da dbaf dbban dbbafn dbbaff dbbban dbbbaf k m) (m54_0 da dbaf dbban dbbafn dbbaff dbbban dbbbaf k m) res [] 400
    ((Orc.call [] [] (fun (r90 : Int) => AV.sc (Value.int IntKind.u8 r90)) (fun (r90 : Int) => []) fun (r90 : Int) =>
    ((Orc.fin (AV.sc (Value.int IntKind.i64 (2 : Int))) [] []).br
    (Orc.cut (nat_lit 6) (s54_1 da dbaf dbban dbbafn dbbaff dbbban dbbbaf k m dbban dbbafn dbbaff (↑dbban : Int) (0 : Int))
    (m54_1 da dbaf dbban dbbafn dbbaff dbbban dbbbaf k m dbban dbbafn dbbaff (↑dbban : Int) (0 : Int)) [])).yes.yes).yes.yes.yes.br
  (Orc.fin (AV.sc (Value.int IntKind.i64 (2 : Int))) [] []).yes.no.no.no.no.no) _ _ (by kernel_rfl) (by kernel_rfl) (show True ∧
  True ∧
    True ∧
    (decide (m > (256 : Int)) = false →
    True ∧
    false = false ∧
    True ∧
    false = false ∧
    (256 : Nat) ≤ maxLen ∧
    false = false ∧
    ∃ (r : Int),
    ((True ∧ True) ∧
    True ∧
    Ok Proofs.Try.prog (90 : Nat)
    [AV.vec true (1 : Nat) (256 : Nat) (256 : Nat) fun (i : Nat) => AV.sc (Value.int IntKind.u8 (dbaf i))] []
    (AV.sc (Value.int IntKind.u8 r)) []) ∧
    false = false ∧
    True ∧
    false = false ∧
    True ∧
    True ∧
    (decide (m ≤ IntKind.i64.wrap r) = true →
    True ∧
    True ∧
    ((True ∧ Sub (AV.sc (Value.int IntKind.i64 (2 : Int))) (AV.sc (Value.int IntKind.i64 (2 : Int))) ∧ True) ∧ True) ∧
    Sub (AV.sc (Value.int IntKind.i64 (2 : Int))) res ∧ SubOut [] []) ∧
    (decide (m ≤ IntKind.i64.wrap r) = false →
    True ∧
    True ∧
    True ∧
    True ∧
    ((True ∧
    Sub
    (AV.ip false
    (AV.cons (1 : Nat) (AV.sc (Value.int IntKind.i64 da))
    (AV.cons (256 : Nat)
    (AV.ar (256 : Nat) (1 : Nat) fun (i0 : Nat) => AV.sc (Value.int IntKind.u8 (dbaf i0)))
    (AV.cons (1 : Nat)
    (AV.vec true (1 : Nat) dbban dbban fun (i0 : Nat) =>
    AV.vec true (1 : Nat) (dbbafn i0) (dbbafn i0) fun (i1 : Nat) =>
    AV.sc (Value.int IntKind.i64 (dbbaff i0 i1)))
    (AV.cons (1 : Nat)
    (AV.vec true (1 : Nat) dbbban dbbban fun (i0 : Nat) =>
    AV.sc (Value.int IntKind.i64 (dbbbaf i0)))
    AV.nil)))))
    (AV.ip false
    (AV.cons (1 : Nat) (AV.sc (Value.int IntKind.i64 da))
    (AV.cons (256 : Nat)
    (AV.ar (256 : Nat) (1 : Nat) fun (i0 : Nat) => AV.sc (Value.int IntKind.u8 (dbaf i0)))
    (AV.cons (1 : Nat)
    (AV.vec true (1 : Nat) dbban dbban fun (i0 : Nat) =>
    AV.vec true (1 : Nat) (dbbafn i0) (dbbafn i0) fun (i1 : Nat) =>
    AV.sc (Value.int IntKind.i64 (dbbaff i0 i1)))
    (AV.cons (1 : Nat)
    (AV.vec true (1 : Nat) dbbban dbbban fun (i0 : Nat) =>
    AV.sc (Value.int IntKind.i64 (dbbbaf i0)))
    AV.nil))))) ∧
    True ∧
    Sub (AV.sc (Value.int IntKind.i64 k)) (AV.sc (Value.int IntKind.i64 k)) ∧
    True ∧
    Sub (AV.sc (Value.int IntKind.i64 m)) (AV.sc (Value.int IntKind.i64 m)) ∧
    True ∧
    Sub
    (AV.vec true (1 : Nat) dbban dbban fun (i0 : Nat) =>
    AV.vec true (1 : Nat) (dbbafn i0) (dbbafn i0) fun (i1 : Nat) =>
    AV.sc (Value.int IntKind.i64 (dbbaff i0 i1)))
    (AV.vec true (1 : Nat) dbban dbban fun (i0 : Nat) =>
    AV.vec true (1 : Nat) (dbbafn i0) (dbbafn i0) fun (i1 : Nat) =>
    AV.sc (Value.int IntKind.i64 (dbbaff i0 i1))) ∧
    True ∧
    Sub (AV.sc (Value.int IntKind.i64 (↑dbban : Int)))
    (AV.sc (Value.int IntKind.i64 (↑dbban : Int))) ∧
    True ∧
    Sub (AV.sc (Value.int IntKind.i64 (0 : Int)))
    (AV.sc (Value.int IntKind.i64 (0 : Int))) ∧
    True) ∧
    True) ∧
    L54_1 da dbaf dbban dbbafn dbbaff dbbban dbbbaf k m dbban dbbafn dbbaff (↑dbban : Int) (0 : Int) res)) ∧
    (decide (m > (256 : Int)) = !false →
    true = true ∧
    (!false) = !false ∧
    true = true ∧
    (!false) = !false ∧
    true = true ∧
    (!false) = !false ∧
    true = true ∧
    (!false) = !false ∧
    true = true ∧
    (!false) = !false ∧
    true = true ∧
    True ∧
    true = true ∧
    True ∧
    True ∧
    ((True ∧ Sub (AV.sc (Value.int IntKind.i64 (2 : Int))) (AV.sc (Value.int IntKind.i64 (2 : Int))) ∧ True) ∧ True) ∧
    Sub (AV.sc (Value.int IntKind.i64 (2 : Int))) res ∧ SubOut [] []) from
    ⟨trivial, ⟨trivial, ⟨trivial, (And.elim (fun h3 k3 => ⟨(fun x4 => (fun h4 => ⟨trivial, ⟨rfl, ⟨trivial, ⟨rfl, (And.elim (fun h9 k9 => ⟨h9, ⟨rfl, (Exists.elim k9 fun x11 h11 => ⟨x11, (And.elim (fun h12 k12 => ⟨⟨⟨trivial, trivial⟩, ⟨trivial, h12⟩⟩, ⟨rfl, ⟨trivial, ⟨rfl, ⟨trivial, ⟨trivial, (And.elim (fun h18 k18 => ⟨(fun x19 => (fun h19 => ⟨trivial, ⟨trivial, ⟨⟨⟨trivial, ⟨Sub.refl _, trivial⟩⟩, trivial⟩, ((fun h23 => ⟨h23, trivial⟩) h19)⟩⟩⟩) (h18 x19)), (fun x19 => (fun h19 => ⟨trivial, ⟨trivial, ⟨trivial, ⟨trivial, ⟨⟨⟨trivial, ⟨Sub.refl _, ⟨trivial, ⟨Sub.refl _, ⟨trivial, ⟨Sub.refl _, ⟨trivial, ⟨Sub.refl _, ⟨trivial, ⟨Sub.refl _, ⟨trivial, ⟨Sub.refl _, trivial⟩⟩⟩⟩⟩⟩⟩⟩⟩⟩⟩⟩, trivial⟩, h19⟩⟩⟩⟩⟩) (k18 x19))⟩) k12)⟩⟩⟩⟩⟩⟩) h11)⟩)⟩⟩) h4)⟩⟩⟩⟩) (h3 x4)), (fun x4 => (fun h4 => ⟨rfl, ⟨rfl, ⟨rfl, ⟨rfl, ⟨rfl, ⟨rfl, ⟨rfl, ⟨rfl, ⟨rfl, ⟨rfl, ⟨rfl, ⟨trivial, ⟨rfl, ⟨trivial, ⟨trivial, ⟨⟨⟨trivial, ⟨Sub.refl _, trivial⟩⟩, trivial⟩, ((fun h21 => ⟨h21, trivial⟩) h4)⟩⟩⟩⟩⟩⟩⟩⟩⟩⟩⟩⟩⟩⟩⟩⟩) (k3 x4))⟩) h)⟩⟩⟩)
theorem r54_1 (da : Int) (dbaf : Nat → Int) (dbban : Nat) (dbbafn : Nat → Nat) (dbbaff : Nat → Nat → Int) (dbbban : Nat) (dbbbaf : Nat → Int) (k : Int) (m : Int) (t52n : Nat) (t52fn : Nat → Nat) (t52ff : Nat → Nat → Int) (t53 : Int) (t54 : Int) (res : AV)
    (h : (decide (t54 < t53) = true →
    ((0 : Int) ≤ t54 ∧ t54 < (↑t52n : Int)) ∧
    (((↑(t52fn t54.toNat) : Int) != m) = false →
    ∃ (r : Int),
    Ok Proofs.Try.prog (91 : Nat)
    [AV.vec true (1 : Nat) (t52fn t54.toNat) (t52fn t54.toNat) fun (i : Nat) => AV.sc (Value.int IntKind.i64 (t52ff t54.toNat i))] []
    (AV.sc (Value.int IntKind.i64 r)) [] ∧
    (decide (r ≥ k) = false →
    ((0 : Int) ≤ t54 ∧ t54 < (↑dbbban : Int)) ∧
    (decide (dbbbaf t54.toNat ≥ (48 : Int)) = true → Sub (AV.sc (Value.int IntKind.i64 (2 : Int))) res) ∧
    (decide (dbbbaf t54.toNat ≥ (48 : Int)) = false →
    L54_1 da dbaf dbban dbbafn dbbaff dbbban dbbbaf k m t52n t52fn t52ff t53 (IntKind.i64.wrap (t54 + (1 : Int))) res)) ∧
    (decide (r ≥ k) = !false → Sub (AV.sc (Value.int IntKind.i64 (2 : Int))) res)) ∧
    (((↑(t52fn t54.toNat) : Int) != m) = !false → Sub (AV.sc (Value.int IntKind.i64 (2 : Int))) res)) ∧
  (decide (t54 < t53) = false → Sub (AV.sc (Value.int IntKind.i64 (0 : Int))) res)) :
    L54_1 da dbaf dbban dbbafn dbbaff dbbban dbbbaf k m t52n t52fn t52ff t53 t54 res :=
  rule Go.Am.Seat.tabOk 54 [] Go.Proofs.Try.f54 hf54 [1, 1, 1, 1, 1, 1, 0, 1, 0, 0] (s54_1 da dbaf dbban dbbafn dbbaff dbbban dbbbaf k m t52n t52fn t52ff t53 t54) (m54_1 da dbaf dbban dbbafn dbbaff dbbban dbbbaf k m t52n t52fn t52ff t53 t54) res [] 400
    (((Orc.call [] [] (fun (r91 : Int) => AV.sc (Value.int IntKind.i64 r91)) (fun (r91 : Int) => []) fun (r91 : Int) =>
    (((Orc.fin (AV.sc (Value.int IntKind.i64 (2 : Int))) [] []).br
    (Orc.cut (nat_lit 4)
    (s54_1 da dbaf dbban dbbafn dbbaff dbbban dbbbaf k m t52n t52fn t52ff t53 (IntKind.i64.wrap (t54 + (1 : Int))))
    (m54_1 da dbaf dbban dbbafn dbbaff dbbban dbbbaf k m t52n t52fn t52ff t53 (IntKind.i64.wrap (t54 + (1 : Int))))
    [])).yes.yes.yes.yes.yes.br
    (Orc.fin (AV.sc (Value.int IntKind.i64 (2 : Int))) [] []).yes.no.no.no.no.no).yes.yes).yes.br
    (Orc.fin (AV.sc (Value.int IntKind.i64 (2 : Int))) [] []).yes.no.no.no.no.no.no.no.no.no).br
  (Orc.fin (AV.sc (Value.int IntKind.i64 (0 : Int))) [] [])) _ _ (by kernel_rfl) (by kernel_rfl) (show True ∧
  (decide (t54 < t53) = true →
    True ∧
    ((0 : Int) ≤ t54 ∧ t54 < (↑t52n : Int)) ∧
    True ∧
    True ∧
    True ∧
    True ∧
    True ∧
    True ∧
    True ∧
    True ∧
    (((↑(t52fn t54.toNat) : Int) != m) = false →
    True ∧
    false = false ∧
    ∃ (r : Int),
    ((True ∧ True) ∧
    True ∧
    Ok Proofs.Try.prog (91 : Nat)
    [AV.vec true (1 : Nat) (t52fn t54.toNat) (t52fn t54.toNat) fun (i : Nat) =>
    AV.sc (Value.int IntKind.i64 (t52ff t54.toNat i))]
    [] (AV.sc (Value.int IntKind.i64 r)) []) ∧
    false = false ∧
    True ∧
    false = false ∧
    True ∧
    True ∧
    True ∧
    (decide (r ≥ k) = false →
    True ∧
    false = false ∧
    True ∧
    false = false ∧
    True ∧
    false = false ∧
    ((0 : Int) ≤ t54 ∧ t54 < (↑dbbban : Int)) ∧
    false = false ∧
    True ∧
    false = false ∧
    True ∧
    True ∧
    (decide (dbbbaf t54.toNat ≥ (48 : Int)) = true →
    True ∧
    True ∧
    ((True ∧
    Sub (AV.sc (Value.int IntKind.i64 (2 : Int)))
    (AV.sc (Value.int IntKind.i64 (2 : Int))) ∧
    True) ∧
    True) ∧
    Sub (AV.sc (Value.int IntKind.i64 (2 : Int))) res ∧ SubOut [] []) ∧
    (decide (dbbbaf t54.toNat ≥ (48 : Int)) = false →
    True ∧
    True ∧
    ((True ∧
    Sub
    (AV.ip false
    (AV.cons (1 : Nat) (AV.sc (Value.int IntKind.i64 da))
    (AV.cons (256 : Nat)
    (AV.ar (256 : Nat) (1 : Nat) fun (i0 : Nat) =>
    AV.sc (Value.int IntKind.u8 (dbaf i0)))
    (AV.cons (1 : Nat)
    (AV.vec true (1 : Nat) dbban dbban fun (i0 : Nat) =>
    AV.vec true (1 : Nat) (dbbafn i0) (dbbafn i0)
    fun (i1 : Nat) =>
    AV.sc (Value.int IntKind.i64 (dbbaff i0 i1)))
    (AV.cons (1 : Nat)
    (AV.vec true (1 : Nat) dbbban dbbban fun (i0 : Nat) =>
    AV.sc (Value.int IntKind.i64 (dbbbaf i0)))
    AV.nil)))))
    (AV.ip false
    (AV.cons (1 : Nat) (AV.sc (Value.int IntKind.i64 da))
    (AV.cons (256 : Nat)
    (AV.ar (256 : Nat) (1 : Nat) fun (i0 : Nat) =>
    AV.sc (Value.int IntKind.u8 (dbaf i0)))
    (AV.cons (1 : Nat)
    (AV.vec true (1 : Nat) dbban dbban fun (i0 : Nat) =>
    AV.vec true (1 : Nat) (dbbafn i0) (dbbafn i0)
    fun (i1 : Nat) =>
    AV.sc (Value.int IntKind.i64 (dbbaff i0 i1)))
    (AV.cons (1 : Nat)
    (AV.vec true (1 : Nat) dbbban dbbban fun (i0 : Nat) =>
    AV.sc (Value.int IntKind.i64 (dbbbaf i0)))
    AV.nil))))) ∧
    True ∧
    Sub (AV.sc (Value.int IntKind.i64 k))
    (AV.sc (Value.int IntKind.i64 k)) ∧
    True ∧
    Sub (AV.sc (Value.int IntKind.i64 m))
    (AV.sc (Value.int IntKind.i64 m)) ∧
    True ∧
    Sub
    (AV.vec true (1 : Nat) t52n t52n fun (i0 : Nat) =>
    AV.vec true (1 : Nat) (t52fn i0) (t52fn i0)
    fun (i1 : Nat) =>
    AV.sc (Value.int IntKind.i64 (t52ff i0 i1)))
    (AV.vec true (1 : Nat) t52n t52n fun (i0 : Nat) =>
    AV.vec true (1 : Nat) (t52fn i0) (t52fn i0)
    fun (i1 : Nat) =>
    AV.sc (Value.int IntKind.i64 (t52ff i0 i1))) ∧
    True ∧
    Sub (AV.sc (Value.int IntKind.i64 t53))
    (AV.sc (Value.int IntKind.i64 t53)) ∧
    True ∧
    Sub
    (AV.sc
    (Value.int IntKind.i64
    (IntKind.i64.wrap (t54 + (1 : Int)))))
    (AV.sc
    (Value.int IntKind.i64
    (IntKind.i64.wrap (t54 + (1 : Int))))) ∧
    True) ∧
    True) ∧
    L54_1 da dbaf dbban dbbafn dbbaff dbbban dbbbaf k m t52n t52fn t52ff t53
    (IntKind.i64.wrap (t54 + (1 : Int))) res)) ∧
    (decide (r ≥ k) = !false →
    true = true ∧
    (!false) = !false ∧
    true = true ∧
    (!false) = !false ∧
    true = true ∧
    (!false) = !false ∧
    true = true ∧
    (!false) = !false ∧
    true = true ∧
    (!false) = !false ∧
    true = true ∧
    True ∧
    true = true ∧
    True ∧
    True ∧
    ((True ∧
    Sub (AV.sc (Value.int IntKind.i64 (2 : Int)))
    (AV.sc (Value.int IntKind.i64 (2 : Int))) ∧
    True) ∧
    True) ∧
    Sub (AV.sc (Value.int IntKind.i64 (2 : Int))) res ∧ SubOut [] [])) ∧
    (((↑(t52fn t54.toNat) : Int) != m) = !false →
    true = true ∧
    (!false) = !false ∧
    true = true ∧
    (!false) = !false ∧
    true = true ∧
    (!false) = !false ∧
    true = true ∧
    True ∧
    True ∧
    true = !false ∧
    true = true ∧
    (!false) = !false ∧
    true = true ∧
    (!false) = !false ∧
    true = true ∧
    (!false) = !false ∧
    true = true ∧
    (!false) = !false ∧
    true = true ∧
    (!false) = !false ∧
    true = true ∧
    True ∧
    true = true ∧
    True ∧
    True ∧
    ((True ∧
    Sub (AV.sc (Value.int IntKind.i64 (2 : Int)))
    (AV.sc (Value.int IntKind.i64 (2 : Int))) ∧
    True) ∧
    True) ∧
    Sub (AV.sc (Value.int IntKind.i64 (2 : Int))) res ∧ SubOut [] [])) ∧
    (decide (t54 < t53) = false →
    True ∧
    True ∧
    ((True ∧ Sub (AV.sc (Value.int IntKind.i64 (0 : Int))) (AV.sc (Value.int IntKind.i64 (0 : Int))) ∧ True) ∧ True) ∧
    Sub (AV.sc (Value.int IntKind.i64 (0 : Int))) res ∧ SubOut [] []) from
    ⟨trivial, (And.elim (fun h1 k1 => ⟨(fun x2 => (fun h2 => ⟨trivial, (And.elim (fun h4 k4 => ⟨(And.elim (fun h5 k5 => ⟨h5, k5⟩) h4), ⟨trivial, ⟨trivial, ⟨trivial, ⟨trivial, ⟨trivial, ⟨trivial, ⟨trivial, ⟨trivial, (And.elim (fun h13 k13 => ⟨(fun x14 => (fun h14 => ⟨trivial, ⟨rfl, (Exists.elim h14 fun x17 h17 => ⟨x17, (And.elim (fun h18 k18 => ⟨⟨⟨trivial, trivial⟩, ⟨trivial, h18⟩⟩, ⟨rfl, ⟨trivial, ⟨rfl, ⟨trivial, ⟨trivial, ⟨trivial, (And.elim (fun h25 k25 => ⟨(fun x26 => (fun h26 => ⟨trivial, ⟨rfl, ⟨trivial, ⟨rfl, ⟨trivial, ⟨rfl, (And.elim (fun h33 k33 => ⟨(And.elim (fun h34 k34 => ⟨h34, k34⟩) h33), ⟨rfl, ⟨trivial, ⟨rfl, ⟨trivial, ⟨trivial, (And.elim (fun h39 k39 => ⟨(fun x40 => (fun h40 => ⟨trivial, ⟨trivial, ⟨⟨⟨trivial, ⟨Sub.refl _, trivial⟩⟩, trivial⟩, ((fun h44 => ⟨h44, trivial⟩) h40)⟩⟩⟩) (h39 x40)), (fun x40 => (fun h40 => ⟨trivial, ⟨trivial, ⟨⟨⟨trivial, ⟨Sub.refl _, ⟨trivial, ⟨Sub.refl _, ⟨trivial, ⟨Sub.refl _, ⟨trivial, ⟨Sub.refl _, ⟨trivial, ⟨Sub.refl _, ⟨trivial, ⟨Sub.refl _, trivial⟩⟩⟩⟩⟩⟩⟩⟩⟩⟩⟩⟩, trivial⟩, h40⟩⟩⟩) (k39 x40))⟩) k33)⟩⟩⟩⟩⟩⟩) h26)⟩⟩⟩⟩⟩⟩) (h25 x26)), (fun x26 => (fun h26 => ⟨rfl, ⟨rfl, ⟨rfl, ⟨rfl, ⟨rfl, ⟨rfl, ⟨rfl, ⟨rfl, ⟨rfl, ⟨rfl, ⟨rfl, ⟨trivial, ⟨rfl, ⟨trivial, ⟨trivial, ⟨⟨⟨trivial, ⟨Sub.refl _, trivial⟩⟩, trivial⟩, ((fun h43 => ⟨h43, trivial⟩) h26)⟩⟩⟩⟩⟩⟩⟩⟩⟩⟩⟩⟩⟩⟩⟩⟩) (k25 x26))⟩) k18)⟩⟩⟩⟩⟩⟩⟩) h17)⟩)⟩⟩) (h13 x14)), (fun x14 => (fun h14 => ⟨rfl, ⟨rfl, ⟨rfl, ⟨rfl, ⟨rfl, ⟨rfl, ⟨rfl, ⟨trivial, ⟨trivial, ⟨rfl, ⟨rfl, ⟨rfl, ⟨rfl, ⟨rfl, ⟨rfl, ⟨rfl, ⟨rfl, ⟨rfl, ⟨rfl, ⟨rfl, ⟨rfl, ⟨trivial, ⟨rfl, ⟨trivial, ⟨trivial, ⟨⟨⟨trivial, ⟨Sub.refl _, trivial⟩⟩, trivial⟩, ((fun h41 => ⟨h41, trivial⟩) h14)⟩⟩⟩⟩⟩⟩⟩⟩⟩⟩⟩⟩⟩⟩⟩⟩⟩⟩⟩⟩⟩⟩⟩⟩⟩⟩) (k13 x14))⟩) k4)⟩⟩⟩⟩⟩⟩⟩⟩⟩) h2)⟩) (h1 x2)), (fun x2 => (fun h2 => ⟨trivial, ⟨trivial, ⟨⟨⟨trivial, ⟨Sub.refl _, trivial⟩⟩, trivial⟩, ((fun h6 => ⟨h6, trivial⟩) h2)⟩⟩⟩) (k1 x2))⟩) h)⟩)
theorem hf55 : Go.Proofs.Try.prog.funcs[55]? = some Go.Proofs.Try.f55 := by kernel_rfl
abbrev s55_e (da : Int) (dbaf : Nat → Int) (dbban : Nat) (dbbafn : Nat → Nat) (dbbaff : Nat → Nat → Int) (dbbban : Nat) (dbbbaf : Nat → Int) (text : ByteArray) (at_ : Int) : List (Nat × AV) := [(0, (.cons 1 (.sc (.int .i64 da)) (.cons 256 (.ar 256 1 (fun i0 => (.sc (.int .u8 (dbaf i0))))) (.cons 1 (.vec true 1 dbban dbban (fun i0 => (.vec true 1 (dbbafn i0) (dbbafn i0) (fun i1 => (.sc (.int .i64 (dbbaff i0 i1))))))) (.cons 1 (.vec true 1 dbbban dbbban (fun i0 => (.sc (.int .i64 (dbbbaf i0))))) .nil))))), (1, (.sc (.string text))), (2, (.sc (.int .i64 at_)))]
abbrev m55_e (da : Int) (dbaf : Nat → Int) (dbban : Nat) (dbbafn : Nat → Nat) (dbbaff : Nat → Nat → Int) (dbbban : Nat) (dbbbaf : Nat → Int) (text : ByteArray) (at_ : Int) : List (Nat × Nat × AV) := []
def L55_e (da : Int) (dbaf : Nat → Int) (dbban : Nat) (dbbafn : Nat → Nat) (dbbaff : Nat → Nat → Int) (dbbban : Nat) (dbbbaf : Nat → Int) (text : ByteArray) (at_ : Int) (res : AV) : Prop := Goes ⟨Go.Proofs.Try.prog, 55, [], res, []⟩ (place Go.Proofs.Try.f55 []) (s55_e da dbaf dbban dbbafn dbbaff dbbban dbbbaf text at_) (m55_e da dbaf dbban dbbafn dbbaff dbbban dbbbaf text at_)
theorem a55_e (da : Int) (dbaf : Nat → Int) (dbban : Nat) (dbbafn : Nat → Nat) (dbbaff : Nat → Nat → Int) (dbbban : Nat) (dbbbaf : Nat → Int) (text : ByteArray) (at_ : Int) (res : AV) (h : (∀ slot, fact (look .undef (s55_e da dbaf dbban dbbafn dbbaff dbbban dbbbaf text at_) slot)) → L55_e da dbaf dbban dbbafn dbbaff dbbban dbbbaf text at_ res) : L55_e da dbaf dbban dbbafn dbbaff dbbban dbbbaf text at_ res :=
  assumeRule 55 [] Go.Proofs.Try.f55 hf55 [] (s55_e da dbaf dbban dbbafn dbbaff dbbban dbbbaf text at_) (m55_e da dbaf dbban dbbafn dbbaff dbbban dbbbaf text at_) res [] _ (by kernel_rfl) h
abbrev s55_0 (text : ByteArray) (at_ : Int) (s : Int) (i : Int) (b0a : Int) (b0baf : Nat → Int) (b0bban : Nat) (b0bbafn : Nat → Nat) (b0bbaff : Nat → Nat → Int) (b0bbban : Nat) (b0bbbaf : Nat → Int) (b1a : Int) (b1ba : Int) (b1bba : Int) (b2a : Int) (b2ba : Int) (b2bba : Int) : List (Nat × AV) := [(1, (.sc (.string text))), (2, (.sc (.int .i64 at_))), (3, (.pt 1000 [] 0)), (6, (.pt 1001 [] 0)), (7, (.pt 1002 [] 0)), (8, (.sc (.int .i64 s))), (9, (.sc (.int .i64 i)))]
abbrev m55_0 (text : ByteArray) (at_ : Int) (s : Int) (i : Int) (b0a : Int) (b0baf : Nat → Int) (b0bban : Nat) (b0bbafn : Nat → Nat) (b0bbaff : Nat → Nat → Int) (b0bbban : Nat) (b0bbbaf : Nat → Int) (b1a : Int) (b1ba : Int) (b1bba : Int) (b2a : Int) (b2ba : Int) (b2bba : Int) : List (Nat × Nat × AV) := [(1000, 26, (.cons 1 (.sc (.int .i64 b0a)) (.cons 256 (.ar 256 1 (fun i0 => (.sc (.int .u8 (b0baf i0))))) (.cons 1 (.vec true 1 b0bban b0bban (fun i0 => (.vec true 1 (b0bbafn i0) (b0bbafn i0) (fun i1 => (.sc (.int .i64 (b0bbaff i0 i1))))))) (.cons 1 (.vec true 1 b0bbban b0bbban (fun i0 => (.sc (.int .i64 (b0bbbaf i0))))) .nil))))), (1001, 30, (.cons 1 (.sc (.int .i64 b1a)) (.cons 1 (.sc (.int .i64 b1ba)) (.cons 1 (.sc (.int .i64 b1bba)) .nil)))), (1002, 30, (.cons 1 (.sc (.int .i64 b2a)) (.cons 1 (.sc (.int .i64 b2ba)) (.cons 1 (.sc (.int .i64 b2bba)) .nil))))]
def L55_0 (text : ByteArray) (at_ : Int) (s : Int) (i : Int) (b0a : Int) (b0baf : Nat → Int) (b0bban : Nat) (b0bbafn : Nat → Nat) (b0bbaff : Nat → Nat → Int) (b0bbban : Nat) (b0bbbaf : Nat → Int) (b1a : Int) (b1ba : Int) (b1bba : Int) (b2a : Int) (b2ba : Int) (b2bba : Int) (res : AV) : Prop := Goes ⟨Go.Proofs.Try.prog, 55, [], res, []⟩ (place Go.Proofs.Try.f55 [1, 0, 1, 1, 1]) (s55_0 text at_ s i b0a b0baf b0bban b0bbafn b0bbaff b0bbban b0bbbaf b1a b1ba b1bba b2a b2ba b2bba) (m55_0 text at_ s i b0a b0baf b0bban b0bbafn b0bbaff b0bbban b0bbbaf b1a b1ba b1bba b2a b2ba b2bba)
theorem a55_0 (text : ByteArray) (at_ : Int) (s : Int) (i : Int) (b0a : Int) (b0baf : Nat → Int) (b0bban : Nat) (b0bbafn : Nat → Nat) (b0bbaff : Nat → Nat → Int) (b0bbban : Nat) (b0bbbaf : Nat → Int) (b1a : Int) (b1ba : Int) (b1bba : Int) (b2a : Int) (b2ba : Int) (b2bba : Int) (res : AV) (h : (∀ slot, fact (look .undef (s55_0 text at_ s i b0a b0baf b0bban b0bbafn b0bbaff b0bbban b0bbbaf b1a b1ba b1bba b2a b2ba b2bba) slot)) → L55_0 text at_ s i b0a b0baf b0bban b0bbafn b0bbaff b0bbban b0bbbaf b1a b1ba b1bba b2a b2ba b2bba res) : L55_0 text at_ s i b0a b0baf b0bban b0bbafn b0bbaff b0bbban b0bbbaf b1a b1ba b1bba b2a b2ba b2bba res :=
  assumeRule 55 [] Go.Proofs.Try.f55 hf55 [1, 0, 1, 1, 1] (s55_0 text at_ s i b0a b0baf b0bban b0bbafn b0bbaff b0bbban b0bbbaf b1a b1ba b1bba b2a b2ba b2bba) (m55_0 text at_ s i b0a b0baf b0bban b0bbafn b0bbaff b0bbban b0bbbaf b1a b1ba b1bba b2a b2ba b2bba) res [] _ (by kernel_rfl) h
abbrev s55_1 (text : ByteArray) (at_ : Int) (s : Int) (i : Int) (b0a : Int) (b0baf : Nat → Int) (b0bban : Nat) (b0bbafn : Nat → Nat) (b0bbaff : Nat → Nat → Int) (b0bbban : Nat) (b0bbbaf : Nat → Int) (b1a : Int) (b1ba : Int) (b1bba : Int) (b2a : Int) (b2ba : Int) (b2bba : Int) : List (Nat × AV) := [(1, (.sc (.string text))), (2, (.sc (.int .i64 at_))), (3, (.pt 1000 [] 0)), (6, (.pt 1001 [] 0)), (7, (.pt 1002 [] 0)), (8, (.sc (.int .i64 s))), (9, (.sc (.int .i64 i)))]
abbrev m55_1 (text : ByteArray) (at_ : Int) (s : Int) (i : Int) (b0a : Int) (b0baf : Nat → Int) (b0bban : Nat) (b0bbafn : Nat → Nat) (b0bbaff : Nat → Nat → Int) (b0bbban : Nat) (b0bbbaf : Nat → Int) (b1a : Int) (b1ba : Int) (b1bba : Int) (b2a : Int) (b2ba : Int) (b2bba : Int) : List (Nat × Nat × AV) := [(1000, 26, (.cons 1 (.sc (.int .i64 b0a)) (.cons 256 (.ar 256 1 (fun i0 => (.sc (.int .u8 (b0baf i0))))) (.cons 1 (.vec true 1 b0bban b0bban (fun i0 => (.vec true 1 (b0bbafn i0) (b0bbafn i0) (fun i1 => (.sc (.int .i64 (b0bbaff i0 i1))))))) (.cons 1 (.vec true 1 b0bbban b0bbban (fun i0 => (.sc (.int .i64 (b0bbbaf i0))))) .nil))))), (1001, 30, (.cons 1 (.sc (.int .i64 b1a)) (.cons 1 (.sc (.int .i64 b1ba)) (.cons 1 (.sc (.int .i64 b1bba)) .nil)))), (1002, 30, (.cons 1 (.sc (.int .i64 b2a)) (.cons 1 (.sc (.int .i64 b2ba)) (.cons 1 (.sc (.int .i64 b2bba)) .nil))))]
def L55_1 (text : ByteArray) (at_ : Int) (s : Int) (i : Int) (b0a : Int) (b0baf : Nat → Int) (b0bban : Nat) (b0bbafn : Nat → Nat) (b0bbaff : Nat → Nat → Int) (b0bbban : Nat) (b0bbbaf : Nat → Int) (b1a : Int) (b1ba : Int) (b1bba : Int) (b2a : Int) (b2ba : Int) (b2bba : Int) (res : AV) : Prop := Goes ⟨Go.Proofs.Try.prog, 55, [], res, []⟩ (place Go.Proofs.Try.f55 [1, 0, 1, 1, 1, 1, 1, 1, 1]) (s55_1 text at_ s i b0a b0baf b0bban b0bbafn b0bbaff b0bbban b0bbbaf b1a b1ba b1bba b2a b2ba b2bba) (m55_1 text at_ s i b0a b0baf b0bban b0bbafn b0bbaff b0bbban b0bbbaf b1a b1ba b1bba b2a b2ba b2bba)
theorem a55_1 (text : ByteArray) (at_ : Int) (s : Int) (i : Int) (b0a : Int) (b0baf : Nat → Int) (b0bban : Nat) (b0bbafn : Nat → Nat) (b0bbaff : Nat → Nat → Int) (b0bbban : Nat) (b0bbbaf : Nat → Int) (b1a : Int) (b1ba : Int) (b1bba : Int) (b2a : Int) (b2ba : Int) (b2bba : Int) (res : AV) (h : (∀ slot, fact (look .undef (s55_1 text at_ s i b0a b0baf b0bban b0bbafn b0bbaff b0bbban b0bbbaf b1a b1ba b1bba b2a b2ba b2bba) slot)) → L55_1 text at_ s i b0a b0baf b0bban b0bbafn b0bbaff b0bbban b0bbbaf b1a b1ba b1bba b2a b2ba b2bba res) : L55_1 text at_ s i b0a b0baf b0bban b0bbafn b0bbaff b0bbban b0bbbaf b1a b1ba b1bba b2a b2ba b2bba res :=
  assumeRule 55 [] Go.Proofs.Try.f55 hf55 [1, 0, 1, 1, 1, 1, 1, 1, 1] (s55_1 text at_ s i b0a b0baf b0bban b0bbafn b0bbaff b0bbban b0bbbaf b1a b1ba b1bba b2a b2ba b2bba) (m55_1 text at_ s i b0a b0baf b0bban b0bbafn b0bbaff b0bbban b0bbbaf b1a b1ba b1bba b2a b2ba b2bba) res [] _ (by kernel_rfl) h
abbrev s55_2 (at_ : Int) (i : Int) (b0a : Int) (b0ba : Int) (b0bba : Int) (b1a : Int) (b1ba : Int) (b1bba : Int) : List (Nat × AV) := [(2, (.sc (.int .i64 at_))), (6, (.pt 1000 [] 0)), (7, (.pt 1001 [] 0)), (9, (.sc (.int .i64 i)))]
abbrev m55_2 (at_ : Int) (i : Int) (b0a : Int) (b0ba : Int) (b0bba : Int) (b1a : Int) (b1ba : Int) (b1bba : Int) : List (Nat × Nat × AV) := [(1000, 30, (.cons 1 (.sc (.int .i64 b0a)) (.cons 1 (.sc (.int .i64 b0ba)) (.cons 1 (.sc (.int .i64 b0bba)) .nil)))), (1001, 30, (.cons 1 (.sc (.int .i64 b1a)) (.cons 1 (.sc (.int .i64 b1ba)) (.cons 1 (.sc (.int .i64 b1bba)) .nil))))]
def L55_2 (at_ : Int) (i : Int) (b0a : Int) (b0ba : Int) (b0bba : Int) (b1a : Int) (b1ba : Int) (b1bba : Int) (res : AV) : Prop := Goes ⟨Go.Proofs.Try.prog, 55, [], res, []⟩ (place Go.Proofs.Try.f55 [1, 0, 1, 1, 1, 1, 1, 1, 1, 1, 1, 1, 1]) (s55_2 at_ i b0a b0ba b0bba b1a b1ba b1bba) (m55_2 at_ i b0a b0ba b0bba b1a b1ba b1bba)
theorem a55_2 (at_ : Int) (i : Int) (b0a : Int) (b0ba : Int) (b0bba : Int) (b1a : Int) (b1ba : Int) (b1bba : Int) (res : AV) (h : (∀ slot, fact (look .undef (s55_2 at_ i b0a b0ba b0bba b1a b1ba b1bba) slot)) → L55_2 at_ i b0a b0ba b0bba b1a b1ba b1bba res) : L55_2 at_ i b0a b0ba b0bba b1a b1ba b1bba res :=
  assumeRule 55 [] Go.Proofs.Try.f55 hf55 [1, 0, 1, 1, 1, 1, 1, 1, 1, 1, 1, 1, 1] (s55_2 at_ i b0a b0ba b0bba b1a b1ba b1bba) (m55_2 at_ i b0a b0ba b0bba b1a b1ba b1bba) res [] _ (by kernel_rfl) h
theorem o55 (da : Int) (dbaf : Nat → Int) (dbban : Nat) (dbbafn : Nat → Nat) (dbbaff : Nat → Nat → Int) (dbbban : Nat) (dbbbaf : Nat → Int) (text : ByteArray) (at_ : Int) (res : AV) (hnew : newOnly res) (h : L55_e da dbaf dbban dbbafn dbbaff dbbban dbbbaf text at_ res) : Ok Go.Proofs.Try.prog 55 [(.cons 1 (.sc (.int .i64 da)) (.cons 256 (.ar 256 1 (fun i0 => (.sc (.int .u8 (dbaf i0))))) (.cons 1 (.vec true 1 dbban dbban (fun i0 => (.vec true 1 (dbbafn i0) (dbbafn i0) (fun i1 => (.sc (.int .i64 (dbbaff i0 i1))))))) (.cons 1 (.vec true 1 dbbban dbbban (fun i0 => (.sc (.int .i64 (dbbbaf i0))))) .nil)))), (.sc (.string text)), (.sc (.int .i64 at_))] [] res [] :=
  okRule2 55 Go.Proofs.Try.f55 hf55 [(.cons 1 (.sc (.int .i64 da)) (.cons 256 (.ar 256 1 (fun i0 => (.sc (.int .u8 (dbaf i0))))) (.cons 1 (.vec true 1 dbban dbban (fun i0 => (.vec true 1 (dbbafn i0) (dbbafn i0) (fun i1 => (.sc (.int .i64 (dbbaff i0 i1))))))) (.cons 1 (.vec true 1 dbbban dbbban (fun i0 => (.sc (.int .i64 (dbbbaf i0))))) .nil)))), (.sc (.string text)), (.sc (.int .i64 at_))] [] res [] [] rfl (by kernel_rfl) (by kernel_rfl) (by kernel_rfl) ⟨hnew, by simp⟩ (L55_e da dbaf dbban dbbafn dbbaff dbbban dbbbaf text at_ res) (by kernel_rfl) h
theorem r55_e (da : Int) (dbaf : Nat → Int) (dbban : Nat) (dbbafn : Nat → Nat) (dbbaff : Nat → Nat → Int) (dbbban : Nat) (dbbbaf : Nat → Int) (text : ByteArray) (at_ : Int) (res : AV)
    (h : L55_0 text at_ da at_ da dbaf dbban dbbafn dbbaff dbbban dbbbaf (0 : Int) (0 : Int) (0 : Int) (-1 : Int) (0 : Int) (0 : Int) res) :
    L55_e da dbaf dbban dbbafn dbbaff dbbban dbbbaf text at_ res :=
  rule Go.Am.Seat.tabOk 55 [] Go.Proofs.Try.f55 hf55 [] (s55_e da dbaf dbban dbbafn dbbaff dbbban dbbbaf text at_) (m55_e da dbaf dbban dbbafn dbbaff dbbban dbbbaf text at_) res [] 400
    (Orc.cut (nat_lit 9) (s55_0 text at_ da at_ da dbaf dbban dbbafn dbbaff dbbban dbbbaf (0 : Int) (0 : Int) (0 : Int) (-1 : Int) (0 : Int) (0 : Int))
  (m55_0 text at_ da at_ da dbaf dbban dbbafn dbbaff dbbban dbbbaf (0 : Int) (0 : Int) (0 : Int) (-1 : Int) (0 : Int) (0 : Int))
  [((1000 : Nat), some (3 : Nat)), ((1001 : Nat), some (6 : Nat)), ((1002 : Nat), some (7 : Nat))]) _ _ (by kernel_rfl) (by kernel_rfl) (show True ∧
  True ∧
    True ∧
    True ∧
    ((0 : Nat) = (0 : Nat) ∧ True) ∧
    True ∧
    ((0 : Nat) = plus (0 : Nat) (0 : Nat) ∧ True) ∧
    True ∧
    True ∧
    True ∧
    ((True ∧
    Sub (AV.sc (Value.string text)) (AV.sc (Value.string text)) ∧
    True ∧
    Sub (AV.sc (Value.int IntKind.i64 at_)) (AV.sc (Value.int IntKind.i64 at_)) ∧
    True ∧
    Sub (AV.pt (1000 : Nat) [] (0 : Nat)) (AV.pt (1000 : Nat) [] (0 : Nat)) ∧
    True ∧
    Sub (AV.pt (1001 : Nat) [] (0 : Nat)) (AV.pt (1001 : Nat) [] (0 : Nat)) ∧
    True ∧
    Sub (AV.pt (1002 : Nat) [] (0 : Nat)) (AV.pt (1002 : Nat) [] (0 : Nat)) ∧
    True ∧
    Sub (AV.sc (Value.int IntKind.i64 da)) (AV.sc (Value.int IntKind.i64 da)) ∧
    True ∧ Sub (AV.sc (Value.int IntKind.i64 at_)) (AV.sc (Value.int IntKind.i64 at_)) ∧ True) ∧
    (True ∧ True ∧ True ∧ True ∧ True) ∧
    SubB
    (AV.cons (1 : Nat) (AV.sc (Value.int IntKind.i64 da))
    (AV.cons (256 : Nat) (AV.ar (256 : Nat) (1 : Nat) fun (i0 : Nat) => AV.sc (Value.int IntKind.u8 (dbaf i0)))
    (AV.cons (1 : Nat)
    (AV.vec true (1 : Nat) dbban dbban fun (i0 : Nat) =>
    AV.vec true (1 : Nat) (dbbafn i0) (dbbafn i0) fun (i1 : Nat) => AV.sc (Value.int IntKind.i64 (dbbaff i0 i1)))
    (AV.cons (1 : Nat) (AV.vec true (1 : Nat) dbbban dbbban fun (i0 : Nat) => AV.sc (Value.int IntKind.i64 (dbbbaf i0)))
    AV.nil))))
    (AV.cons (1 : Nat) (AV.sc (Value.int IntKind.i64 da))
    (AV.cons (256 : Nat) (AV.ar (256 : Nat) (1 : Nat) fun (i0 : Nat) => AV.sc (Value.int IntKind.u8 (dbaf i0)))
    (AV.cons (1 : Nat)
    (AV.vec true (1 : Nat) dbban dbban fun (i0 : Nat) =>
    AV.vec true (1 : Nat) (dbbafn i0) (dbbafn i0) fun (i1 : Nat) => AV.sc (Value.int IntKind.i64 (dbbaff i0 i1)))
    (AV.cons (1 : Nat) (AV.vec true (1 : Nat) dbbban dbbban fun (i0 : Nat) => AV.sc (Value.int IntKind.i64 (dbbbaf i0)))
    AV.nil)))) ∧
    (True ∧ True ∧ True ∧ True) ∧
    SubB
    (AV.cons (1 : Nat) (AV.sc (Value.int IntKind.i64 (0 : Int)))
    (AV.cons (1 : Nat) (AV.sc (Value.int IntKind.i64 (0 : Int)))
    (AV.cons (1 : Nat) (AV.sc (Value.int IntKind.i64 (0 : Int))) AV.nil)))
    (AV.cons (1 : Nat) (AV.sc (Value.int IntKind.i64 (0 : Int)))
    (AV.cons (1 : Nat) (AV.sc (Value.int IntKind.i64 (0 : Int)))
    (AV.cons (1 : Nat) (AV.sc (Value.int IntKind.i64 (0 : Int))) AV.nil))) ∧
    (True ∧ True ∧ True ∧ True) ∧
    SubB
    (AV.cons (1 : Nat) (AV.sc (Value.int IntKind.i64 (-1 : Int)))
    (AV.cons (1 : Nat) (AV.sc (Value.int IntKind.i64 (0 : Int)))
    (AV.cons (1 : Nat) (AV.sc (Value.int IntKind.i64 (0 : Int))) AV.nil)))
    (AV.cons (1 : Nat) (AV.sc (Value.int IntKind.i64 (-1 : Int)))
    (AV.cons (1 : Nat) (AV.sc (Value.int IntKind.i64 (0 : Int)))
    (AV.cons (1 : Nat) (AV.sc (Value.int IntKind.i64 (0 : Int))) AV.nil))) ∧
    True) ∧
    L55_0 text at_ da at_ da dbaf dbban dbbafn dbbaff dbbban dbbbaf (0 : Int) (0 : Int) (0 : Int) (-1 : Int) (0 : Int) (0 : Int) res from
    ⟨trivial, ⟨trivial, ⟨trivial, ⟨trivial, ⟨⟨rfl, trivial⟩, ⟨trivial, ⟨⟨rfl, trivial⟩, ⟨trivial, ⟨trivial, ⟨trivial, ⟨⟨⟨trivial, ⟨Sub.refl _, ⟨trivial, ⟨Sub.refl _, ⟨trivial, ⟨Sub.refl _, ⟨trivial, ⟨Sub.refl _, ⟨trivial, ⟨Sub.refl _, ⟨trivial, ⟨Sub.refl _, ⟨trivial, ⟨Sub.refl _, trivial⟩⟩⟩⟩⟩⟩⟩⟩⟩⟩⟩⟩⟩⟩, ⟨⟨trivial, ⟨trivial, ⟨trivial, ⟨trivial, trivial⟩⟩⟩⟩, ⟨SubB.refl _, ⟨⟨trivial, ⟨trivial, ⟨trivial, trivial⟩⟩⟩, ⟨SubB.refl _, ⟨⟨trivial, ⟨trivial, ⟨trivial, trivial⟩⟩⟩, ⟨SubB.refl _, trivial⟩⟩⟩⟩⟩⟩⟩, h⟩⟩⟩⟩⟩⟩⟩⟩⟩⟩⟩)
theorem r55_0 (text : ByteArray) (at_ : Int) (s : Int) (i : Int) (b0a : Int) (b0baf : Nat → Int) (b0bban : Nat) (b0bbafn : Nat → Nat) (b0bbaff : Nat → Nat → Int) (b0bbban : Nat) (b0bbbaf : Nat → Int) (b1a : Int) (b1ba : Int) (b1bba : Int) (b2a : Int) (b2ba : Int) (b2bba : Int) (res : AV)
    (h : ((0 : Int) ≤ s ∧ s < (↑b0bban : Int)) ∧
  ((0 : Int) ≤ i ∧ i < (↑text.size : Int)) ∧
    ((0 : Int) ≤ (↑(byteAt text i.toNat).toNat : Int) ∧ (↑(byteAt text i.toNat).toNat : Int) < (↑(256 : Nat) : Int)) ∧
    (↑(byteAt text i.toNat).toNat : Int).toNat < (256 : Nat) ∧
    ((0 : Int) ≤ b0baf (↑(byteAt text i.toNat).toNat : Int).toNat ∧ b0baf (↑(byteAt text i.toNat).toNat : Int).toNat < (↑(b0bbafn s.toNat) : Int)) ∧
    (decide (b0bbaff s.toNat (b0baf (↑(byteAt text i.toNat).toNat : Int).toNat).toNat < (0 : Int)) = true →
    L55_2 at_ (IntKind.i64.wrap (i + (1 : Int))) b1a b1ba b1bba b2a b2ba b2bba res) ∧
    (decide (b0bbaff s.toNat (b0baf (↑(byteAt text i.toNat).toNat : Int).toNat).toNat < (0 : Int)) = false →
    ((0 : Int) ≤ b0bbaff s.toNat (b0baf (↑(byteAt text i.toNat).toNat : Int).toNat).toNat ∧
    b0bbaff s.toNat (b0baf (↑(byteAt text i.toNat).toNat : Int).toNat).toNat < (↑b0bbban : Int)) ∧
    (decide (b0bbbaf (b0bbaff s.toNat (b0baf (↑(byteAt text i.toNat).toNat : Int).toNat).toNat).toNat ≥ (0 : Int)) = true →
    L55_1 text at_ (b0bbaff s.toNat (b0baf (↑(byteAt text i.toNat).toNat : Int).toNat).toNat) (IntKind.i64.wrap (i + (1 : Int))) b0a b0baf
    b0bban b0bbafn b0bbaff b0bbban b0bbbaf b1a b1ba b1bba
    (b0bbbaf (b0bbaff s.toNat (b0baf (↑(byteAt text i.toNat).toNat : Int).toNat).toNat).toNat)
    (IntKind.i64.wrap (IntKind.i64.wrap (i + (1 : Int)) - at_)) b2bba res) ∧
    (decide (b0bbbaf (b0bbaff s.toNat (b0baf (↑(byteAt text i.toNat).toNat : Int).toNat).toNat).toNat ≥ (0 : Int)) = false →
    L55_1 text at_ (b0bbaff s.toNat (b0baf (↑(byteAt text i.toNat).toNat : Int).toNat).toNat) (IntKind.i64.wrap (i + (1 : Int))) b0a b0baf
    b0bban b0bbafn b0bbaff b0bbban b0bbbaf b1a b1ba b1bba b2a b2ba b2bba res))) :
    L55_0 text at_ s i b0a b0baf b0bban b0bbafn b0bbaff b0bbban b0bbbaf b1a b1ba b1bba b2a b2ba b2bba res :=
  rule Go.Am.Seat.tabOk 55 [] Go.Proofs.Try.f55 hf55 [1, 0, 1, 1, 1] (s55_0 text at_ s i b0a b0baf b0bban b0bbafn b0bbaff b0bbban b0bbbaf b1a b1ba b1bba b2a b2ba b2bba) (m55_0 text at_ s i b0a b0baf b0bban b0bbafn b0bbaff b0bbban b0bbbaf b1a b1ba b1bba b2a b2ba b2bba) res [] 400
    ((Orc.cut (nat_lit 3) (s55_2 at_ (IntKind.i64.wrap (i + (1 : Int))) b1a b1ba b1bba b2a b2ba b2bba)
    (m55_2 at_ (IntKind.i64.wrap (i + (1 : Int))) b1a b1ba b1bba b2a b2ba b2bba) [((1000 : Nat), some (1001 : Nat)), ((1001 : Nat), some (1002 : Nat))]).br
  ((Orc.cut (nat_lit 1)
    (s55_1 text at_ (b0bbaff s.toNat (b0baf (↑(byteAt text i.toNat).toNat : Int).toNat).toNat) (IntKind.i64.wrap (i + (1 : Int))) b0a b0baf b0bban b0bbafn
    b0bbaff b0bbban b0bbbaf b1a b1ba b1bba (b0bbbaf (b0bbaff s.toNat (b0baf (↑(byteAt text i.toNat).toNat : Int).toNat).toNat).toNat)
    (IntKind.i64.wrap (IntKind.i64.wrap (i + (1 : Int)) - at_)) b2bba)
    (m55_1 text at_ (b0bbaff s.toNat (b0baf (↑(byteAt text i.toNat).toNat : Int).toNat).toNat) (IntKind.i64.wrap (i + (1 : Int))) b0a b0baf b0bban b0bbafn
    b0bbaff b0bbban b0bbbaf b1a b1ba b1bba (b0bbbaf (b0bbaff s.toNat (b0baf (↑(byteAt text i.toNat).toNat : Int).toNat).toNat).toNat)
    (IntKind.i64.wrap (IntKind.i64.wrap (i + (1 : Int)) - at_)) b2bba)
    [((1000 : Nat), some (1000 : Nat)), ((1001 : Nat), some (1001 : Nat)), ((1002 : Nat), some (1002 : Nat))]).br
    (Orc.cut (nat_lit 1)
    (s55_1 text at_ (b0bbaff s.toNat (b0baf (↑(byteAt text i.toNat).toNat : Int).toNat).toNat) (IntKind.i64.wrap (i + (1 : Int))) b0a b0baf b0bban b0bbafn
    b0bbaff b0bbban b0bbbaf b1a b1ba b1bba b2a b2ba b2bba)
    (m55_1 text at_ (b0bbaff s.toNat (b0baf (↑(byteAt text i.toNat).toNat : Int).toNat).toNat) (IntKind.i64.wrap (i + (1 : Int))) b0a b0baf b0bban b0bbafn
    b0bbaff b0bbban b0bbbaf b1a b1ba b1bba b2a b2ba b2bba)
    [((1000 : Nat), some (1000 : Nat)), ((1001 : Nat), some (1001 : Nat)), ((1002 : Nat), some (1002 : Nat))]))) _ _ (by kernel_rfl) (by kernel_rfl) (show True ∧
  ((1 : Nat) + ((256 : Nat) + (0 : Nat)) = plus (0 : Nat) (257 : Nat) ∧ True) ∧
    True ∧
    ((0 : Int) ≤ s ∧ s < (↑b0bban : Int)) ∧
    True ∧
    True ∧
    True ∧
    ((0 : Int) ≤ i ∧ i < (↑text.size : Int)) ∧
    True ∧
    ((0 : Int) ≤ (↑(byteAt text i.toNat).toNat : Int) ∧ (↑(byteAt text i.toNat).toNat : Int) < (↑(256 : Nat) : Int)) ∧
    ((1 : Nat) + ((↑(byteAt text i.toNat).toNat : Int).toNat * (1 : Nat) + (0 : Nat)) =
    plus (plus (0 : Nat) (1 : Nat)) ((↑(byteAt text i.toNat).toNat : Int).toNat * (1 : Nat)) ∧
    (↑(byteAt text i.toNat).toNat : Int).toNat < (256 : Nat) ∧ True) ∧
    ((0 : Int) ≤ b0baf (↑(byteAt text i.toNat).toNat : Int).toNat ∧
    b0baf (↑(byteAt text i.toNat).toNat : Int).toNat < (↑(b0bbafn s.toNat) : Int)) ∧
    True ∧
    True ∧
    True ∧
    True ∧
    True ∧
    True ∧
    True ∧
    (decide (b0bbaff s.toNat (b0baf (↑(byteAt text i.toNat).toNat : Int).toNat).toNat < (0 : Int)) = true →
    ((True ∧
    Sub (AV.sc (Value.int IntKind.i64 at_)) (AV.sc (Value.int IntKind.i64 at_)) ∧
    True ∧
    Sub (AV.pt (1000 : Nat) [] (0 : Nat)) (AV.pt (1000 : Nat) [] (0 : Nat)) ∧
    True ∧
    Sub (AV.pt (1001 : Nat) [] (0 : Nat)) (AV.pt (1001 : Nat) [] (0 : Nat)) ∧
    True ∧
    Sub (AV.sc (Value.int IntKind.i64 (IntKind.i64.wrap (i + (1 : Int)))))
    (AV.sc (Value.int IntKind.i64 (IntKind.i64.wrap (i + (1 : Int))))) ∧
    True) ∧
    (True ∧ True ∧ True ∧ True) ∧
    SubB
    (AV.cons (1 : Nat) (AV.sc (Value.int IntKind.i64 b1a))
    (AV.cons (1 : Nat) (AV.sc (Value.int IntKind.i64 b1ba))
    (AV.cons (1 : Nat) (AV.sc (Value.int IntKind.i64 b1bba)) AV.nil)))
    (AV.cons (1 : Nat) (AV.sc (Value.int IntKind.i64 b1a))
    (AV.cons (1 : Nat) (AV.sc (Value.int IntKind.i64 b1ba))
    (AV.cons (1 : Nat) (AV.sc (Value.int IntKind.i64 b1bba)) AV.nil))) ∧
    (True ∧ True ∧ True ∧ True) ∧
    SubB
    (AV.cons (1 : Nat) (AV.sc (Value.int IntKind.i64 b2a))
    (AV.cons (1 : Nat) (AV.sc (Value.int IntKind.i64 b2ba))
    (AV.cons (1 : Nat) (AV.sc (Value.int IntKind.i64 b2bba)) AV.nil)))
    (AV.cons (1 : Nat) (AV.sc (Value.int IntKind.i64 b2a))
    (AV.cons (1 : Nat) (AV.sc (Value.int IntKind.i64 b2ba))
    (AV.cons (1 : Nat) (AV.sc (Value.int IntKind.i64 b2bba)) AV.nil))) ∧
    True) ∧
    L55_2 at_ (IntKind.i64.wrap (i + (1 : Int))) b1a b1ba b1bba b2a b2ba b2bba res) ∧
    (decide (b0bbaff s.toNat (b0baf (↑(byteAt text i.toNat).toNat : Int).toNat).toNat < (0 : Int)) = false →
    True ∧
    ((1 : Nat) + ((256 : Nat) + ((1 : Nat) + (0 : Nat))) = plus (0 : Nat) (258 : Nat) ∧ True) ∧
    True ∧
    ((0 : Int) ≤ b0bbaff s.toNat (b0baf (↑(byteAt text i.toNat).toNat : Int).toNat).toNat ∧
    b0bbaff s.toNat (b0baf (↑(byteAt text i.toNat).toNat : Int).toNat).toNat < (↑b0bbban : Int)) ∧
    True ∧
    True ∧
    (decide
    (b0bbbaf (b0bbaff s.toNat (b0baf (↑(byteAt text i.toNat).toNat : Int).toNat).toNat).toNat ≥
    (0 : Int)) =
    true →
    True ∧
    ((1 : Nat) + ((256 : Nat) + ((1 : Nat) + (0 : Nat))) = plus (0 : Nat) (258 : Nat) ∧ True) ∧
    True ∧
    ((0 : Int) ≤ b0bbaff s.toNat (b0baf (↑(byteAt text i.toNat).toNat : Int).toNat).toNat ∧
    b0bbaff s.toNat (b0baf (↑(byteAt text i.toNat).toNat : Int).toNat).toNat <
    (↑b0bbban : Int)) ∧
    True ∧
    True ∧
    True ∧
    True ∧
    True ∧
    ((0 : Nat) = plus (0 : Nat) (0 : Nat) ∧ True) ∧
    True ∧
    ((1 : Nat) + (0 : Nat) = plus (0 : Nat) (1 : Nat) ∧ True) ∧
    ((True ∧
    Sub (AV.sc (Value.string text)) (AV.sc (Value.string text)) ∧
    True ∧
    Sub (AV.sc (Value.int IntKind.i64 at_))
    (AV.sc (Value.int IntKind.i64 at_)) ∧
    True ∧
    Sub (AV.pt (1000 : Nat) [] (0 : Nat))
    (AV.pt (1000 : Nat) [] (0 : Nat)) ∧
    True ∧
    Sub (AV.pt (1001 : Nat) [] (0 : Nat))
    (AV.pt (1001 : Nat) [] (0 : Nat)) ∧
    True ∧
    Sub (AV.pt (1002 : Nat) [] (0 : Nat))
    (AV.pt (1002 : Nat) [] (0 : Nat)) ∧
    True ∧
    Sub
    (AV.sc
    (Value.int IntKind.i64
    (b0bbaff s.toNat
    (b0baf
    (↑(byteAt text i.toNat).toNat :
    Int).toNat).toNat)))
    (AV.sc
    (Value.int IntKind.i64
    (b0bbaff s.toNat
    (b0baf
    (↑(byteAt text i.toNat).toNat :
    Int).toNat).toNat))) ∧
    True ∧
    Sub
    (AV.sc
    (Value.int IntKind.i64
    (IntKind.i64.wrap (i + (1 : Int)))))
    (AV.sc
    (Value.int IntKind.i64
    (IntKind.i64.wrap (i + (1 : Int))))) ∧
    True) ∧
    (True ∧ True ∧ True ∧ True ∧ True) ∧
    SubB
    (AV.cons (1 : Nat) (AV.sc (Value.int IntKind.i64 b0a))
    (AV.cons (256 : Nat)
    (AV.ar (256 : Nat) (1 : Nat) fun (i0 : Nat) =>
    AV.sc (Value.int IntKind.u8 (b0baf i0)))
    (AV.cons (1 : Nat)
    (AV.vec true (1 : Nat) b0bban b0bban fun (i0 : Nat) =>
    AV.vec true (1 : Nat) (b0bbafn i0) (b0bbafn i0)
    fun (i1 : Nat) =>
    AV.sc (Value.int IntKind.i64 (b0bbaff i0 i1)))
    (AV.cons (1 : Nat)
    (AV.vec true (1 : Nat) b0bbban b0bbban fun (i0 : Nat) =>
    AV.sc (Value.int IntKind.i64 (b0bbbaf i0)))
    AV.nil))))
    (AV.cons (1 : Nat) (AV.sc (Value.int IntKind.i64 b0a))
    (AV.cons (256 : Nat)
    (AV.ar (256 : Nat) (1 : Nat) fun (i0 : Nat) =>
    AV.sc (Value.int IntKind.u8 (b0baf i0)))
    (AV.cons (1 : Nat)
    (AV.vec true (1 : Nat) b0bban b0bban fun (i0 : Nat) =>
    AV.vec true (1 : Nat) (b0bbafn i0) (b0bbafn i0)
    fun (i1 : Nat) =>
    AV.sc (Value.int IntKind.i64 (b0bbaff i0 i1)))
    (AV.cons (1 : Nat)
    (AV.vec true (1 : Nat) b0bbban b0bbban fun (i0 : Nat) =>
    AV.sc (Value.int IntKind.i64 (b0bbbaf i0)))
    AV.nil)))) ∧
    (True ∧ True ∧ True ∧ True) ∧
    SubB
    (AV.cons (1 : Nat) (AV.sc (Value.int IntKind.i64 b1a))
    (AV.cons (1 : Nat) (AV.sc (Value.int IntKind.i64 b1ba))
    (AV.cons (1 : Nat) (AV.sc (Value.int IntKind.i64 b1bba))
    AV.nil)))
    (AV.cons (1 : Nat) (AV.sc (Value.int IntKind.i64 b1a))
    (AV.cons (1 : Nat) (AV.sc (Value.int IntKind.i64 b1ba))
    (AV.cons (1 : Nat) (AV.sc (Value.int IntKind.i64 b1bba))
    AV.nil))) ∧
    (True ∧ True ∧ True ∧ True) ∧
    SubB
    (AV.cons (1 : Nat)
    (AV.sc
    (Value.int IntKind.i64
    (b0bbbaf
    (b0bbaff s.toNat
    (b0baf
    (↑(byteAt text i.toNat).toNat :
    Int).toNat).toNat).toNat)))
    (AV.cons (1 : Nat)
    (AV.sc
    (Value.int IntKind.i64
    (IntKind.i64.wrap
    (IntKind.i64.wrap (i + (1 : Int)) - at_))))
    (AV.cons (1 : Nat) (AV.sc (Value.int IntKind.i64 b2bba))
    AV.nil)))
    (AV.cons (1 : Nat)
    (AV.sc
    (Value.int IntKind.i64
    (b0bbbaf
    (b0bbaff s.toNat
    (b0baf
    (↑(byteAt text i.toNat).toNat :
    Int).toNat).toNat).toNat)))
    (AV.cons (1 : Nat)
    (AV.sc
    (Value.int IntKind.i64
    (IntKind.i64.wrap
    (IntKind.i64.wrap (i + (1 : Int)) - at_))))
    (AV.cons (1 : Nat) (AV.sc (Value.int IntKind.i64 b2bba))
    AV.nil))) ∧
    True) ∧
    L55_1 text at_
    (b0bbaff s.toNat (b0baf (↑(byteAt text i.toNat).toNat : Int).toNat).toNat)
    (IntKind.i64.wrap (i + (1 : Int))) b0a b0baf b0bban b0bbafn b0bbaff
    b0bbban b0bbbaf b1a b1ba b1bba
    (b0bbbaf
    (b0bbaff s.toNat
    (b0baf (↑(byteAt text i.toNat).toNat : Int).toNat).toNat).toNat)
    (IntKind.i64.wrap (IntKind.i64.wrap (i + (1 : Int)) - at_)) b2bba res) ∧
    (decide
    (b0bbbaf (b0bbaff s.toNat (b0baf (↑(byteAt text i.toNat).toNat : Int).toNat).toNat).toNat ≥
    (0 : Int)) =
    false →
    ((True ∧
    Sub (AV.sc (Value.string text)) (AV.sc (Value.string text)) ∧
    True ∧
    Sub (AV.sc (Value.int IntKind.i64 at_)) (AV.sc (Value.int IntKind.i64 at_)) ∧
    True ∧
    Sub (AV.pt (1000 : Nat) [] (0 : Nat)) (AV.pt (1000 : Nat) [] (0 : Nat)) ∧
    True ∧
    Sub (AV.pt (1001 : Nat) [] (0 : Nat)) (AV.pt (1001 : Nat) [] (0 : Nat)) ∧
    True ∧
    Sub (AV.pt (1002 : Nat) [] (0 : Nat)) (AV.pt (1002 : Nat) [] (0 : Nat)) ∧
    True ∧
    Sub
    (AV.sc
    (Value.int IntKind.i64
    (b0bbaff s.toNat
    (b0baf (↑(byteAt text i.toNat).toNat : Int).toNat).toNat)))
    (AV.sc
    (Value.int IntKind.i64
    (b0bbaff s.toNat
    (b0baf (↑(byteAt text i.toNat).toNat : Int).toNat).toNat))) ∧
    True ∧
    Sub (AV.sc (Value.int IntKind.i64 (IntKind.i64.wrap (i + (1 : Int)))))
    (AV.sc (Value.int IntKind.i64 (IntKind.i64.wrap (i + (1 : Int))))) ∧
    True) ∧
    (True ∧ True ∧ True ∧ True ∧ True) ∧
    SubB
    (AV.cons (1 : Nat) (AV.sc (Value.int IntKind.i64 b0a))
    (AV.cons (256 : Nat)
    (AV.ar (256 : Nat) (1 : Nat) fun (i0 : Nat) => AV.sc (Value.int IntKind.u8 (b0baf i0)))
    (AV.cons (1 : Nat)
    (AV.vec true (1 : Nat) b0bban b0bban fun (i0 : Nat) =>
    AV.vec true (1 : Nat) (b0bbafn i0) (b0bbafn i0) fun (i1 : Nat) =>
    AV.sc (Value.int IntKind.i64 (b0bbaff i0 i1)))
    (AV.cons (1 : Nat)
    (AV.vec true (1 : Nat) b0bbban b0bbban fun (i0 : Nat) =>
    AV.sc (Value.int IntKind.i64 (b0bbbaf i0)))
    AV.nil))))
    (AV.cons (1 : Nat) (AV.sc (Value.int IntKind.i64 b0a))
    (AV.cons (256 : Nat)
    (AV.ar (256 : Nat) (1 : Nat) fun (i0 : Nat) => AV.sc (Value.int IntKind.u8 (b0baf i0)))
    (AV.cons (1 : Nat)
    (AV.vec true (1 : Nat) b0bban b0bban fun (i0 : Nat) =>
    AV.vec true (1 : Nat) (b0bbafn i0) (b0bbafn i0) fun (i1 : Nat) =>
    AV.sc (Value.int IntKind.i64 (b0bbaff i0 i1)))
    (AV.cons (1 : Nat)
    (AV.vec true (1 : Nat) b0bbban b0bbban fun (i0 : Nat) =>
    AV.sc (Value.int IntKind.i64 (b0bbbaf i0)))
    AV.nil)))) ∧
    (True ∧ True ∧ True ∧ True) ∧
    SubB
    (AV.cons (1 : Nat) (AV.sc (Value.int IntKind.i64 b1a))
    (AV.cons (1 : Nat) (AV.sc (Value.int IntKind.i64 b1ba))
    (AV.cons (1 : Nat) (AV.sc (Value.int IntKind.i64 b1bba)) AV.nil)))
    (AV.cons (1 : Nat) (AV.sc (Value.int IntKind.i64 b1a))
    (AV.cons (1 : Nat) (AV.sc (Value.int IntKind.i64 b1ba))
    (AV.cons (1 : Nat) (AV.sc (Value.int IntKind.i64 b1bba)) AV.nil))) ∧
    (True ∧ True ∧ True ∧ True) ∧
    SubB
    (AV.cons (1 : Nat) (AV.sc (Value.int IntKind.i64 b2a))
    (AV.cons (1 : Nat) (AV.sc (Value.int IntKind.i64 b2ba))
    (AV.cons (1 : Nat) (AV.sc (Value.int IntKind.i64 b2bba)) AV.nil)))
    (AV.cons (1 : Nat) (AV.sc (Value.int IntKind.i64 b2a))
    (AV.cons (1 : Nat) (AV.sc (Value.int IntKind.i64 b2ba))
    (AV.cons (1 : Nat) (AV.sc (Value.int IntKind.i64 b2bba)) AV.nil))) ∧
    True) ∧
    L55_1 text at_ (b0bbaff s.toNat (b0baf (↑(byteAt text i.toNat).toNat : Int).toNat).toNat)
    (IntKind.i64.wrap (i + (1 : Int))) b0a b0baf b0bban b0bbafn b0bbaff b0bbban b0bbbaf b1a b1ba b1bba
    b2a b2ba b2bba res)) from
    ⟨trivial, ⟨⟨rfl, trivial⟩, ⟨trivial, (And.elim (fun h3 k3 => ⟨(And.elim (fun h4 k4 => ⟨h4, k4⟩) h3), ⟨trivial, ⟨trivial, ⟨trivial, (And.elim (fun h7 k7 => ⟨(And.elim (fun h8 k8 => ⟨h8, k8⟩) h7), ⟨trivial, (And.elim (fun h9 k9 => ⟨(And.elim (fun h10 k10 => ⟨h10, k10⟩) h9), (And.elim (fun h10 k10 => ⟨⟨rfl, ((fun h12 => ⟨h12, trivial⟩) h10)⟩, (And.elim (fun h11 k11 => ⟨(And.elim (fun h12 k12 => ⟨h12, k12⟩) h11), ⟨trivial, ⟨trivial, ⟨trivial, ⟨trivial, ⟨trivial, ⟨trivial, ⟨trivial, (And.elim (fun h19 k19 => ⟨(fun x20 => (fun h20 => ⟨⟨⟨trivial, ⟨Sub.refl _, ⟨trivial, ⟨Sub.refl _, ⟨trivial, ⟨Sub.refl _, ⟨trivial, ⟨Sub.refl _, trivial⟩⟩⟩⟩⟩⟩⟩⟩, ⟨⟨trivial, ⟨trivial, ⟨trivial, trivial⟩⟩⟩, ⟨SubB.refl _, ⟨⟨trivial, ⟨trivial, ⟨trivial, trivial⟩⟩⟩, ⟨SubB.refl _, trivial⟩⟩⟩⟩⟩, h20⟩) (h19 x20)), (fun x20 => (fun h20 => ⟨trivial, ⟨⟨rfl, trivial⟩, ⟨trivial, (And.elim (fun h24 k24 => ⟨(And.elim (fun h25 k25 => ⟨h25, k25⟩) h24), ⟨trivial, ⟨trivial, (And.elim (fun h27 k27 => ⟨(fun x28 => (fun h28 => ⟨trivial, ⟨⟨rfl, trivial⟩, ⟨trivial, ⟨(And.elim (fun h33 k33 => ⟨h33, k33⟩) h24), ⟨trivial, ⟨trivial, ⟨trivial, ⟨trivial, ⟨trivial, ⟨⟨rfl, trivial⟩, ⟨trivial, ⟨⟨rfl, trivial⟩, ⟨⟨⟨trivial, ⟨Sub.refl _, ⟨trivial, ⟨Sub.refl _, ⟨trivial, ⟨Sub.refl _, ⟨trivial, ⟨Sub.refl _, ⟨trivial, ⟨Sub.refl _, ⟨trivial, ⟨Sub.refl _, ⟨trivial, ⟨Sub.refl _, trivial⟩⟩⟩⟩⟩⟩⟩⟩⟩⟩⟩⟩⟩⟩, ⟨⟨trivial, ⟨trivial, ⟨trivial, ⟨trivial, trivial⟩⟩⟩⟩, ⟨SubB.refl _, ⟨⟨trivial, ⟨trivial, ⟨trivial, trivial⟩⟩⟩, ⟨SubB.refl _, ⟨⟨trivial, ⟨trivial, ⟨trivial, trivial⟩⟩⟩, ⟨SubB.refl _, trivial⟩⟩⟩⟩⟩⟩⟩, h28⟩⟩⟩⟩⟩⟩⟩⟩⟩⟩⟩⟩⟩) (h27 x28)), (fun x28 => (fun h28 => ⟨⟨⟨trivial, ⟨Sub.refl _, ⟨trivial, ⟨Sub.refl _, ⟨trivial, ⟨Sub.refl _, ⟨trivial, ⟨Sub.refl _, ⟨trivial, ⟨Sub.refl _, ⟨trivial, ⟨Sub.refl _, ⟨trivial, ⟨Sub.refl _, trivial⟩⟩⟩⟩⟩⟩⟩⟩⟩⟩⟩⟩⟩⟩, ⟨⟨trivial, ⟨trivial, ⟨trivial, ⟨trivial, trivial⟩⟩⟩⟩, ⟨SubB.refl _, ⟨⟨trivial, ⟨trivial, ⟨trivial, trivial⟩⟩⟩, ⟨SubB.refl _, ⟨⟨trivial, ⟨trivial, ⟨trivial, trivial⟩⟩⟩, ⟨SubB.refl _, trivial⟩⟩⟩⟩⟩⟩⟩, h28⟩) (k27 x28))⟩) k24)⟩⟩⟩) h20)⟩⟩⟩) (k19 x20))⟩) k11)⟩⟩⟩⟩⟩⟩⟩⟩) k10)⟩) k9)⟩) k7)⟩⟩) k3)⟩⟩⟩⟩) h)⟩⟩⟩)
theorem r55_1 (text : ByteArray) (at_ : Int) (s : Int) (i : Int) (b0a : Int) (b0baf : Nat → Int) (b0bban : Nat) (b0bbafn : Nat → Nat) (b0bbaff : Nat → Nat → Int) (b0bbban : Nat) (b0bbbaf : Nat → Int) (b1a : Int) (b1ba : Int) (b1bba : Int) (b2a : Int) (b2ba : Int) (b2bba : Int) (res : AV)
    (h : ((0 : Int) ≤ s ∧ s < (↑b0bban : Int)) ∧
  ∃ (r : Bool),
    Ok Proofs.Try.prog (92 : Nat)
    [AV.vec true (1 : Nat) (b0bbafn s.toNat) (b0bbafn s.toNat) fun (i : Nat) => AV.sc (Value.int IntKind.i64 (b0bbaff s.toNat i)),
    AV.sc (Value.func (Fn.func (93 : Nat)) #[] #[])]
    [] (AV.sc (Value.bool r)) [] ∧
    ((!r) = true → L55_2 at_ i b1a b1ba b1bba b2a b2ba b2bba res) ∧
    ((!r) = false →
    (decide (i < (↑text.size : Int)) = true → L55_0 text at_ s i b0a b0baf b0bban b0bbafn b0bbaff b0bbban b0bbbaf b1a b1ba b1bba b2a b2ba b2bba res) ∧
    (decide (i < (↑text.size : Int)) = false → L55_2 at_ (IntKind.i64.wrap (i + (1 : Int))) b1a b1ba b1bba b2a b2ba b2bba res))) :
    L55_1 text at_ s i b0a b0baf b0bban b0bbafn b0bbaff b0bbban b0bbbaf b1a b1ba b1bba b2a b2ba b2bba res :=
  rule Go.Am.Seat.tabOk 55 [] Go.Proofs.Try.f55 hf55 [1, 0, 1, 1, 1, 1, 1, 1, 1] (s55_1 text at_ s i b0a b0baf b0bban b0bbafn b0bbaff b0bbban b0bbbaf b1a b1ba b1bba b2a b2ba b2bba) (m55_1 text at_ s i b0a b0baf b0bban b0bbafn b0bbaff b0bbban b0bbbaf b1a b1ba b1bba b2a b2ba b2bba) res [] 400
    (Orc.call [] [] (fun (r92 : Bool) => AV.sc (Value.bool r92)) (fun (r92 : Bool) => []) fun (r92 : Bool) =>
  (Orc.cut (nat_lit 3) (s55_2 at_ i b1a b1ba b1bba b2a b2ba b2bba) (m55_2 at_ i b1a b1ba b1bba b2a b2ba b2bba)
    [((1000 : Nat), some (1001 : Nat)), ((1001 : Nat), some (1002 : Nat))]).br
    ((Orc.cut (nat_lit 3) (s55_0 text at_ s i b0a b0baf b0bban b0bbafn b0bbaff b0bbban b0bbbaf b1a b1ba b1bba b2a b2ba b2bba)
    (m55_0 text at_ s i b0a b0baf b0bban b0bbafn b0bbaff b0bbban b0bbbaf b1a b1ba b1bba b2a b2ba b2bba)
    [((1000 : Nat), some (1000 : Nat)), ((1001 : Nat), some (1001 : Nat)), ((1002 : Nat), some (1002 : Nat))]).br
    (Orc.cut (nat_lit 5) (s55_2 at_ (IntKind.i64.wrap (i + (1 : Int))) b1a b1ba b1bba b2a b2ba b2bba)
    (m55_2 at_ (IntKind.i64.wrap (i + (1 : Int))) b1a b1ba b1bba b2a b2ba b2bba) [((1000 : Nat), some (1001 : Nat)), ((1001 : Nat), some (1002 : Nat))]))) _ _ (by kernel_rfl) (by kernel_rfl) (show True ∧
  ((1 : Nat) + ((256 : Nat) + (0 : Nat)) = plus (0 : Nat) (257 : Nat) ∧ True) ∧
    True ∧
    ((0 : Int) ≤ s ∧ s < (↑b0bban : Int)) ∧
    True ∧
    ∃ (r : Bool),
    ((True ∧ True ∧ True) ∧
    True ∧
    Ok Proofs.Try.prog (92 : Nat)
    [AV.vec true (1 : Nat) (b0bbafn s.toNat) (b0bbafn s.toNat) fun (i : Nat) => AV.sc (Value.int IntKind.i64 (b0bbaff s.toNat i)),
    AV.sc (Value.func (Fn.func (93 : Nat)) #[] #[])]
    [] (AV.sc (Value.bool r)) []) ∧
    True ∧
    ((!r) = true →
    ((True ∧
    Sub (AV.sc (Value.int IntKind.i64 at_)) (AV.sc (Value.int IntKind.i64 at_)) ∧
    True ∧
    Sub (AV.pt (1000 : Nat) [] (0 : Nat)) (AV.pt (1000 : Nat) [] (0 : Nat)) ∧
    True ∧
    Sub (AV.pt (1001 : Nat) [] (0 : Nat)) (AV.pt (1001 : Nat) [] (0 : Nat)) ∧
    True ∧ Sub (AV.sc (Value.int IntKind.i64 i)) (AV.sc (Value.int IntKind.i64 i)) ∧ True) ∧
    (True ∧ True ∧ True ∧ True) ∧
    SubB
    (AV.cons (1 : Nat) (AV.sc (Value.int IntKind.i64 b1a))
    (AV.cons (1 : Nat) (AV.sc (Value.int IntKind.i64 b1ba)) (AV.cons (1 : Nat) (AV.sc (Value.int IntKind.i64 b1bba)) AV.nil)))
    (AV.cons (1 : Nat) (AV.sc (Value.int IntKind.i64 b1a))
    (AV.cons (1 : Nat) (AV.sc (Value.int IntKind.i64 b1ba)) (AV.cons (1 : Nat) (AV.sc (Value.int IntKind.i64 b1bba)) AV.nil))) ∧
    (True ∧ True ∧ True ∧ True) ∧
    SubB
    (AV.cons (1 : Nat) (AV.sc (Value.int IntKind.i64 b2a))
    (AV.cons (1 : Nat) (AV.sc (Value.int IntKind.i64 b2ba)) (AV.cons (1 : Nat) (AV.sc (Value.int IntKind.i64 b2bba)) AV.nil)))
    (AV.cons (1 : Nat) (AV.sc (Value.int IntKind.i64 b2a))
    (AV.cons (1 : Nat) (AV.sc (Value.int IntKind.i64 b2ba)) (AV.cons (1 : Nat) (AV.sc (Value.int IntKind.i64 b2bba)) AV.nil))) ∧
    True) ∧
    L55_2 at_ i b1a b1ba b1bba b2a b2ba b2bba res) ∧
    ((!r) = false →
    True ∧
    True ∧
    True ∧
    True ∧
    (decide (i < (↑text.size : Int)) = true →
    ((True ∧
    Sub (AV.sc (Value.string text)) (AV.sc (Value.string text)) ∧
    True ∧
    Sub (AV.sc (Value.int IntKind.i64 at_)) (AV.sc (Value.int IntKind.i64 at_)) ∧
    True ∧
    Sub (AV.pt (1000 : Nat) [] (0 : Nat)) (AV.pt (1000 : Nat) [] (0 : Nat)) ∧
    True ∧
    Sub (AV.pt (1001 : Nat) [] (0 : Nat)) (AV.pt (1001 : Nat) [] (0 : Nat)) ∧
    True ∧
    Sub (AV.pt (1002 : Nat) [] (0 : Nat)) (AV.pt (1002 : Nat) [] (0 : Nat)) ∧
    True ∧
    Sub (AV.sc (Value.int IntKind.i64 s)) (AV.sc (Value.int IntKind.i64 s)) ∧
    True ∧ Sub (AV.sc (Value.int IntKind.i64 i)) (AV.sc (Value.int IntKind.i64 i)) ∧ True) ∧
    (True ∧ True ∧ True ∧ True ∧ True) ∧
    SubB
    (AV.cons (1 : Nat) (AV.sc (Value.int IntKind.i64 b0a))
    (AV.cons (256 : Nat) (AV.ar (256 : Nat) (1 : Nat) fun (i0 : Nat) => AV.sc (Value.int IntKind.u8 (b0baf i0)))
    (AV.cons (1 : Nat)
    (AV.vec true (1 : Nat) b0bban b0bban fun (i0 : Nat) =>
    AV.vec true (1 : Nat) (b0bbafn i0) (b0bbafn i0) fun (i1 : Nat) =>
    AV.sc (Value.int IntKind.i64 (b0bbaff i0 i1)))
    (AV.cons (1 : Nat)
    (AV.vec true (1 : Nat) b0bbban b0bbban fun (i0 : Nat) => AV.sc (Value.int IntKind.i64 (b0bbbaf i0)))
    AV.nil))))
    (AV.cons (1 : Nat) (AV.sc (Value.int IntKind.i64 b0a))
    (AV.cons (256 : Nat) (AV.ar (256 : Nat) (1 : Nat) fun (i0 : Nat) => AV.sc (Value.int IntKind.u8 (b0baf i0)))
    (AV.cons (1 : Nat)
    (AV.vec true (1 : Nat) b0bban b0bban fun (i0 : Nat) =>
    AV.vec true (1 : Nat) (b0bbafn i0) (b0bbafn i0) fun (i1 : Nat) =>
    AV.sc (Value.int IntKind.i64 (b0bbaff i0 i1)))
    (AV.cons (1 : Nat)
    (AV.vec true (1 : Nat) b0bbban b0bbban fun (i0 : Nat) => AV.sc (Value.int IntKind.i64 (b0bbbaf i0)))
    AV.nil)))) ∧
    (True ∧ True ∧ True ∧ True) ∧
    SubB
    (AV.cons (1 : Nat) (AV.sc (Value.int IntKind.i64 b1a))
    (AV.cons (1 : Nat) (AV.sc (Value.int IntKind.i64 b1ba))
    (AV.cons (1 : Nat) (AV.sc (Value.int IntKind.i64 b1bba)) AV.nil)))
    (AV.cons (1 : Nat) (AV.sc (Value.int IntKind.i64 b1a))
    (AV.cons (1 : Nat) (AV.sc (Value.int IntKind.i64 b1ba))
    (AV.cons (1 : Nat) (AV.sc (Value.int IntKind.i64 b1bba)) AV.nil))) ∧
    (True ∧ True ∧ True ∧ True) ∧
    SubB
    (AV.cons (1 : Nat) (AV.sc (Value.int IntKind.i64 b2a))
    (AV.cons (1 : Nat) (AV.sc (Value.int IntKind.i64 b2ba))
    (AV.cons (1 : Nat) (AV.sc (Value.int IntKind.i64 b2bba)) AV.nil)))
    (AV.cons (1 : Nat) (AV.sc (Value.int IntKind.i64 b2a))
    (AV.cons (1 : Nat) (AV.sc (Value.int IntKind.i64 b2ba))
    (AV.cons (1 : Nat) (AV.sc (Value.int IntKind.i64 b2bba)) AV.nil))) ∧
    True) ∧
    L55_0 text at_ s i b0a b0baf b0bban b0bbafn b0bbaff b0bbban b0bbbaf b1a b1ba b1bba b2a b2ba b2bba res) ∧
    (decide (i < (↑text.size : Int)) = false →
    True ∧
    True ∧
    True ∧
    ((True ∧
    Sub (AV.sc (Value.int IntKind.i64 at_)) (AV.sc (Value.int IntKind.i64 at_)) ∧
    True ∧
    Sub (AV.pt (1000 : Nat) [] (0 : Nat)) (AV.pt (1000 : Nat) [] (0 : Nat)) ∧
    True ∧
    Sub (AV.pt (1001 : Nat) [] (0 : Nat)) (AV.pt (1001 : Nat) [] (0 : Nat)) ∧
    True ∧
    Sub (AV.sc (Value.int IntKind.i64 (IntKind.i64.wrap (i + (1 : Int)))))
    (AV.sc (Value.int IntKind.i64 (IntKind.i64.wrap (i + (1 : Int))))) ∧
    True) ∧
    (True ∧ True ∧ True ∧ True) ∧
    SubB
    (AV.cons (1 : Nat) (AV.sc (Value.int IntKind.i64 b1a))
    (AV.cons (1 : Nat) (AV.sc (Value.int IntKind.i64 b1ba))
    (AV.cons (1 : Nat) (AV.sc (Value.int IntKind.i64 b1bba)) AV.nil)))
    (AV.cons (1 : Nat) (AV.sc (Value.int IntKind.i64 b1a))
    (AV.cons (1 : Nat) (AV.sc (Value.int IntKind.i64 b1ba))
    (AV.cons (1 : Nat) (AV.sc (Value.int IntKind.i64 b1bba)) AV.nil))) ∧
    (True ∧ True ∧ True ∧ True) ∧
    SubB
    (AV.cons (1 : Nat) (AV.sc (Value.int IntKind.i64 b2a))
    (AV.cons (1 : Nat) (AV.sc (Value.int IntKind.i64 b2ba))
    (AV.cons (1 : Nat) (AV.sc (Value.int IntKind.i64 b2bba)) AV.nil)))
    (AV.cons (1 : Nat) (AV.sc (Value.int IntKind.i64 b2a))
    (AV.cons (1 : Nat) (AV.sc (Value.int IntKind.i64 b2ba))
    (AV.cons (1 : Nat) (AV.sc (Value.int IntKind.i64 b2bba)) AV.nil))) ∧
    True) ∧
    L55_2 at_ (IntKind.i64.wrap (i + (1 : Int))) b1a b1ba b1bba b2a b2ba b2bba res)) from
    ⟨trivial, ⟨⟨rfl, trivial⟩, ⟨trivial, (And.elim (fun h3 k3 => ⟨(And.elim (fun h4 k4 => ⟨h4, k4⟩) h3), ⟨trivial, (Exists.elim k3 fun x5 h5 => ⟨x5, (And.elim (fun h6 k6 => ⟨⟨⟨trivial, ⟨trivial, trivial⟩⟩, ⟨trivial, h6⟩⟩, ⟨trivial, (And.elim (fun h8 k8 => ⟨(fun x9 => (fun h9 => ⟨⟨⟨trivial, ⟨Sub.refl _, ⟨trivial, ⟨Sub.refl _, ⟨trivial, ⟨Sub.refl _, ⟨trivial, ⟨Sub.refl _, trivial⟩⟩⟩⟩⟩⟩⟩⟩, ⟨⟨trivial, ⟨trivial, ⟨trivial, trivial⟩⟩⟩, ⟨SubB.refl _, ⟨⟨trivial, ⟨trivial, ⟨trivial, trivial⟩⟩⟩, ⟨SubB.refl _, trivial⟩⟩⟩⟩⟩, h9⟩) (h8 x9)), (fun x9 => (fun h9 => ⟨trivial, ⟨trivial, ⟨trivial, ⟨trivial, (And.elim (fun h14 k14 => ⟨(fun x15 => (fun h15 => ⟨⟨⟨trivial, ⟨Sub.refl _, ⟨trivial, ⟨Sub.refl _, ⟨trivial, ⟨Sub.refl _, ⟨trivial, ⟨Sub.refl _, ⟨trivial, ⟨Sub.refl _, ⟨trivial, ⟨Sub.refl _, ⟨trivial, ⟨Sub.refl _, trivial⟩⟩⟩⟩⟩⟩⟩⟩⟩⟩⟩⟩⟩⟩, ⟨⟨trivial, ⟨trivial, ⟨trivial, ⟨trivial, trivial⟩⟩⟩⟩, ⟨SubB.refl _, ⟨⟨trivial, ⟨trivial, ⟨trivial, trivial⟩⟩⟩, ⟨SubB.refl _, ⟨⟨trivial, ⟨trivial, ⟨trivial, trivial⟩⟩⟩, ⟨SubB.refl _, trivial⟩⟩⟩⟩⟩⟩⟩, h15⟩) (h14 x15)), (fun x15 => (fun h15 => ⟨trivial, ⟨trivial, ⟨trivial, ⟨⟨⟨trivial, ⟨Sub.refl _, ⟨trivial, ⟨Sub.refl _, ⟨trivial, ⟨Sub.refl _, ⟨trivial, ⟨Sub.refl _, trivial⟩⟩⟩⟩⟩⟩⟩⟩, ⟨⟨trivial, ⟨trivial, ⟨trivial, trivial⟩⟩⟩, ⟨SubB.refl _, ⟨⟨trivial, ⟨trivial, ⟨trivial, trivial⟩⟩⟩, ⟨SubB.refl _, trivial⟩⟩⟩⟩⟩, h15⟩⟩⟩⟩) (k14 x15))⟩) h9)⟩⟩⟩⟩) (k8 x9))⟩) k6)⟩⟩) h5)⟩)⟩⟩) h)⟩⟩⟩)
theorem r55_2 (at_ : Int) (i : Int) (b0a : Int) (b0ba : Int) (b0bba : Int) (b1a : Int) (b1ba : Int) (b1bba : Int) (res : AV)
    (h : Sub
  (AV.cons (1 : Nat) (AV.sc (Value.int IntKind.i64 b1a))
    (AV.cons (1 : Nat) (AV.sc (Value.int IntKind.i64 b1ba)) (AV.cons (1 : Nat) (AV.sc (Value.int IntKind.i64 (IntKind.i64.wrap (i - at_)))) AV.nil)))
  res) :
    L55_2 at_ i b0a b0ba b0bba b1a b1ba b1bba res :=
  rule Go.Am.Seat.tabOk 55 [] Go.Proofs.Try.f55 hf55 [1, 0, 1, 1, 1, 1, 1, 1, 1, 1, 1, 1, 1] (s55_2 at_ i b0a b0ba b0bba b1a b1ba b1bba) (m55_2 at_ i b0a b0ba b0bba b1a b1ba b1bba) res [] 400
    (Orc.fin
  (AV.cons (1 : Nat) (AV.sc (Value.int IntKind.i64 b1a))
    (AV.cons (1 : Nat) (AV.sc (Value.int IntKind.i64 b1ba)) (AV.cons (1 : Nat) (AV.sc (Value.int IntKind.i64 (IntKind.i64.wrap (i - at_)))) AV.nil)))
  [] []) _ _ (by kernel_rfl) (by kernel_rfl) (show True ∧
  True ∧
    True ∧
    True ∧
    ((1 : Nat) + ((1 : Nat) + (0 : Nat)) = plus (0 : Nat) (2 : Nat) ∧ True) ∧
    ((0 : Nat) = (0 : Nat) ∧ True) ∧
    ((0 : Nat) = (0 : Nat) ∧ True) ∧
    ((0 : Nat) = (0 : Nat) ∧ True) ∧
    (((True ∧ True ∧ True ∧ True) ∧
    Sub
    (AV.cons (1 : Nat) (AV.sc (Value.int IntKind.i64 b1a))
    (AV.cons (1 : Nat) (AV.sc (Value.int IntKind.i64 b1ba))
    (AV.cons (1 : Nat) (AV.sc (Value.int IntKind.i64 (IntKind.i64.wrap (i - at_)))) AV.nil)))
    (AV.cons (1 : Nat) (AV.sc (Value.int IntKind.i64 b1a))
    (AV.cons (1 : Nat) (AV.sc (Value.int IntKind.i64 b1ba))
    (AV.cons (1 : Nat) (AV.sc (Value.int IntKind.i64 (IntKind.i64.wrap (i - at_)))) AV.nil))) ∧
    True) ∧
    True) ∧
    Sub
    (AV.cons (1 : Nat) (AV.sc (Value.int IntKind.i64 b1a))
    (AV.cons (1 : Nat) (AV.sc (Value.int IntKind.i64 b1ba))
    (AV.cons (1 : Nat) (AV.sc (Value.int IntKind.i64 (IntKind.i64.wrap (i - at_)))) AV.nil)))
    res ∧
    SubOut [] [] from
    ⟨trivial, ⟨trivial, ⟨trivial, ⟨trivial, ⟨⟨rfl, trivial⟩, ⟨⟨rfl, trivial⟩, ⟨⟨rfl, trivial⟩, ⟨⟨rfl, trivial⟩, ⟨⟨⟨⟨trivial, ⟨trivial, ⟨trivial, trivial⟩⟩⟩, ⟨Sub.refl _, trivial⟩⟩, trivial⟩, ((fun h9 => ⟨h9, trivial⟩) h)⟩⟩⟩⟩⟩⟩⟩⟩⟩)
theorem hf64 : Go.Proofs.Try.prog.funcs[64]? = some Go.Proofs.Try.f64 := by kernel_rfl
abbrev s64_e (rulesn : Nat) (rulesfa : Nat → Int) (rulesfbaa : Nat → Int) (rulesfbabaf : Nat → Nat → Int) (da : Int) (dbaf : Nat → Int) (dbban : Nat) (dbbafn : Nat → Nat) (dbbaff : Nat → Nat → Int) (dbbban : Nat) (dbbbaf : Nat → Int) (text : ByteArray) (at_ : Int) : List (Nat × AV) := [(0, (.vec true 7 rulesn rulesn (fun i0 => (.cons 1 (.sc (.int .i64 (rulesfa i0))) (.cons 6 (.cons 1 (.sc (.int .i64 (rulesfbaa i0))) (.cons 4 (.ar 4 1 (fun i1 => (.sc (.int .u64 (rulesfbabaf i0 i1))))) (.cons 1 .undef .nil))) .nil))))), (1, (.cons 1 (.sc (.int .i64 da)) (.cons 256 (.ar 256 1 (fun i0 => (.sc (.int .u8 (dbaf i0))))) (.cons 1 (.vec true 1 dbban dbban (fun i0 => (.vec true 1 (dbbafn i0) (dbbafn i0) (fun i1 => (.sc (.int .i64 (dbbaff i0 i1))))))) (.cons 1 (.vec true 1 dbbban dbbban (fun i0 => (.sc (.int .i64 (dbbbaf i0))))) .nil))))), (2, (.sc (.string text))), (3, (.sc (.int .i64 at_)))]
abbrev m64_e (rulesn : Nat) (rulesfa : Nat → Int) (rulesfbaa : Nat → Int) (rulesfbabaf : Nat → Nat → Int) (da : Int) (dbaf : Nat → Int) (dbban : Nat) (dbbafn : Nat → Nat) (dbbaff : Nat → Nat → Int) (dbbban : Nat) (dbbbaf : Nat → Int) (text : ByteArray) (at_ : Int) : List (Nat × Nat × AV) := []
def L64_e (rulesn : Nat) (rulesfa : Nat → Int) (rulesfbaa : Nat → Int) (rulesfbabaf : Nat → Nat → Int) (da : Int) (dbaf : Nat → Int) (dbban : Nat) (dbbafn : Nat → Nat) (dbbaff : Nat → Nat → Int) (dbbban : Nat) (dbbbaf : Nat → Int) (text : ByteArray) (at_ : Int) (res : AV) : Prop := Goes ⟨Go.Proofs.Try.prog, 64, [], res, []⟩ (place Go.Proofs.Try.f64 []) (s64_e rulesn rulesfa rulesfbaa rulesfbabaf da dbaf dbban dbbafn dbbaff dbbban dbbbaf text at_) (m64_e rulesn rulesfa rulesfbaa rulesfbabaf da dbaf dbban dbbafn dbbaff dbbban dbbbaf text at_)
theorem a64_e (rulesn : Nat) (rulesfa : Nat → Int) (rulesfbaa : Nat → Int) (rulesfbabaf : Nat → Nat → Int) (da : Int) (dbaf : Nat → Int) (dbban : Nat) (dbbafn : Nat → Nat) (dbbaff : Nat → Nat → Int) (dbbban : Nat) (dbbbaf : Nat → Int) (text : ByteArray) (at_ : Int) (res : AV) (h : (∀ slot, fact (look .undef (s64_e rulesn rulesfa rulesfbaa rulesfbabaf da dbaf dbban dbbafn dbbaff dbbban dbbbaf text at_) slot)) → L64_e rulesn rulesfa rulesfbaa rulesfbabaf da dbaf dbban dbbafn dbbaff dbbban dbbbaf text at_ res) : L64_e rulesn rulesfa rulesfbaa rulesfbabaf da dbaf dbban dbbafn dbbaff dbbban dbbbaf text at_ res :=
  assumeRule 64 [] Go.Proofs.Try.f64 hf64 [] (s64_e rulesn rulesfa rulesfbaa rulesfbabaf da dbaf dbban dbbafn dbbaff dbbban dbbbaf text at_) (m64_e rulesn rulesfa rulesfbaa rulesfbabaf da dbaf dbban dbbafn dbbaff dbbban dbbbaf text at_) res [] _ (by kernel_rfl) h
theorem o64 (rulesn : Nat) (rulesfa : Nat → Int) (rulesfbaa : Nat → Int) (rulesfbabaf : Nat → Nat → Int) (da : Int) (dbaf : Nat → Int) (dbban : Nat) (dbbafn : Nat → Nat) (dbbaff : Nat → Nat → Int) (dbbban : Nat) (dbbbaf : Nat → Int) (text : ByteArray) (at_ : Int) (res : AV) (hnew : newOnly res) (h : L64_e rulesn rulesfa rulesfbaa rulesfbabaf da dbaf dbban dbbafn dbbaff dbbban dbbbaf text at_ res) : Ok Go.Proofs.Try.prog 64 [(.vec true 7 rulesn rulesn (fun i0 => (.cons 1 (.sc (.int .i64 (rulesfa i0))) (.cons 6 (.cons 1 (.sc (.int .i64 (rulesfbaa i0))) (.cons 4 (.ar 4 1 (fun i1 => (.sc (.int .u64 (rulesfbabaf i0 i1))))) (.cons 1 .undef .nil))) .nil)))), (.cons 1 (.sc (.int .i64 da)) (.cons 256 (.ar 256 1 (fun i0 => (.sc (.int .u8 (dbaf i0))))) (.cons 1 (.vec true 1 dbban dbban (fun i0 => (.vec true 1 (dbbafn i0) (dbbafn i0) (fun i1 => (.sc (.int .i64 (dbbaff i0 i1))))))) (.cons 1 (.vec true 1 dbbban dbbban (fun i0 => (.sc (.int .i64 (dbbbaf i0))))) .nil)))), (.sc (.string text)), (.sc (.int .i64 at_))] [] res [] :=
  okRule2 64 Go.Proofs.Try.f64 hf64 [(.vec true 7 rulesn rulesn (fun i0 => (.cons 1 (.sc (.int .i64 (rulesfa i0))) (.cons 6 (.cons 1 (.sc (.int .i64 (rulesfbaa i0))) (.cons 4 (.ar 4 1 (fun i1 => (.sc (.int .u64 (rulesfbabaf i0 i1))))) (.cons 1 .undef .nil))) .nil)))), (.cons 1 (.sc (.int .i64 da)) (.cons 256 (.ar 256 1 (fun i0 => (.sc (.int .u8 (dbaf i0))))) (.cons 1 (.vec true 1 dbban dbban (fun i0 => (.vec true 1 (dbbafn i0) (dbbafn i0) (fun i1 => (.sc (.int .i64 (dbbaff i0 i1))))))) (.cons 1 (.vec true 1 dbbban dbbban (fun i0 => (.sc (.int .i64 (dbbbaf i0))))) .nil)))), (.sc (.string text)), (.sc (.int .i64 at_))] [] res [] [] rfl (by kernel_rfl) (by kernel_rfl) (by kernel_rfl) ⟨hnew, by simp⟩ (L64_e rulesn rulesfa rulesfbaa rulesfbabaf da dbaf dbban dbbafn dbbaff dbbban dbbbaf text at_ res) (by kernel_rfl) h
theorem r64_e (rulesn : Nat) (rulesfa : Nat → Int) (rulesfbaa : Nat → Int) (rulesfbabaf : Nat → Nat → Int) (da : Int) (dbaf : Nat → Int) (dbban : Nat) (dbbafn : Nat → Nat) (dbbaff : Nat → Nat → Int) (dbbban : Nat) (dbbbaf : Nat → Int) (text : ByteArray) (at_ : Int) (res : AV)
    (h : ∃ (r : Int × Int × Int),
  Ok Proofs.Try.prog (55 : Nat)
    [AV.cons (1 : Nat) (AV.sc (Value.int IntKind.i64 da))
    (AV.cons (256 : Nat) (AV.ar (256 : Nat) (1 : Nat) fun (i : Nat) => AV.sc (Value.int IntKind.u8 (dbaf i)))
    (AV.cons (1 : Nat)
    (AV.vec true (1 : Nat) dbban dbban fun (i : Nat) =>
    AV.vec true (1 : Nat) (dbbafn i) (dbbafn i) fun (i_1 : Nat) => AV.sc (Value.int IntKind.i64 (dbbaff i i_1)))
    (AV.cons (1 : Nat) (AV.vec true (1 : Nat) dbbban dbbban fun (i : Nat) => AV.sc (Value.int IntKind.i64 (dbbbaf i))) AV.nil))),
    AV.sc (Value.string text), AV.sc (Value.int IntKind.i64 at_)]
    []
    (AV.cons (1 : Nat) (AV.sc (Value.int IntKind.i64 r.fst))
    (AV.cons (1 : Nat) (AV.sc (Value.int IntKind.i64 r.snd.fst)) (AV.cons (1 : Nat) (AV.sc (Value.int IntKind.i64 r.snd.snd)) AV.nil)))
    [] ∧
    (decide (r.fst < (0 : Int)) = true →
    Sub
    (AV.cons (1 : Nat) (AV.sc (Value.int IntKind.i64 (23 : Int)))
    (AV.cons (1 : Nat) (AV.sc (Value.int IntKind.i64 (1 : Int))) (AV.cons (1 : Nat) (AV.sc (Value.int IntKind.i64 r.snd.snd)) AV.nil)))
    res) ∧
    (decide (r.fst < (0 : Int)) = false →
    ((0 : Int) ≤ r.fst ∧ r.fst < (↑rulesn : Int)) ∧
    Sub
    (AV.cons (1 : Nat) (AV.sc (Value.int IntKind.i64 (rulesfa r.fst.toNat)))
    (AV.cons (1 : Nat) (AV.sc (Value.int IntKind.i64 r.snd.fst)) (AV.cons (1 : Nat) (AV.sc (Value.int IntKind.i64 r.snd.snd)) AV.nil)))
    res)) :
    L64_e rulesn rulesfa rulesfbaa rulesfbabaf da dbaf dbban dbbafn dbbaff dbbban dbbbaf text at_ res :=
  rule Go.Am.Seat.tabOk 64 [] Go.Proofs.Try.f64 hf64 [] (s64_e rulesn rulesfa rulesfbaa rulesfbabaf da dbaf dbban dbbafn dbbaff dbbban dbbbaf text at_) (m64_e rulesn rulesfa rulesfbaa rulesfbabaf da dbaf dbban dbbafn dbbaff dbbban dbbbaf text at_) res [] 400
    (Orc.call [] []
  (fun (r55 : Int × Int × Int) =>
    AV.cons (1 : Nat) (AV.sc (Value.int IntKind.i64 r55.fst))
    (AV.cons (1 : Nat) (AV.sc (Value.int IntKind.i64 r55.snd.fst)) (AV.cons (1 : Nat) (AV.sc (Value.int IntKind.i64 r55.snd.snd)) AV.nil)))
  (fun (r55 : Int × Int × Int) => []) fun (r55 : Int × Int × Int) =>
  (Orc.fin
    (AV.cons (1 : Nat) (AV.sc (Value.int IntKind.i64 (23 : Int)))
    (AV.cons (1 : Nat) (AV.sc (Value.int IntKind.i64 (1 : Int))) (AV.cons (1 : Nat) (AV.sc (Value.int IntKind.i64 r55.snd.snd)) AV.nil)))
    [] []).br
    (Orc.fin
    (AV.cons (1 : Nat) (AV.sc (Value.int IntKind.i64 (rulesfa r55.fst.toNat)))
    (AV.cons (1 : Nat) (AV.sc (Value.int IntKind.i64 r55.snd.fst)) (AV.cons (1 : Nat) (AV.sc (Value.int IntKind.i64 r55.snd.snd)) AV.nil)))
    [] [])) _ _ (by kernel_rfl) (by kernel_rfl) (show True ∧
  True ∧
    ((0 : Nat) = (0 : Nat) ∧ True) ∧
    True ∧
    True ∧
    ∃ (r : Int × Int × Int),
    (((True ∧ True ∧ True ∧ True ∧ True) ∧ True ∧ True ∧ True) ∧
    True ∧
    Ok Proofs.Try.prog (55 : Nat)
    [AV.cons (1 : Nat) (AV.sc (Value.int IntKind.i64 da))
    (AV.cons (256 : Nat) (AV.ar (256 : Nat) (1 : Nat) fun (i : Nat) => AV.sc (Value.int IntKind.u8 (dbaf i)))
    (AV.cons (1 : Nat)
    (AV.vec true (1 : Nat) dbban dbban fun (i : Nat) =>
    AV.vec true (1 : Nat) (dbbafn i) (dbbafn i) fun (i_1 : Nat) => AV.sc (Value.int IntKind.i64 (dbbaff i i_1)))
    (AV.cons (1 : Nat) (AV.vec true (1 : Nat) dbbban dbbban fun (i : Nat) => AV.sc (Value.int IntKind.i64 (dbbbaf i))) AV.nil))),
    AV.sc (Value.string text), AV.sc (Value.int IntKind.i64 at_)]
    []
    (AV.cons (1 : Nat) (AV.sc (Value.int IntKind.i64 r.fst))
    (AV.cons (1 : Nat) (AV.sc (Value.int IntKind.i64 r.snd.fst)) (AV.cons (1 : Nat) (AV.sc (Value.int IntKind.i64 r.snd.snd)) AV.nil)))
    []) ∧
    True ∧
    ((0 : Nat) = (0 : Nat) ∧ True) ∧
    True ∧
    ((0 : Nat) = plus (0 : Nat) (0 : Nat) ∧ True) ∧
    True ∧
    (decide (r.fst < (0 : Int)) = true →
    True ∧
    ((1 : Nat) + ((1 : Nat) + (0 : Nat)) = plus (0 : Nat) (2 : Nat) ∧ True) ∧
    True ∧
    ((0 : Nat) = (0 : Nat) ∧ True) ∧
    ((0 : Nat) = (0 : Nat) ∧ True) ∧
    (((True ∧ True ∧ True ∧ True) ∧
    Sub
    (AV.cons (1 : Nat) (AV.sc (Value.int IntKind.i64 (23 : Int)))
    (AV.cons (1 : Nat) (AV.sc (Value.int IntKind.i64 (1 : Int)))
    (AV.cons (1 : Nat) (AV.sc (Value.int IntKind.i64 r.snd.snd)) AV.nil)))
    (AV.cons (1 : Nat) (AV.sc (Value.int IntKind.i64 (23 : Int)))
    (AV.cons (1 : Nat) (AV.sc (Value.int IntKind.i64 (1 : Int)))
    (AV.cons (1 : Nat) (AV.sc (Value.int IntKind.i64 r.snd.snd)) AV.nil))) ∧
    True) ∧
    True) ∧
    Sub
    (AV.cons (1 : Nat) (AV.sc (Value.int IntKind.i64 (23 : Int)))
    (AV.cons (1 : Nat) (AV.sc (Value.int IntKind.i64 (1 : Int)))
    (AV.cons (1 : Nat) (AV.sc (Value.int IntKind.i64 r.snd.snd)) AV.nil)))
    res ∧
    SubOut [] []) ∧
    (decide (r.fst < (0 : Int)) = false →
    True ∧
    True ∧
    ((0 : Nat) = plus (0 : Nat) (0 : Nat) ∧ True) ∧
    ((0 : Int) ≤ r.fst ∧ r.fst < (↑rulesn : Int)) ∧
    True ∧
    True ∧
    True ∧
    ((1 : Nat) + (0 : Nat) = plus (0 : Nat) (1 : Nat) ∧ True) ∧
    True ∧
    ((1 : Nat) + ((1 : Nat) + (0 : Nat)) = plus (0 : Nat) (2 : Nat) ∧ True) ∧
    True ∧
    ((0 : Nat) = (0 : Nat) ∧ True) ∧
    ((0 : Nat) = (0 : Nat) ∧ True) ∧
    (((True ∧ True ∧ True ∧ True) ∧
    Sub
    (AV.cons (1 : Nat) (AV.sc (Value.int IntKind.i64 (rulesfa r.fst.toNat)))
    (AV.cons (1 : Nat) (AV.sc (Value.int IntKind.i64 r.snd.fst))
    (AV.cons (1 : Nat) (AV.sc (Value.int IntKind.i64 r.snd.snd)) AV.nil)))
    (AV.cons (1 : Nat) (AV.sc (Value.int IntKind.i64 (rulesfa r.fst.toNat)))
    (AV.cons (1 : Nat) (AV.sc (Value.int IntKind.i64 r.snd.fst))
    (AV.cons (1 : Nat) (AV.sc (Value.int IntKind.i64 r.snd.snd)) AV.nil))) ∧
    True) ∧
    True) ∧
    Sub
    (AV.cons (1 : Nat) (AV.sc (Value.int IntKind.i64 (rulesfa r.fst.toNat)))
    (AV.cons (1 : Nat) (AV.sc (Value.int IntKind.i64 r.snd.fst))
    (AV.cons (1 : Nat) (AV.sc (Value.int IntKind.i64 r.snd.snd)) AV.nil)))
    res ∧
    SubOut [] []) from
    ⟨trivial, ⟨trivial, ⟨⟨rfl, trivial⟩, ⟨trivial, ⟨trivial, (Exists.elim h fun x5 h5 => ⟨x5, (And.elim (fun h6 k6 => ⟨⟨⟨⟨trivial, ⟨trivial, ⟨trivial, ⟨trivial, trivial⟩⟩⟩⟩, ⟨trivial, ⟨trivial, trivial⟩⟩⟩, ⟨trivial, h6⟩⟩, ⟨trivial, ⟨⟨rfl, trivial⟩, ⟨trivial, ⟨⟨rfl, trivial⟩, ⟨trivial, (And.elim (fun h12 k12 => ⟨(fun x13 => (fun h13 => ⟨trivial, ⟨⟨rfl, trivial⟩, ⟨trivial, ⟨⟨rfl, trivial⟩, ⟨⟨rfl, trivial⟩, ⟨⟨⟨⟨trivial, ⟨trivial, ⟨trivial, trivial⟩⟩⟩, ⟨Sub.refl _, trivial⟩⟩, trivial⟩, ((fun h20 => ⟨h20, trivial⟩) h13)⟩⟩⟩⟩⟩⟩) (h12 x13)), (fun x13 => (fun h13 => ⟨trivial, ⟨trivial, ⟨⟨rfl, trivial⟩, (And.elim (fun h17 k17 => ⟨(And.elim (fun h18 k18 => ⟨h18, k18⟩) h17), ⟨trivial, ⟨trivial, ⟨trivial, ⟨⟨rfl, trivial⟩, ⟨trivial, ⟨⟨rfl, trivial⟩, ⟨trivial, ⟨⟨rfl, trivial⟩, ⟨⟨rfl, trivial⟩, ⟨⟨⟨⟨trivial, ⟨trivial, ⟨trivial, trivial⟩⟩⟩, ⟨Sub.refl _, trivial⟩⟩, trivial⟩, ((fun h28 => ⟨h28, trivial⟩) k17)⟩⟩⟩⟩⟩⟩⟩⟩⟩⟩⟩) h13)⟩⟩⟩) (k12 x13))⟩) k6)⟩⟩⟩⟩⟩⟩) h5)⟩)⟩⟩⟩⟩⟩)
theorem hf68 : Go.Proofs.Try.prog.funcs[68]? = some Go.Proofs.Try.f68 := by kernel_rfl
abbrev s68_e : List (Nat × AV) := []
abbrev m68_e : List (Nat × Nat × AV) := []
def L68_e (res : AV) : Prop := Goes ⟨Go.Proofs.Try.prog, 68, [], res, []⟩ (place Go.Proofs.Try.f68 []) (s68_e ) (m68_e )
theorem a68_e (res : AV) (h : (∀ slot, fact (look .undef (s68_e ) slot)) → L68_e  res) : L68_e  res :=
  assumeRule 68 [] Go.Proofs.Try.f68 hf68 [] (s68_e ) (m68_e ) res [] _ (by kernel_rfl) h
theorem o68 (res : AV) (hnew : newOnly res) (h : L68_e  res) : Ok Go.Proofs.Try.prog 68 [] [] res [] :=
  okRule2 68 Go.Proofs.Try.f68 hf68 [] [] res [] [] rfl (by kernel_rfl) (by kernel_rfl) (by kernel_rfl) ⟨hnew, by simp⟩ (L68_e  res) (by kernel_rfl) h
theorem r68_e (res : AV)
    (h : (0 : Nat) + (3 : Nat) ≤ (3 : Nat) ∧
  ((0 : Int) ≤ (97 : Int) ∧ (97 : Int) < (↑(256 : Nat) : Int)) ∧
    Int.toNat (97 : Int) < (256 : Nat) ∧
    ((0 : Int) ≤ (98 : Int) ∧ (98 : Int) < (↑(256 : Nat) : Int)) ∧
    Int.toNat (98 : Int) < (256 : Nat) ∧
    (0 : Nat) + (2 : Nat) ≤ (2 : Nat) ∧
    Sub
    (AV.cons (1 : Nat)
    (AV.vec false (7 : Nat) (2 : Nat) (2 : Nat) fun (i : Nat) =>
    AV.cons (1 : Nat)
    (AV.sc
    (Value.int IntKind.i64
    (bif (plus (0 : Nat) i).beq (1 : Nat) then (80 : Int) else bif (plus (0 : Nat) i).beq (0 : Nat) then (70 : Int) else (0 : Int))))
    (AV.cons (6 : Nat)
    (AV.cons (1 : Nat)
    (AV.sc
    (Value.int IntKind.i64
    (bif (plus (0 : Nat) i).beq (1 : Nat) then (0 : Int) else bif (plus (0 : Nat) i).beq (0 : Nat) then (0 : Int) else (0 : Int))))
    (AV.cons (4 : Nat)
    (AV.ar (4 : Nat) (1 : Nat) fun (i_1 : Nat) =>
    AV.sc
    (Value.int IntKind.u64
    (bif (plus (0 : Nat) i).beq (1 : Nat) then (0 : Int)
    else bif (plus (0 : Nat) i).beq (0 : Nat) then (0 : Int) else (0 : Int))))
    (AV.cons (1 : Nat)
    (AV.pick ((plus (0 : Nat) i).beq (1 : Nat)) (AV.sc (Value.slice none (0 : Nat) (0 : Nat)))
    (AV.pick ((plus (0 : Nat) i).beq (0 : Nat)) (AV.sc (Value.slice none (0 : Nat) (0 : Nat)))
    (AV.sc (Value.slice none (0 : Nat) (0 : Nat)))))
    AV.nil)))
    AV.nil))
    (AV.cons (1 : Nat)
    (AV.cons (1 : Nat) (AV.sc (Value.int IntKind.i64 (0 : Int)))
    (AV.cons (256 : Nat)
    (AV.ar (256 : Nat) (1 : Nat) fun (i : Nat) =>
    AV.sc
    (Value.int IntKind.u8
    (bif i.beq (Int.toNat (98 : Int)) then (2 : Int) else bif i.beq (Int.toNat (97 : Int)) then (1 : Int) else (0 : Int))))
    (AV.cons (1 : Nat)
    (AV.vec false (1 : Nat) (3 : Nat) (3 : Nat) fun (i : Nat) =>
    AV.pick ((plus (0 : Nat) i).beq (2 : Nat))
    (AV.vec false (1 : Nat) (3 : Nat) (3 : Nat) fun (i : Nat) =>
    AV.sc
    (Value.int IntKind.i64
    (bif (plus (0 : Nat) i).beq (2 : Nat) then (-1 : Int)
    else
    bif (plus (0 : Nat) i).beq (1 : Nat) then (-1 : Int)
    else bif (plus (0 : Nat) i).beq (0 : Nat) then (-1 : Int) else (0 : Int))))
    (AV.pick ((plus (0 : Nat) i).beq (1 : Nat))
    (AV.vec false (1 : Nat) (3 : Nat) (3 : Nat) fun (i : Nat) =>
    AV.sc
    (Value.int IntKind.i64
    (bif (plus (0 : Nat) i).beq (2 : Nat) then (-1 : Int)
    else
    bif (plus (0 : Nat) i).beq (1 : Nat) then (1 : Int)
    else bif (plus (0 : Nat) i).beq (0 : Nat) then (-1 : Int) else (0 : Int))))
    (AV.pick ((plus (0 : Nat) i).beq (0 : Nat))
    (AV.vec false (1 : Nat) (3 : Nat) (3 : Nat) fun (i : Nat) =>
    AV.sc
    (Value.int IntKind.i64
    (bif (plus (0 : Nat) i).beq (2 : Nat) then (2 : Int)
    else
    bif (plus (0 : Nat) i).beq (1 : Nat) then (1 : Int)
    else bif (plus (0 : Nat) i).beq (0 : Nat) then (-1 : Int) else (0 : Int))))
    (AV.sc (Value.slice none (0 : Nat) (0 : Nat))))))
    (AV.cons (1 : Nat)
    (AV.vec false (1 : Nat) (3 : Nat) (3 : Nat) fun (i : Nat) =>
    AV.sc
    (Value.int IntKind.i64
    (bif (plus (0 : Nat) i).beq (2 : Nat) then (1 : Int)
    else
    bif (plus (0 : Nat) i).beq (1 : Nat) then (0 : Int)
    else bif (plus (0 : Nat) i).beq (0 : Nat) then (-1 : Int) else (0 : Int))))
    AV.nil))))
    AV.nil)).tup
    res) :
    L68_e  res :=
  rule Go.Am.Seat.tabOk 68 [] Go.Proofs.Try.f68 hf68 [] (s68_e ) (m68_e ) res [] 400
    (Orc.fin
  (AV.cons (1 : Nat)
    (AV.vec false (7 : Nat) (2 : Nat) (2 : Nat) fun (i : Nat) =>
    AV.cons (1 : Nat)
    (AV.sc
    (Value.int IntKind.i64
    (bif (plus (0 : Nat) i).beq ((1 : Nat), Operand.tmp (14 : Nat)).fst then (80 : Int)
    else bif (plus (0 : Nat) i).beq ((0 : Nat), Operand.tmp (13 : Nat)).fst then (70 : Int) else (0 : Int))))
    (AV.cons (6 : Nat)
    (AV.cons (1 : Nat)
    (AV.sc
    (Value.int IntKind.i64
    (bif (plus (0 : Nat) i).beq ((1 : Nat), Operand.tmp (14 : Nat)).fst then (0 : Int)
    else bif (plus (0 : Nat) i).beq ((0 : Nat), Operand.tmp (13 : Nat)).fst then (0 : Int) else (0 : Int))))
    (AV.cons (4 : Nat)
    (AV.ar (4 : Nat) (1 : Nat) fun (i_1 : Nat) =>
    AV.sc
    (Value.int IntKind.u64
    (bif (plus (0 : Nat) i).beq ((1 : Nat), Operand.tmp (14 : Nat)).fst then (0 : Int)
    else bif (plus (0 : Nat) i).beq ((0 : Nat), Operand.tmp (13 : Nat)).fst then (0 : Int) else (0 : Int))))
    (AV.cons (1 : Nat)
    (AV.pick ((plus (0 : Nat) i).beq ((1 : Nat), Operand.tmp (14 : Nat)).fst) (AV.sc (Value.slice none (0 : Nat) (0 : Nat)))
    (AV.pick ((plus (0 : Nat) i).beq ((0 : Nat), Operand.tmp (13 : Nat)).fst) (AV.sc (Value.slice none (0 : Nat) (0 : Nat)))
    (AV.sc (Value.slice none (0 : Nat) (0 : Nat)))))
    AV.nil)))
    AV.nil))
    (AV.cons (1 : Nat)
    (AV.cons (1 : Nat) (AV.sc (Value.int IntKind.i64 (0 : Int)))
    (AV.cons (256 : Nat)
    (AV.ar (256 : Nat) (1 : Nat) fun (i : Nat) =>
    AV.sc
    (Value.int IntKind.u8 (bif i.beq (Int.toNat (98 : Int)) then (2 : Int) else bif i.beq (Int.toNat (97 : Int)) then (1 : Int) else (0 : Int))))
    (AV.cons (1 : Nat)
    (AV.vec false (1 : Nat) (3 : Nat) (3 : Nat) fun (i : Nat) =>
    AV.pick ((plus (0 : Nat) i).beq ((2 : Nat), Operand.tmp (5 : Nat)).fst)
    (AV.vec false (1 : Nat) (3 : Nat) (3 : Nat) fun (i : Nat) =>
    AV.sc
    (Value.int IntKind.i64
    (bif (plus (0 : Nat) i).beq ((2 : Nat), Operand.const (Value.int IntKind.i64 (-1 : Int))).fst then (-1 : Int)
    else
    bif (plus (0 : Nat) i).beq ((1 : Nat), Operand.const (Value.int IntKind.i64 (-1 : Int))).fst then (-1 : Int)
    else bif (plus (0 : Nat) i).beq ((0 : Nat), Operand.const (Value.int IntKind.i64 (-1 : Int))).fst then (-1 : Int) else (0 : Int))))
    (AV.pick ((plus (0 : Nat) i).beq ((1 : Nat), Operand.tmp (4 : Nat)).fst)
    (AV.vec false (1 : Nat) (3 : Nat) (3 : Nat) fun (i : Nat) =>
    AV.sc
    (Value.int IntKind.i64
    (bif (plus (0 : Nat) i).beq ((2 : Nat), Operand.const (Value.int IntKind.i64 (-1 : Int))).fst then (-1 : Int)
    else
    bif (plus (0 : Nat) i).beq ((1 : Nat), Operand.const (Value.int IntKind.i64 (1 : Int))).fst then (1 : Int)
    else bif (plus (0 : Nat) i).beq ((0 : Nat), Operand.const (Value.int IntKind.i64 (-1 : Int))).fst then (-1 : Int) else (0 : Int))))
    (AV.pick ((plus (0 : Nat) i).beq ((0 : Nat), Operand.tmp (3 : Nat)).fst)
    (AV.vec false (1 : Nat) (3 : Nat) (3 : Nat) fun (i : Nat) =>
    AV.sc
    (Value.int IntKind.i64
    (bif (plus (0 : Nat) i).beq ((2 : Nat), Operand.const (Value.int IntKind.i64 (2 : Int))).fst then (2 : Int)
    else
    bif (plus (0 : Nat) i).beq ((1 : Nat), Operand.const (Value.int IntKind.i64 (1 : Int))).fst then (1 : Int)
    else
    bif (plus (0 : Nat) i).beq ((0 : Nat), Operand.const (Value.int IntKind.i64 (-1 : Int))).fst then (-1 : Int) else (0 : Int))))
    (AV.sc (Value.slice none (0 : Nat) (0 : Nat))))))
    (AV.cons (1 : Nat)
    (AV.vec false (1 : Nat) (3 : Nat) (3 : Nat) fun (i : Nat) =>
    AV.sc
    (Value.int IntKind.i64
    (bif (plus (0 : Nat) i).beq ((2 : Nat), Operand.const (Value.int IntKind.i64 (1 : Int))).fst then (1 : Int)
    else
    bif (plus (0 : Nat) i).beq ((1 : Nat), Operand.const (Value.int IntKind.i64 (0 : Int))).fst then (0 : Int)
    else bif (plus (0 : Nat) i).beq ((0 : Nat), Operand.const (Value.int IntKind.i64 (-1 : Int))).fst then (-1 : Int) else (0 : Int))))
    AV.nil))))
    AV.nil)).tup
  [] []) _ _ (by kernel_rfl) (by kernel_rfl) (show True ∧
  True ∧
    ((True ∧ True ∧ True ∧ True) ∧ True) ∧
    ((True ∧ True ∧ True ∧ True) ∧ True) ∧
    ((True ∧ True ∧ True ∧ True) ∧ True) ∧
    (((0 : Nat) + (3 : Nat) ≤ (3 : Nat) ∧ (0 : Nat) + (3 : Nat) ≤ (3 : Nat) ∧ (0 : Nat) + (3 : Nat) ≤ (3 : Nat) ∧ True) ∧ True) ∧
    ((True ∧ True ∧ True ∧ True) ∧ True) ∧
    True ∧
    True ∧
    ((0 : Nat) = (0 : Nat) ∧ True) ∧
    True ∧
    ((0 : Int) ≤ (97 : Int) ∧ (97 : Int) < (↑(256 : Nat) : Int)) ∧
    ((1 : Nat) + (Int.toNat (97 : Int) * (1 : Nat) + (0 : Nat)) = plus (plus (0 : Nat) (1 : Nat)) (Int.toNat (97 : Int) * (1 : Nat)) ∧
    (Int.toNat (97 : Int) < (256 : Nat) ∧ True) ∧ True) ∧
    True ∧
    ((0 : Int) ≤ (98 : Int) ∧ (98 : Int) < (↑(256 : Nat) : Int)) ∧
    ((1 : Nat) + (Int.toNat (98 : Int) * (1 : Nat) + (0 : Nat)) = plus (plus (0 : Nat) (1 : Nat)) (Int.toNat (98 : Int) * (1 : Nat)) ∧
    (Int.toNat (98 : Int) < (256 : Nat) ∧ True) ∧ True) ∧
    True ∧
    True ∧
    (((True ∧ (True ∧ True ∧ True ∧ True) ∧ True) ∧ (True ∧ (True ∧ True ∧ True ∧ True) ∧ True) ∧ True) ∧ True) ∧
    ((0 : Nat) = (0 : Nat) ∧ True) ∧
    True ∧
    ((0 : Nat) = (0 : Nat) ∧ True) ∧
    (True ∧ ((0 : Nat) = (0 : Nat) ∧ True) ∧ True) ∧
    ((((0 : Nat) + (2 : Nat) ≤ (2 : Nat) ∧
    (True ∧ True ∧ (0 : Nat) + (3 : Nat) ≤ (3 : Nat) ∧ (0 : Nat) + (3 : Nat) ≤ (3 : Nat) ∧ True) ∧ True) ∧
    Sub
    (AV.cons (1 : Nat)
    (AV.vec false (7 : Nat) (2 : Nat) (2 : Nat) fun (i : Nat) =>
    AV.cons (1 : Nat)
    (AV.sc
    (Value.int IntKind.i64
    (bif (plus (0 : Nat) i).beq (1 : Nat) then (80 : Int)
    else bif (plus (0 : Nat) i).beq (0 : Nat) then (70 : Int) else (0 : Int))))
    (AV.cons (6 : Nat)
    (AV.cons (1 : Nat)
    (AV.sc
    (Value.int IntKind.i64
    (bif (plus (0 : Nat) i).beq (1 : Nat) then (0 : Int)
    else bif (plus (0 : Nat) i).beq (0 : Nat) then (0 : Int) else (0 : Int))))
    (AV.cons (4 : Nat)
    (AV.ar (4 : Nat) (1 : Nat) fun (i_1 : Nat) =>
    AV.sc
    (Value.int IntKind.u64
    (bif (plus (0 : Nat) i).beq (1 : Nat) then (0 : Int)
    else bif (plus (0 : Nat) i).beq (0 : Nat) then (0 : Int) else (0 : Int))))
    (AV.cons (1 : Nat)
    (AV.pick ((plus (0 : Nat) i).beq (1 : Nat))
    (AV.sc (Value.slice none (0 : Nat) (0 : Nat)))
    (AV.pick ((plus (0 : Nat) i).beq (0 : Nat))
    (AV.sc (Value.slice none (0 : Nat) (0 : Nat)))
    (AV.sc (Value.slice none (0 : Nat) (0 : Nat)))))
    AV.nil)))
    AV.nil))
    (AV.cons (1 : Nat)
    (AV.cons (1 : Nat) (AV.sc (Value.int IntKind.i64 (0 : Int)))
    (AV.cons (256 : Nat)
    (AV.ar (256 : Nat) (1 : Nat) fun (i : Nat) =>
    AV.sc
    (Value.int IntKind.u8
    (bif i.beq (Int.toNat (98 : Int)) then (2 : Int)
    else bif i.beq (Int.toNat (97 : Int)) then (1 : Int) else (0 : Int))))
    (AV.cons (1 : Nat)
    (AV.vec false (1 : Nat) (3 : Nat) (3 : Nat) fun (i : Nat) =>
    AV.pick ((plus (0 : Nat) i).beq (2 : Nat))
    (AV.vec false (1 : Nat) (3 : Nat) (3 : Nat) fun (i : Nat) =>
    AV.sc
    (Value.int IntKind.i64
    (bif (plus (0 : Nat) i).beq (2 : Nat) then (-1 : Int)
    else
    bif (plus (0 : Nat) i).beq (1 : Nat) then (-1 : Int)
    else bif (plus (0 : Nat) i).beq (0 : Nat) then (-1 : Int) else (0 : Int))))
    (AV.pick ((plus (0 : Nat) i).beq (1 : Nat))
    (AV.vec false (1 : Nat) (3 : Nat) (3 : Nat) fun (i : Nat) =>
    AV.sc
    (Value.int IntKind.i64
    (bif (plus (0 : Nat) i).beq (2 : Nat) then (-1 : Int)
    else
    bif (plus (0 : Nat) i).beq (1 : Nat) then (1 : Int)
    else bif (plus (0 : Nat) i).beq (0 : Nat) then (-1 : Int) else (0 : Int))))
    (AV.pick ((plus (0 : Nat) i).beq (0 : Nat))
    (AV.vec false (1 : Nat) (3 : Nat) (3 : Nat) fun (i : Nat) =>
    AV.sc
    (Value.int IntKind.i64
    (bif (plus (0 : Nat) i).beq (2 : Nat) then (2 : Int)
    else
    bif (plus (0 : Nat) i).beq (1 : Nat) then (1 : Int)
    else bif (plus (0 : Nat) i).beq (0 : Nat) then (-1 : Int) else (0 : Int))))
    (AV.sc (Value.slice none (0 : Nat) (0 : Nat))))))
    (AV.cons (1 : Nat)
    (AV.vec false (1 : Nat) (3 : Nat) (3 : Nat) fun (i : Nat) =>
    AV.sc
    (Value.int IntKind.i64
    (bif (plus (0 : Nat) i).beq (2 : Nat) then (1 : Int)
    else
    bif (plus (0 : Nat) i).beq (1 : Nat) then (0 : Int)
    else bif (plus (0 : Nat) i).beq (0 : Nat) then (-1 : Int) else (0 : Int))))
    AV.nil))))
    AV.nil)).tup
    (AV.cons (1 : Nat)
    (AV.vec false (7 : Nat) (2 : Nat) (2 : Nat) fun (i : Nat) =>
    AV.cons (1 : Nat)
    (AV.sc
    (Value.int IntKind.i64
    (bif (plus (0 : Nat) i).beq (1 : Nat) then (80 : Int)
    else bif (plus (0 : Nat) i).beq (0 : Nat) then (70 : Int) else (0 : Int))))
    (AV.cons (6 : Nat)
    (AV.cons (1 : Nat)
    (AV.sc
    (Value.int IntKind.i64
    (bif (plus (0 : Nat) i).beq (1 : Nat) then (0 : Int)
    else bif (plus (0 : Nat) i).beq (0 : Nat) then (0 : Int) else (0 : Int))))
    (AV.cons (4 : Nat)
    (AV.ar (4 : Nat) (1 : Nat) fun (i_1 : Nat) =>
    AV.sc
    (Value.int IntKind.u64
    (bif (plus (0 : Nat) i).beq (1 : Nat) then (0 : Int)
    else bif (plus (0 : Nat) i).beq (0 : Nat) then (0 : Int) else (0 : Int))))
    (AV.cons (1 : Nat)
    (AV.pick ((plus (0 : Nat) i).beq (1 : Nat))
    (AV.sc (Value.slice none (0 : Nat) (0 : Nat)))
    (AV.pick ((plus (0 : Nat) i).beq (0 : Nat))
    (AV.sc (Value.slice none (0 : Nat) (0 : Nat)))
    (AV.sc (Value.slice none (0 : Nat) (0 : Nat)))))
    AV.nil)))
    AV.nil))
    (AV.cons (1 : Nat)
    (AV.cons (1 : Nat) (AV.sc (Value.int IntKind.i64 (0 : Int)))
    (AV.cons (256 : Nat)
    (AV.ar (256 : Nat) (1 : Nat) fun (i : Nat) =>
    AV.sc
    (Value.int IntKind.u8
    (bif i.beq (Int.toNat (98 : Int)) then (2 : Int)
    else bif i.beq (Int.toNat (97 : Int)) then (1 : Int) else (0 : Int))))
    (AV.cons (1 : Nat)
    (AV.vec false (1 : Nat) (3 : Nat) (3 : Nat) fun (i : Nat) =>
    AV.pick ((plus (0 : Nat) i).beq (2 : Nat))
    (AV.vec false (1 : Nat) (3 : Nat) (3 : Nat) fun (i : Nat) =>
    AV.sc
    (Value.int IntKind.i64
    (bif (plus (0 : Nat) i).beq (2 : Nat) then (-1 : Int)
    else
    bif (plus (0 : Nat) i).beq (1 : Nat) then (-1 : Int)
    else bif (plus (0 : Nat) i).beq (0 : Nat) then (-1 : Int) else (0 : Int))))
    (AV.pick ((plus (0 : Nat) i).beq (1 : Nat))
    (AV.vec false (1 : Nat) (3 : Nat) (3 : Nat) fun (i : Nat) =>
    AV.sc
    (Value.int IntKind.i64
    (bif (plus (0 : Nat) i).beq (2 : Nat) then (-1 : Int)
    else
    bif (plus (0 : Nat) i).beq (1 : Nat) then (1 : Int)
    else bif (plus (0 : Nat) i).beq (0 : Nat) then (-1 : Int) else (0 : Int))))
    (AV.pick ((plus (0 : Nat) i).beq (0 : Nat))
    (AV.vec false (1 : Nat) (3 : Nat) (3 : Nat) fun (i : Nat) =>
    AV.sc
    (Value.int IntKind.i64
    (bif (plus (0 : Nat) i).beq (2 : Nat) then (2 : Int)
    else
    bif (plus (0 : Nat) i).beq (1 : Nat) then (1 : Int)
    else bif (plus (0 : Nat) i).beq (0 : Nat) then (-1 : Int) else (0 : Int))))
    (AV.sc (Value.slice none (0 : Nat) (0 : Nat))))))
    (AV.cons (1 : Nat)
    (AV.vec false (1 : Nat) (3 : Nat) (3 : Nat) fun (i : Nat) =>
    AV.sc
    (Value.int IntKind.i64
    (bif (plus (0 : Nat) i).beq (2 : Nat) then (1 : Int)
    else
    bif (plus (0 : Nat) i).beq (1 : Nat) then (0 : Int)
    else bif (plus (0 : Nat) i).beq (0 : Nat) then (-1 : Int) else (0 : Int))))
    AV.nil))))
    AV.nil)).tup ∧
    True) ∧
    True) ∧
    Sub
    (AV.cons (1 : Nat)
    (AV.vec false (7 : Nat) (2 : Nat) (2 : Nat) fun (i : Nat) =>
    AV.cons (1 : Nat)
    (AV.sc
    (Value.int IntKind.i64
    (bif (plus (0 : Nat) i).beq (1 : Nat) then (80 : Int)
    else bif (plus (0 : Nat) i).beq (0 : Nat) then (70 : Int) else (0 : Int))))
    (AV.cons (6 : Nat)
    (AV.cons (1 : Nat)
    (AV.sc
    (Value.int IntKind.i64
    (bif (plus (0 : Nat) i).beq (1 : Nat) then (0 : Int)
    else bif (plus (0 : Nat) i).beq (0 : Nat) then (0 : Int) else (0 : Int))))
    (AV.cons (4 : Nat)
    (AV.ar (4 : Nat) (1 : Nat) fun (i_1 : Nat) =>
    AV.sc
    (Value.int IntKind.u64
    (bif (plus (0 : Nat) i).beq (1 : Nat) then (0 : Int)
    else bif (plus (0 : Nat) i).beq (0 : Nat) then (0 : Int) else (0 : Int))))
    (AV.cons (1 : Nat)
    (AV.pick ((plus (0 : Nat) i).beq (1 : Nat)) (AV.sc (Value.slice none (0 : Nat) (0 : Nat)))
    (AV.pick ((plus (0 : Nat) i).beq (0 : Nat)) (AV.sc (Value.slice none (0 : Nat) (0 : Nat)))
    (AV.sc (Value.slice none (0 : Nat) (0 : Nat)))))
    AV.nil)))
    AV.nil))
    (AV.cons (1 : Nat)
    (AV.cons (1 : Nat) (AV.sc (Value.int IntKind.i64 (0 : Int)))
    (AV.cons (256 : Nat)
    (AV.ar (256 : Nat) (1 : Nat) fun (i : Nat) =>
    AV.sc
    (Value.int IntKind.u8
    (bif i.beq (Int.toNat (98 : Int)) then (2 : Int)
    else bif i.beq (Int.toNat (97 : Int)) then (1 : Int) else (0 : Int))))
    (AV.cons (1 : Nat)
    (AV.vec false (1 : Nat) (3 : Nat) (3 : Nat) fun (i : Nat) =>
    AV.pick ((plus (0 : Nat) i).beq (2 : Nat))
    (AV.vec false (1 : Nat) (3 : Nat) (3 : Nat) fun (i : Nat) =>
    AV.sc
    (Value.int IntKind.i64
    (bif (plus (0 : Nat) i).beq (2 : Nat) then (-1 : Int)
    else
    bif (plus (0 : Nat) i).beq (1 : Nat) then (-1 : Int)
    else bif (plus (0 : Nat) i).beq (0 : Nat) then (-1 : Int) else (0 : Int))))
    (AV.pick ((plus (0 : Nat) i).beq (1 : Nat))
    (AV.vec false (1 : Nat) (3 : Nat) (3 : Nat) fun (i : Nat) =>
    AV.sc
    (Value.int IntKind.i64
    (bif (plus (0 : Nat) i).beq (2 : Nat) then (-1 : Int)
    else
    bif (plus (0 : Nat) i).beq (1 : Nat) then (1 : Int)
    else bif (plus (0 : Nat) i).beq (0 : Nat) then (-1 : Int) else (0 : Int))))
    (AV.pick ((plus (0 : Nat) i).beq (0 : Nat))
    (AV.vec false (1 : Nat) (3 : Nat) (3 : Nat) fun (i : Nat) =>
    AV.sc
    (Value.int IntKind.i64
    (bif (plus (0 : Nat) i).beq (2 : Nat) then (2 : Int)
    else
    bif (plus (0 : Nat) i).beq (1 : Nat) then (1 : Int)
    else bif (plus (0 : Nat) i).beq (0 : Nat) then (-1 : Int) else (0 : Int))))
    (AV.sc (Value.slice none (0 : Nat) (0 : Nat))))))
    (AV.cons (1 : Nat)
    (AV.vec false (1 : Nat) (3 : Nat) (3 : Nat) fun (i : Nat) =>
    AV.sc
    (Value.int IntKind.i64
    (bif (plus (0 : Nat) i).beq (2 : Nat) then (1 : Int)
    else
    bif (plus (0 : Nat) i).beq (1 : Nat) then (0 : Int)
    else bif (plus (0 : Nat) i).beq (0 : Nat) then (-1 : Int) else (0 : Int))))
    AV.nil))))
    AV.nil)).tup
    res ∧
    SubOut [] [] from
    ⟨trivial, ⟨trivial, ⟨⟨⟨trivial, ⟨trivial, ⟨trivial, trivial⟩⟩⟩, trivial⟩, ⟨⟨⟨trivial, ⟨trivial, ⟨trivial, trivial⟩⟩⟩, trivial⟩, ⟨⟨⟨trivial, ⟨trivial, ⟨trivial, trivial⟩⟩⟩, trivial⟩, (And.elim (fun h5 k5 => ⟨((fun h6 => ⟨((fun h7 => ⟨h7, ⟨h7, ⟨h7, trivial⟩⟩⟩) h6), trivial⟩) h5), ⟨⟨⟨trivial, ⟨trivial, ⟨trivial, trivial⟩⟩⟩, trivial⟩, ⟨trivial, ⟨trivial, ⟨⟨rfl, trivial⟩, ⟨trivial, (And.elim (fun h11 k11 => ⟨(And.elim (fun h12 k12 => ⟨h12, k12⟩) h11), (And.elim (fun h12 k12 => ⟨⟨rfl, ((fun h14 => ⟨((fun h15 => ⟨h15, trivial⟩) h14), trivial⟩) h12)⟩, ⟨trivial, (And.elim (fun h14 k14 => ⟨(And.elim (fun h15 k15 => ⟨h15, k15⟩) h14), (And.elim (fun h15 k15 => ⟨⟨rfl, ((fun h17 => ⟨((fun h18 => ⟨h18, trivial⟩) h17), trivial⟩) h15)⟩, ⟨trivial, ⟨trivial, ⟨⟨⟨⟨trivial, ⟨⟨trivial, ⟨trivial, ⟨trivial, trivial⟩⟩⟩, trivial⟩⟩, ⟨⟨trivial, ⟨⟨trivial, ⟨trivial, ⟨trivial, trivial⟩⟩⟩, trivial⟩⟩, trivial⟩⟩, trivial⟩, ⟨⟨rfl, trivial⟩, ⟨trivial, ⟨⟨rfl, trivial⟩, ⟨⟨trivial, ⟨⟨rfl, trivial⟩, trivial⟩⟩, (And.elim (fun h23 k23 => ⟨((fun h24 => ⟨((fun h25 => ⟨((fun h26 => ⟨h26, ⟨⟨trivial, ⟨trivial, ⟨h5, ⟨h5, trivial⟩⟩⟩⟩, trivial⟩⟩) h25), ⟨Sub.refl _, trivial⟩⟩) h24), trivial⟩) h23), ((fun h24 => ⟨h24, trivial⟩) k23)⟩) k15)⟩⟩⟩⟩⟩⟩⟩⟩) k14)⟩) k12)⟩⟩) k11)⟩) k5)⟩⟩⟩⟩⟩⟩) h)⟩⟩⟩⟩⟩)
theorem hf69 : Go.Proofs.Try.prog.funcs[69]? = some Go.Proofs.Try.f69 := by kernel_rfl
abbrev s69_e (n : Int) (ea : Int) (eba : Int) (ebba : ByteArray) : List (Nat × AV) := [(0, (.sc (.int .i64 n))), (1, (.cons 1 (.sc (.int .i64 ea)) (.cons 1 (.sc (.int .i64 eba)) (.cons 1 (.sc (.string ebba)) .nil))))]
abbrev m69_e (n : Int) (ea : Int) (eba : Int) (ebba : ByteArray) : List (Nat × Nat × AV) := []
def L69_e (n : Int) (ea : Int) (eba : Int) (ebba : ByteArray) (res : AV) : Prop := Goes ⟨Go.Proofs.Try.prog, 69, [], res, []⟩ (place Go.Proofs.Try.f69 []) (s69_e n ea eba ebba) (m69_e n ea eba ebba)
theorem a69_e (n : Int) (ea : Int) (eba : Int) (ebba : ByteArray) (res : AV) (h : (∀ slot, fact (look .undef (s69_e n ea eba ebba) slot)) → L69_e n ea eba ebba res) : L69_e n ea eba ebba res :=
  assumeRule 69 [] Go.Proofs.Try.f69 hf69 [] (s69_e n ea eba ebba) (m69_e n ea eba ebba) res [] _ (by kernel_rfl) h
theorem o69 (n : Int) (ea : Int) (eba : Int) (ebba : ByteArray) (res : AV) (hnew : newOnly res) (h : L69_e n ea eba ebba res) : Ok Go.Proofs.Try.prog 69 [(.sc (.int .i64 n)), (.cons 1 (.sc (.int .i64 ea)) (.cons 1 (.sc (.int .i64 eba)) (.cons 1 (.sc (.string ebba)) .nil)))] [] res [] :=
  okRule2 69 Go.Proofs.Try.f69 hf69 [(.sc (.int .i64 n)), (.cons 1 (.sc (.int .i64 ea)) (.cons 1 (.sc (.int .i64 eba)) (.cons 1 (.sc (.string ebba)) .nil)))] [] res [] [] rfl (by kernel_rfl) (by kernel_rfl) (by kernel_rfl) ⟨hnew, by simp⟩ (L69_e n ea eba ebba res) (by kernel_rfl) h
theorem r69_e (n : Int) (ea : Int) (eba : Int) (ebba : ByteArray) (res : AV)
    (h : (decide (n < (0 : Int)) = false →
    (decide (n > (65536 : Int)) = true → Sub (AV.sc (Value.int IntKind.i64 (2 : Int))) res) ∧
    (decide (n > (65536 : Int)) = false →
    (decide (ea < (0 : Int)) = false →
    (decide (ea > eba) = false →
    (decide (eba > n) = true → Sub (AV.sc (Value.int IntKind.i64 (10 : Int))) res) ∧
    (decide (eba > n) = false →
    (decide ((↑ebba.size : Int) > IntKind.i64.wrap (IntKind.i64.wrap ((65536 : Int) - n) + IntKind.i64.wrap (eba - ea))) = true →
    Sub (AV.sc (Value.int IntKind.i64 (3 : Int))) res) ∧
    (decide ((↑ebba.size : Int) > IntKind.i64.wrap (IntKind.i64.wrap ((65536 : Int) - n) + IntKind.i64.wrap (eba - ea))) = false →
    Sub (AV.sc (Value.int IntKind.i64 (0 : Int))) res))) ∧
    (decide (ea > eba) = !false → Sub (AV.sc (Value.int IntKind.i64 (10 : Int))) res)) ∧
    (decide (ea < (0 : Int)) = !false → Sub (AV.sc (Value.int IntKind.i64 (10 : Int))) res))) ∧
  (decide (n < (0 : Int)) = !false → Sub (AV.sc (Value.int IntKind.i64 (2 : Int))) res)) :
    L69_e n ea eba ebba res :=
  rule Go.Am.Seat.tabOk 69 [] Go.Proofs.Try.f69 hf69 [] (s69_e n ea eba ebba) (m69_e n ea eba ebba) res [] 400
    (((Orc.fin (AV.sc (Value.int IntKind.i64 (2 : Int))) [] []).br
    ((((Orc.fin (AV.sc (Value.int IntKind.i64 (10 : Int))) [] []).br
    ((Orc.fin (AV.sc (Value.int IntKind.i64 (3 : Int))) [] []).br
    (Orc.fin (AV.sc (Value.int IntKind.i64 (0 : Int))) [] []))).yes.yes.yes.br
    (Orc.fin (AV.sc (Value.int IntKind.i64 (10 : Int))) [] []).yes.no.no.no).yes.yes.yes.yes.br
    (Orc.fin (AV.sc (Value.int IntKind.i64 (10 : Int))) [] []).yes.no.no.no.no.no.no.no.no)).yes.br
  (Orc.fin (AV.sc (Value.int IntKind.i64 (2 : Int))) [] []).yes.no) _ _ (by kernel_rfl) (by kernel_rfl) (show True ∧
  True ∧
    True ∧
    True ∧
    True ∧
    (decide (n < (0 : Int)) = false →
    True ∧
    false = false ∧
    True ∧
    True ∧
    True ∧
    (decide (n > (65536 : Int)) = true →
    True ∧
    True ∧
    ((True ∧ Sub (AV.sc (Value.int IntKind.i64 (2 : Int))) (AV.sc (Value.int IntKind.i64 (2 : Int))) ∧ True) ∧ True) ∧
    Sub (AV.sc (Value.int IntKind.i64 (2 : Int))) res ∧ SubOut [] []) ∧
    (decide (n > (65536 : Int)) = false →
    True ∧
    ((0 : Nat) = plus (0 : Nat) (0 : Nat) ∧ True) ∧
    True ∧
    True ∧
    (decide (ea < (0 : Int)) = false →
    True ∧
    false = false ∧
    ((0 : Nat) = plus (0 : Nat) (0 : Nat) ∧ True) ∧
    false = false ∧
    True ∧
    false = false ∧
    ((1 : Nat) + (0 : Nat) = plus (0 : Nat) (1 : Nat) ∧ True) ∧
    false = false ∧
    True ∧
    True ∧
    True ∧
    (decide (ea > eba) = false →
    True ∧
    false = false ∧
    ((1 : Nat) + (0 : Nat) = plus (0 : Nat) (1 : Nat) ∧ True) ∧
    false = false ∧
    True ∧
    false = false ∧
    True ∧
    True ∧
    True ∧
    (decide (eba > n) = true →
    True ∧
    True ∧
    ((True ∧
    Sub (AV.sc (Value.int IntKind.i64 (10 : Int)))
    (AV.sc (Value.int IntKind.i64 (10 : Int))) ∧
    True) ∧
    True) ∧
    Sub (AV.sc (Value.int IntKind.i64 (10 : Int))) res ∧
    SubOut [] []) ∧
    (decide (eba > n) = false →
    True ∧
    ((1 : Nat) + ((1 : Nat) + (0 : Nat)) = plus (0 : Nat) (2 : Nat) ∧
    True) ∧
    True ∧
    True ∧
    True ∧
    True ∧
    ((1 : Nat) + (0 : Nat) = plus (0 : Nat) (1 : Nat) ∧ True) ∧
    True ∧
    ((0 : Nat) = plus (0 : Nat) (0 : Nat) ∧ True) ∧
    True ∧
    True ∧
    True ∧
    True ∧
    (decide
    ((↑ebba.size : Int) >
    IntKind.i64.wrap
    (IntKind.i64.wrap
    ((65536 : Int) - n) +
    IntKind.i64.wrap (eba - ea))) =
    true →
    True ∧
    True ∧
    ((True ∧
    Sub
    (AV.sc
    (Value.int IntKind.i64
    (3 : Int)))
    (AV.sc
    (Value.int IntKind.i64
    (3 : Int))) ∧
    True) ∧
    True) ∧
    Sub
    (AV.sc
    (Value.int IntKind.i64
    (3 : Int)))
    res ∧
    SubOut [] []) ∧
    (decide
    ((↑ebba.size : Int) >
    IntKind.i64.wrap
    (IntKind.i64.wrap
    ((65536 : Int) - n) +
    IntKind.i64.wrap (eba - ea))) =
    false →
    True ∧
    True ∧
    ((True ∧
    Sub
    (AV.sc
    (Value.int IntKind.i64
    (0 : Int)))
    (AV.sc
    (Value.int IntKind.i64
    (0 : Int))) ∧
    True) ∧
    True) ∧
    Sub
    (AV.sc
    (Value.int IntKind.i64
    (0 : Int)))
    res ∧
    SubOut [] []))) ∧
    (decide (ea > eba) = !false →
    true = true ∧
    (!false) = !false ∧
    true = true ∧
    (!false) = !false ∧
    true = true ∧
    (!false) = !false ∧
    true = true ∧
    True ∧
    True ∧
    true = true ∧
    True ∧
    True ∧
    ((True ∧
    Sub (AV.sc (Value.int IntKind.i64 (10 : Int)))
    (AV.sc (Value.int IntKind.i64 (10 : Int))) ∧
    True) ∧
    True) ∧
    Sub (AV.sc (Value.int IntKind.i64 (10 : Int))) res ∧
    SubOut [] [])) ∧
    (decide (ea < (0 : Int)) = !false →
    true = true ∧
    (!false) = !false ∧
    true = true ∧
    (!false) = !false ∧
    true = true ∧
    (!false) = !false ∧
    true = true ∧
    (!false) = !false ∧
    true = true ∧
    True ∧
    True ∧
    true = !false ∧
    true = true ∧
    (!false) = !false ∧
    true = true ∧
    (!false) = !false ∧
    true = true ∧
    (!false) = !false ∧
    true = true ∧
    True ∧
    True ∧
    true = true ∧
    True ∧
    True ∧
    ((True ∧
    Sub (AV.sc (Value.int IntKind.i64 (10 : Int)))
    (AV.sc (Value.int IntKind.i64 (10 : Int))) ∧
    True) ∧
    True) ∧
    Sub (AV.sc (Value.int IntKind.i64 (10 : Int))) res ∧ SubOut [] []))) ∧
    (decide (n < (0 : Int)) = !false →
    true = true ∧
    (!false) = !false ∧
    true = true ∧
    True ∧
    True ∧
    true = true ∧
    True ∧
    True ∧
    ((True ∧ Sub (AV.sc (Value.int IntKind.i64 (2 : Int))) (AV.sc (Value.int IntKind.i64 (2 : Int))) ∧ True) ∧ True) ∧
    Sub (AV.sc (Value.int IntKind.i64 (2 : Int))) res ∧ SubOut [] []) from
    ⟨trivial, ⟨trivial, ⟨trivial, ⟨trivial, ⟨trivial, (And.elim (fun h5 k5 => ⟨(fun x6 => (fun h6 => ⟨trivial, ⟨rfl, ⟨trivial, ⟨trivial, ⟨trivial, (And.elim (fun h12 k12 => ⟨(fun x13 => (fun h13 => ⟨trivial, ⟨trivial, ⟨⟨⟨trivial, ⟨Sub.refl _, trivial⟩⟩, trivial⟩, ((fun h17 => ⟨h17, trivial⟩) h13)⟩⟩⟩) (h12 x13)), (fun x13 => (fun h13 => ⟨trivial, ⟨⟨rfl, trivial⟩, ⟨trivial, ⟨trivial, (And.elim (fun h18 k18 => ⟨(fun x19 => (fun h19 => ⟨trivial, ⟨rfl, ⟨⟨rfl, trivial⟩, ⟨rfl, ⟨trivial, ⟨rfl, ⟨⟨rfl, trivial⟩, ⟨rfl, ⟨trivial, ⟨trivial, ⟨trivial, (And.elim (fun h31 k31 => ⟨(fun x32 => (fun h32 => ⟨trivial, ⟨rfl, ⟨⟨rfl, trivial⟩, ⟨rfl, ⟨trivial, ⟨rfl, ⟨trivial, ⟨trivial, ⟨trivial, (And.elim (fun h42 k42 => ⟨(fun x43 => (fun h43 => ⟨trivial, ⟨trivial, ⟨⟨⟨trivial, ⟨Sub.refl _, trivial⟩⟩, trivial⟩, ((fun h47 => ⟨h47, trivial⟩) h43)⟩⟩⟩) (h42 x43)), (fun x43 => (fun h43 => ⟨trivial, ⟨⟨rfl, trivial⟩, ⟨trivial, ⟨trivial, ⟨trivial, ⟨trivial, ⟨⟨rfl, trivial⟩, ⟨trivial, ⟨⟨rfl, trivial⟩, ⟨trivial, ⟨trivial, ⟨trivial, ⟨trivial, (And.elim (fun h57 k57 => ⟨(fun x58 => (fun h58 => ⟨trivial, ⟨trivial, ⟨⟨⟨trivial, ⟨Sub.refl _, trivial⟩⟩, trivial⟩, ((fun h62 => ⟨h62, trivial⟩) h58)⟩⟩⟩) (h57 x58)), (fun x58 => (fun h58 => ⟨trivial, ⟨trivial, ⟨⟨⟨trivial, ⟨Sub.refl _, trivial⟩⟩, trivial⟩, ((fun h62 => ⟨h62, trivial⟩) h58)⟩⟩⟩) (k57 x58))⟩) h43)⟩⟩⟩⟩⟩⟩⟩⟩⟩⟩⟩⟩⟩) (k42 x43))⟩) h32)⟩⟩⟩⟩⟩⟩⟩⟩⟩) (h31 x32)), (fun x32 => (fun h32 => ⟨rfl, ⟨rfl, ⟨rfl, ⟨rfl, ⟨rfl, ⟨rfl, ⟨rfl, ⟨trivial, ⟨trivial, ⟨rfl, ⟨trivial, ⟨trivial, ⟨⟨⟨trivial, ⟨Sub.refl _, trivial⟩⟩, trivial⟩, ((fun h46 => ⟨h46, trivial⟩) h32)⟩⟩⟩⟩⟩⟩⟩⟩⟩⟩⟩⟩⟩) (k31 x32))⟩) h19)⟩⟩⟩⟩⟩⟩⟩⟩⟩⟩⟩) (h18 x19)), (fun x19 => (fun h19 => ⟨rfl, ⟨rfl, ⟨rfl, ⟨rfl, ⟨rfl, ⟨rfl, ⟨rfl, ⟨rfl, ⟨rfl, ⟨trivial, ⟨trivial, ⟨rfl, ⟨rfl, ⟨rfl, ⟨rfl, ⟨rfl, ⟨rfl, ⟨rfl, ⟨rfl, ⟨trivial, ⟨trivial, ⟨rfl, ⟨trivial, ⟨trivial, ⟨⟨⟨trivial, ⟨Sub.refl _, trivial⟩⟩, trivial⟩, ((fun h45 => ⟨h45, trivial⟩) h19)⟩⟩⟩⟩⟩⟩⟩⟩⟩⟩⟩⟩⟩⟩⟩⟩⟩⟩⟩⟩⟩⟩⟩⟩⟩) (k18 x19))⟩) h13)⟩⟩⟩⟩) (k12 x13))⟩) h6)⟩⟩⟩⟩⟩) (h5 x6)), (fun x6 => (fun h6 => ⟨rfl, ⟨rfl, ⟨rfl, ⟨trivial, ⟨trivial, ⟨rfl, ⟨trivial, ⟨trivial, ⟨⟨⟨trivial, ⟨Sub.refl _, trivial⟩⟩, trivial⟩, ((fun h16 => ⟨h16, trivial⟩) h6)⟩⟩⟩⟩⟩⟩⟩⟩⟩) (k5 x6))⟩) h)⟩⟩⟩⟩⟩)
theorem hf90 : Go.Proofs.Try.prog.funcs[90]? = some Go.Proofs.Try.f90 := by kernel_rfl
abbrev s90_e (xn : Nat) (xf : Nat → Int) : List (Nat × AV) := [(0, (.vec true 1 xn xn (fun i0 => (.sc (.int .u8 (xf i0))))))]
abbrev m90_e (xn : Nat) (xf : Nat → Int) : List (Nat × Nat × AV) := []
def L90_e (xn : Nat) (xf : Nat → Int) (res : AV) : Prop := Goes ⟨Go.Proofs.Try.prog, 90, [], res, []⟩ (place Go.Proofs.Try.f90 []) (s90_e xn xf) (m90_e xn xf)
theorem a90_e (xn : Nat) (xf : Nat → Int) (res : AV) (h : (∀ slot, fact (look .undef (s90_e xn xf) slot)) → L90_e xn xf res) : L90_e xn xf res :=
  assumeRule 90 [] Go.Proofs.Try.f90 hf90 [] (s90_e xn xf) (m90_e xn xf) res [] _ (by kernel_rfl) h
abbrev s90_0 (xn : Nat) (xf : Nat → Int) : List (Nat × AV) := [(0, (.vec true 1 xn xn (fun i0 => (.sc (.int .u8 (xf i0))))))]
abbrev m90_0 (xn : Nat) (xf : Nat → Int) : List (Nat × Nat × AV) := []
def L90_0 (xn : Nat) (xf : Nat → Int) (res : AV) : Prop := Goes ⟨Go.Proofs.Try.prog, 90, [], res, []⟩ (place Go.Proofs.Try.f90 [1, 1]) (s90_0 xn xf) (m90_0 xn xf)
theorem a90_0 (xn : Nat) (xf : Nat → Int) (res : AV) (h : (∀ slot, fact (look .undef (s90_0 xn xf) slot)) → L90_0 xn xf res) : L90_0 xn xf res :=
  assumeRule 90 [] Go.Proofs.Try.f90 hf90 [1, 1] (s90_0 xn xf) (m90_0 xn xf) res [] _ (by kernel_rfl) h
abbrev s90_1 (xn : Nat) (xf : Nat → Int) (m : Int) (i : Int) : List (Nat × AV) := [(0, (.vec true 1 xn xn (fun i0 => (.sc (.int .u8 (xf i0)))))), (3, (.sc (.int .u8 m))), (4, (.sc (.int .i64 i)))]
abbrev m90_1 (xn : Nat) (xf : Nat → Int) (m : Int) (i : Int) : List (Nat × Nat × AV) := []
def L90_1 (xn : Nat) (xf : Nat → Int) (m : Int) (i : Int) (res : AV) : Prop := Goes ⟨Go.Proofs.Try.prog, 90, [], res, []⟩ (place Go.Proofs.Try.f90 [1, 1, 1, 0, 1, 0, 0]) (s90_1 xn xf m i) (m90_1 xn xf m i)
theorem a90_1 (xn : Nat) (xf : Nat → Int) (m : Int) (i : Int) (res : AV) (h : (∀ slot, fact (look .undef (s90_1 xn xf m i) slot)) → L90_1 xn xf m i res) : L90_1 xn xf m i res :=
  assumeRule 90 [] Go.Proofs.Try.f90 hf90 [1, 1, 1, 0, 1, 0, 0] (s90_1 xn xf m i) (m90_1 xn xf m i) res [] _ (by kernel_rfl) h
theorem o90 (xn : Nat) (xf : Nat → Int) (res : AV) (hnew : newOnly res) (h : L90_e xn xf res) : Ok Go.Proofs.Try.prog 90 [(.vec true 1 xn xn (fun i0 => (.sc (.int .u8 (xf i0)))))] [] res [] :=
  okRule2 90 Go.Proofs.Try.f90 hf90 [(.vec true 1 xn xn (fun i0 => (.sc (.int .u8 (xf i0)))))] [] res [] [] rfl (by kernel_rfl) (by kernel_rfl) (by kernel_rfl) ⟨hnew, by simp⟩ (L90_e xn xf res) (by kernel_rfl) h
theorem r90_e (xn : Nat) (xf : Nat → Int) (res : AV)
    (h : decide ((↑xn : Int) < (1 : Int)) = false ∧ L90_0 xn xf res) :
    L90_e xn xf res :=
  rule Go.Am.Seat.tabOk 90 [] Go.Proofs.Try.f90 hf90 [] (s90_e xn xf) (m90_e xn xf) res [] 400
    ((Orc.cut (nat_lit 1) (s90_0 xn xf) (m90_0 xn xf) []).no) _ _ (by kernel_rfl) (by kernel_rfl) (show True ∧
  True ∧
    True ∧
    True ∧
    decide ((↑xn : Int) < (1 : Int)) = false ∧
    ((True ∧
    Sub (AV.vec true (1 : Nat) xn xn fun (i0 : Nat) => AV.sc (Value.int IntKind.u8 (xf i0)))
    (AV.vec true (1 : Nat) xn xn fun (i0 : Nat) => AV.sc (Value.int IntKind.u8 (xf i0))) ∧
    True) ∧
    True) ∧
    L90_0 xn xf res from
    ⟨trivial, ⟨trivial, ⟨trivial, ⟨trivial, (And.elim (fun h4 k4 => ⟨h4, ⟨⟨⟨trivial, ⟨Sub.refl _, trivial⟩⟩, trivial⟩, k4⟩⟩) h)⟩⟩⟩⟩)
theorem r90_0 (xn : Nat) (xf : Nat → Int) (res : AV)
    (h : ((0 : Int) ≤ (0 : Int) ∧ (0 : Int) < (↑xn : Int)) ∧ L90_1 xn xf (xf (Int.toNat (0 : Int))) (1 : Int) res) :
    L90_0 xn xf res :=
  rule Go.Am.Seat.tabOk 90 [] Go.Proofs.Try.f90 hf90 [1, 1] (s90_0 xn xf) (m90_0 xn xf) res [] 400
    (Orc.cut (nat_lit 7) (s90_1 xn xf (xf (Int.toNat (0 : Int))) (1 : Int)) (m90_1 xn xf (xf (Int.toNat (0 : Int))) (1 : Int)) []) _ _ (by kernel_rfl) (by kernel_rfl) (show True ∧
  ((0 : Int) ≤ (0 : Int) ∧ (0 : Int) < (↑xn : Int)) ∧
    True ∧
    True ∧
    True ∧
    ((True ∧
    Sub (AV.vec true (1 : Nat) xn xn fun (i0 : Nat) => AV.sc (Value.int IntKind.u8 (xf i0)))
    (AV.vec true (1 : Nat) xn xn fun (i0 : Nat) => AV.sc (Value.int IntKind.u8 (xf i0))) ∧
    True ∧
    Sub (AV.sc (Value.int IntKind.u8 (xf (Int.toNat (0 : Int))))) (AV.sc (Value.int IntKind.u8 (xf (Int.toNat (0 : Int))))) ∧
    True ∧ Sub (AV.sc (Value.int IntKind.i64 (1 : Int))) (AV.sc (Value.int IntKind.i64 (1 : Int))) ∧ True) ∧
    True) ∧
    L90_1 xn xf (xf (Int.toNat (0 : Int))) (1 : Int) res from
    ⟨trivial, (And.elim (fun h1 k1 => ⟨(And.elim (fun h2 k2 => ⟨h2, k2⟩) h1), ⟨trivial, ⟨trivial, ⟨trivial, ⟨⟨⟨trivial, ⟨Sub.refl _, ⟨trivial, ⟨Sub.refl _, ⟨trivial, ⟨Sub.refl _, trivial⟩⟩⟩⟩⟩⟩, trivial⟩, k1⟩⟩⟩⟩⟩) h)⟩)
theorem r90_1 (xn : Nat) (xf : Nat → Int) (m : Int) (i : Int) (res : AV)
    (h : (decide (i < (↑xn : Int)) = true →
    ((0 : Int) ≤ i ∧ i < (↑xn : Int)) ∧
    L90_1 xn xf (if true = true then if xf i.toNat > m then xf i.toNat else m else if xf i.toNat < m then xf i.toNat else m)
    (IntKind.i64.wrap (i + (1 : Int))) res) ∧
  (decide (i < (↑xn : Int)) = false → Sub (AV.sc (Value.int IntKind.u8 m)) res)) :
    L90_1 xn xf m i res :=
  rule Go.Am.Seat.tabOk 90 [] Go.Proofs.Try.f90 hf90 [1, 1, 1, 0, 1, 0, 0] (s90_1 xn xf m i) (m90_1 xn xf m i) res [] 400
    ((Orc.cut (nat_lit 7)
    (s90_1 xn xf (if true = true then if xf i.toNat > m then xf i.toNat else m else if xf i.toNat < m then xf i.toNat else m)
    (IntKind.i64.wrap (i + (1 : Int))))
    (m90_1 xn xf (if true = true then if xf i.toNat > m then xf i.toNat else m else if xf i.toNat < m then xf i.toNat else m)
    (IntKind.i64.wrap (i + (1 : Int))))
    []).br
  (Orc.fin (AV.sc (Value.int IntKind.u8 m)) [] [])) _ _ (by kernel_rfl) (by kernel_rfl) (show True ∧
  True ∧
    True ∧
    True ∧
    (decide (i < (↑xn : Int)) = true →
    True ∧
    True ∧
    True ∧
    ((0 : Int) ≤ i ∧ i < (↑xn : Int)) ∧
    True ∧
    True ∧
    True ∧
    True ∧
    True ∧
    True ∧
    ((True ∧
    Sub (AV.vec true (1 : Nat) xn xn fun (i0 : Nat) => AV.sc (Value.int IntKind.u8 (xf i0)))
    (AV.vec true (1 : Nat) xn xn fun (i0 : Nat) => AV.sc (Value.int IntKind.u8 (xf i0))) ∧
    True ∧
    Sub
    (AV.sc
    (Value.int IntKind.u8
    (if true = true then if xf i.toNat > m then xf i.toNat else m else if xf i.toNat < m then xf i.toNat else m)))
    (AV.sc
    (Value.int IntKind.u8
    (if true = true then if xf i.toNat > m then xf i.toNat else m
    else if xf i.toNat < m then xf i.toNat else m))) ∧
    True ∧
    Sub (AV.sc (Value.int IntKind.i64 (IntKind.i64.wrap (i + (1 : Int)))))
    (AV.sc (Value.int IntKind.i64 (IntKind.i64.wrap (i + (1 : Int))))) ∧
    True) ∧
    True) ∧
    L90_1 xn xf (if true = true then if xf i.toNat > m then xf i.toNat else m else if xf i.toNat < m then xf i.toNat else m)
    (IntKind.i64.wrap (i + (1 : Int))) res) ∧
    (decide (i < (↑xn : Int)) = false →
    True ∧
    True ∧
    True ∧
    ((True ∧ Sub (AV.sc (Value.int IntKind.u8 m)) (AV.sc (Value.int IntKind.u8 m)) ∧ True) ∧ True) ∧
    Sub (AV.sc (Value.int IntKind.u8 m)) res ∧ SubOut [] []) from
    ⟨trivial, ⟨trivial, ⟨trivial, ⟨trivial, (And.elim (fun h4 k4 => ⟨(fun x5 => (fun h5 => ⟨trivial, ⟨trivial, ⟨trivial, (And.elim (fun h9 k9 => ⟨(And.elim (fun h10 k10 => ⟨h10, k10⟩) h9), ⟨trivial, ⟨trivial, ⟨trivial, ⟨trivial, ⟨trivial, ⟨trivial, ⟨⟨⟨trivial, ⟨Sub.refl _, ⟨trivial, ⟨Sub.refl _, ⟨trivial, ⟨Sub.refl _, trivial⟩⟩⟩⟩⟩⟩, trivial⟩, k9⟩⟩⟩⟩⟩⟩⟩⟩) h5)⟩⟩⟩) (h4 x5)), (fun x5 => (fun h5 => ⟨trivial, ⟨trivial, ⟨trivial, ⟨⟨⟨trivial, ⟨Sub.refl _, trivial⟩⟩, trivial⟩, ((fun h10 => ⟨h10, trivial⟩) h5)⟩⟩⟩⟩) (k4 x5))⟩) h)⟩⟩⟩⟩)
theorem hf91 : Go.Proofs.Try.prog.funcs[91]? = some Go.Proofs.Try.f91 := by kernel_rfl
abbrev s91_e (xn : Nat) (xf : Nat → Int) : List (Nat × AV) := [(0, (.vec true 1 xn xn (fun i0 => (.sc (.int .i64 (xf i0))))))]
abbrev m91_e (xn : Nat) (xf : Nat → Int) : List (Nat × Nat × AV) := []
def L91_e (xn : Nat) (xf : Nat → Int) (res : AV) : Prop := Goes ⟨Go.Proofs.Try.prog, 91, [], res, []⟩ (place Go.Proofs.Try.f91 []) (s91_e xn xf) (m91_e xn xf)
theorem a91_e (xn : Nat) (xf : Nat → Int) (res : AV) (h : (∀ slot, fact (look .undef (s91_e xn xf) slot)) → L91_e xn xf res) : L91_e xn xf res :=
  assumeRule 91 [] Go.Proofs.Try.f91 hf91 [] (s91_e xn xf) (m91_e xn xf) res [] _ (by kernel_rfl) h
abbrev s91_0 (xn : Nat) (xf : Nat → Int) : List (Nat × AV) := [(0, (.vec true 1 xn xn (fun i0 => (.sc (.int .i64 (xf i0))))))]
abbrev m91_0 (xn : Nat) (xf : Nat → Int) : List (Nat × Nat × AV) := []
def L91_0 (xn : Nat) (xf : Nat → Int) (res : AV) : Prop := Goes ⟨Go.Proofs.Try.prog, 91, [], res, []⟩ (place Go.Proofs.Try.f91 [1, 1]) (s91_0 xn xf) (m91_0 xn xf)
theorem a91_0 (xn : Nat) (xf : Nat → Int) (res : AV) (h : (∀ slot, fact (look .undef (s91_0 xn xf) slot)) → L91_0 xn xf res) : L91_0 xn xf res :=
  assumeRule 91 [] Go.Proofs.Try.f91 hf91 [1, 1] (s91_0 xn xf) (m91_0 xn xf) res [] _ (by kernel_rfl) h
abbrev s91_1 (xn : Nat) (xf : Nat → Int) (m : Int) (i : Int) : List (Nat × AV) := [(0, (.vec true 1 xn xn (fun i0 => (.sc (.int .i64 (xf i0)))))), (3, (.sc (.int .i64 m))), (4, (.sc (.int .i64 i)))]
abbrev m91_1 (xn : Nat) (xf : Nat → Int) (m : Int) (i : Int) : List (Nat × Nat × AV) := []
def L91_1 (xn : Nat) (xf : Nat → Int) (m : Int) (i : Int) (res : AV) : Prop := Goes ⟨Go.Proofs.Try.prog, 91, [], res, []⟩ (place Go.Proofs.Try.f91 [1, 1, 1, 0, 1, 0, 0]) (s91_1 xn xf m i) (m91_1 xn xf m i)
theorem a91_1 (xn : Nat) (xf : Nat → Int) (m : Int) (i : Int) (res : AV) (h : (∀ slot, fact (look .undef (s91_1 xn xf m i) slot)) → L91_1 xn xf m i res) : L91_1 xn xf m i res :=
  assumeRule 91 [] Go.Proofs.Try.f91 hf91 [1, 1, 1, 0, 1, 0, 0] (s91_1 xn xf m i) (m91_1 xn xf m i) res [] _ (by kernel_rfl) h
theorem o91 (xn : Nat) (xf : Nat → Int) (res : AV) (hnew : newOnly res) (h : L91_e xn xf res) : Ok Go.Proofs.Try.prog 91 [(.vec true 1 xn xn (fun i0 => (.sc (.int .i64 (xf i0)))))] [] res [] :=
  okRule2 91 Go.Proofs.Try.f91 hf91 [(.vec true 1 xn xn (fun i0 => (.sc (.int .i64 (xf i0)))))] [] res [] [] rfl (by kernel_rfl) (by kernel_rfl) (by kernel_rfl) ⟨hnew, by simp⟩ (L91_e xn xf res) (by kernel_rfl) h
theorem r91_e (xn : Nat) (xf : Nat → Int) (res : AV)
    (h : decide ((↑xn : Int) < (1 : Int)) = false ∧ L91_0 xn xf res) :
    L91_e xn xf res :=
  rule Go.Am.Seat.tabOk 91 [] Go.Proofs.Try.f91 hf91 [] (s91_e xn xf) (m91_e xn xf) res [] 400
    ((Orc.cut (nat_lit 1) (s91_0 xn xf) (m91_0 xn xf) []).no) _ _ (by kernel_rfl) (by kernel_rfl) (show True ∧
  True ∧
    True ∧
    True ∧
    decide ((↑xn : Int) < (1 : Int)) = false ∧
    ((True ∧
    Sub (AV.vec true (1 : Nat) xn xn fun (i0 : Nat) => AV.sc (Value.int IntKind.i64 (xf i0)))
    (AV.vec true (1 : Nat) xn xn fun (i0 : Nat) => AV.sc (Value.int IntKind.i64 (xf i0))) ∧
    True) ∧
    True) ∧
    L91_0 xn xf res from
    ⟨trivial, ⟨trivial, ⟨trivial, ⟨trivial, (And.elim (fun h4 k4 => ⟨h4, ⟨⟨⟨trivial, ⟨Sub.refl _, trivial⟩⟩, trivial⟩, k4⟩⟩) h)⟩⟩⟩⟩)
theorem r91_0 (xn : Nat) (xf : Nat → Int) (res : AV)
    (h : ((0 : Int) ≤ (0 : Int) ∧ (0 : Int) < (↑xn : Int)) ∧ L91_1 xn xf (xf (Int.toNat (0 : Int))) (1 : Int) res) :
    L91_0 xn xf res :=
  rule Go.Am.Seat.tabOk 91 [] Go.Proofs.Try.f91 hf91 [1, 1] (s91_0 xn xf) (m91_0 xn xf) res [] 400
    (Orc.cut (nat_lit 7) (s91_1 xn xf (xf (Int.toNat (0 : Int))) (1 : Int)) (m91_1 xn xf (xf (Int.toNat (0 : Int))) (1 : Int)) []) _ _ (by kernel_rfl) (by kernel_rfl) (show True ∧
  ((0 : Int) ≤ (0 : Int) ∧ (0 : Int) < (↑xn : Int)) ∧
    True ∧
    True ∧
    True ∧
    ((True ∧
    Sub (AV.vec true (1 : Nat) xn xn fun (i0 : Nat) => AV.sc (Value.int IntKind.i64 (xf i0)))
    (AV.vec true (1 : Nat) xn xn fun (i0 : Nat) => AV.sc (Value.int IntKind.i64 (xf i0))) ∧
    True ∧
    Sub (AV.sc (Value.int IntKind.i64 (xf (Int.toNat (0 : Int))))) (AV.sc (Value.int IntKind.i64 (xf (Int.toNat (0 : Int))))) ∧
    True ∧ Sub (AV.sc (Value.int IntKind.i64 (1 : Int))) (AV.sc (Value.int IntKind.i64 (1 : Int))) ∧ True) ∧
    True) ∧
    L91_1 xn xf (xf (Int.toNat (0 : Int))) (1 : Int) res from
    ⟨trivial, (And.elim (fun h1 k1 => ⟨(And.elim (fun h2 k2 => ⟨h2, k2⟩) h1), ⟨trivial, ⟨trivial, ⟨trivial, ⟨⟨⟨trivial, ⟨Sub.refl _, ⟨trivial, ⟨Sub.refl _, ⟨trivial, ⟨Sub.refl _, trivial⟩⟩⟩⟩⟩⟩, trivial⟩, k1⟩⟩⟩⟩⟩) h)⟩)
theorem r91_1 (xn : Nat) (xf : Nat → Int) (m : Int) (i : Int) (res : AV)
    (h : (decide (i < (↑xn : Int)) = true →
    ((0 : Int) ≤ i ∧ i < (↑xn : Int)) ∧
    L91_1 xn xf (if true = true then if xf i.toNat > m then xf i.toNat else m else if xf i.toNat < m then xf i.toNat else m)
    (IntKind.i64.wrap (i + (1 : Int))) res) ∧
  (decide (i < (↑xn : Int)) = false → Sub (AV.sc (Value.int IntKind.i64 m)) res)) :
    L91_1 xn xf m i res :=
  rule Go.Am.Seat.tabOk 91 [] Go.Proofs.Try.f91 hf91 [1, 1, 1, 0, 1, 0, 0] (s91_1 xn xf m i) (m91_1 xn xf m i) res [] 400
    ((Orc.cut (nat_lit 7)
    (s91_1 xn xf (if true = true then if xf i.toNat > m then xf i.toNat else m else if xf i.toNat < m then xf i.toNat else m)
    (IntKind.i64.wrap (i + (1 : Int))))
    (m91_1 xn xf (if true = true then if xf i.toNat > m then xf i.toNat else m else if xf i.toNat < m then xf i.toNat else m)
    (IntKind.i64.wrap (i + (1 : Int))))
    []).br
  (Orc.fin (AV.sc (Value.int IntKind.i64 m)) [] [])) _ _ (by kernel_rfl) (by kernel_rfl) (show True ∧
  True ∧
    True ∧
    True ∧
    (decide (i < (↑xn : Int)) = true →
    True ∧
    True ∧
    True ∧
    ((0 : Int) ≤ i ∧ i < (↑xn : Int)) ∧
    True ∧
    True ∧
    True ∧
    True ∧
    True ∧
    True ∧
    ((True ∧
    Sub (AV.vec true (1 : Nat) xn xn fun (i0 : Nat) => AV.sc (Value.int IntKind.i64 (xf i0)))
    (AV.vec true (1 : Nat) xn xn fun (i0 : Nat) => AV.sc (Value.int IntKind.i64 (xf i0))) ∧
    True ∧
    Sub
    (AV.sc
    (Value.int IntKind.i64
    (if true = true then if xf i.toNat > m then xf i.toNat else m else if xf i.toNat < m then xf i.toNat else m)))
    (AV.sc
    (Value.int IntKind.i64
    (if true = true then if xf i.toNat > m then xf i.toNat else m
    else if xf i.toNat < m then xf i.toNat else m))) ∧
    True ∧
    Sub (AV.sc (Value.int IntKind.i64 (IntKind.i64.wrap (i + (1 : Int)))))
    (AV.sc (Value.int IntKind.i64 (IntKind.i64.wrap (i + (1 : Int))))) ∧
    True) ∧
    True) ∧
    L91_1 xn xf (if true = true then if xf i.toNat > m then xf i.toNat else m else if xf i.toNat < m then xf i.toNat else m)
    (IntKind.i64.wrap (i + (1 : Int))) res) ∧
    (decide (i < (↑xn : Int)) = false →
    True ∧
    True ∧
    True ∧
    ((True ∧ Sub (AV.sc (Value.int IntKind.i64 m)) (AV.sc (Value.int IntKind.i64 m)) ∧ True) ∧ True) ∧
    Sub (AV.sc (Value.int IntKind.i64 m)) res ∧ SubOut [] []) from
    ⟨trivial, ⟨trivial, ⟨trivial, ⟨trivial, (And.elim (fun h4 k4 => ⟨(fun x5 => (fun h5 => ⟨trivial, ⟨trivial, ⟨trivial, (And.elim (fun h9 k9 => ⟨(And.elim (fun h10 k10 => ⟨h10, k10⟩) h9), ⟨trivial, ⟨trivial, ⟨trivial, ⟨trivial, ⟨trivial, ⟨trivial, ⟨⟨⟨trivial, ⟨Sub.refl _, ⟨trivial, ⟨Sub.refl _, ⟨trivial, ⟨Sub.refl _, trivial⟩⟩⟩⟩⟩⟩, trivial⟩, k9⟩⟩⟩⟩⟩⟩⟩⟩) h5)⟩⟩⟩) (h4 x5)), (fun x5 => (fun h5 => ⟨trivial, ⟨trivial, ⟨trivial, ⟨⟨⟨trivial, ⟨Sub.refl _, trivial⟩⟩, trivial⟩, ((fun h10 => ⟨h10, trivial⟩) h5)⟩⟩⟩⟩) (k4 x5))⟩) h)⟩⟩⟩⟩)
theorem hf92 : Go.Proofs.Try.prog.funcs[92]? = some Go.Proofs.Try.f92 := by kernel_rfl
abbrev s92_e (sn : Nat) (sf : Nat → Int) : List (Nat × AV) := [(0, (.vec true 1 sn sn (fun i0 => (.sc (.int .i64 (sf i0)))))), (1, (.sc (.func (.func 93) #[] #[])))]
abbrev m92_e (sn : Nat) (sf : Nat → Int) : List (Nat × Nat × AV) := []
def L92_e (sn : Nat) (sf : Nat → Int) (res : AV) : Prop := Goes ⟨Go.Proofs.Try.prog, 92, [], res, []⟩ (place Go.Proofs.Try.f92 []) (s92_e sn sf) (m92_e sn sf)
theorem a92_e (sn : Nat) (sf : Nat → Int) (res : AV) (h : (∀ slot, fact (look .undef (s92_e sn sf) slot)) → L92_e sn sf res) : L92_e sn sf res :=
  assumeRule 92 [] Go.Proofs.Try.f92 hf92 [] (s92_e sn sf) (m92_e sn sf) res [] _ (by kernel_rfl) h
theorem o92 (sn : Nat) (sf : Nat → Int) (res : AV) (hnew : newOnly res) (h : L92_e sn sf res) : Ok Go.Proofs.Try.prog 92 [(.vec true 1 sn sn (fun i0 => (.sc (.int .i64 (sf i0))))), (.sc (.func (.func 93) #[] #[]))] [] res [] :=
  okRule2 92 Go.Proofs.Try.f92 hf92 [(.vec true 1 sn sn (fun i0 => (.sc (.int .i64 (sf i0))))), (.sc (.func (.func 93) #[] #[]))] [] res [] [] rfl (by kernel_rfl) (by kernel_rfl) (by kernel_rfl) ⟨hnew, by simp⟩ (L92_e sn sf res) (by kernel_rfl) h
theorem r92_e (sn : Nat) (sf : Nat → Int) (res : AV)
    (h : ∃ (r : Int),
  Ok Proofs.Try.prog (105 : Nat)
    [AV.vec true (1 : Nat) sn sn fun (i : Nat) => AV.sc (Value.int IntKind.i64 (sf i)), AV.sc (Value.func (Fn.func (93 : FuncId)) #[] #[])] []
    (AV.sc (Value.int IntKind.i64 r)) [] ∧
    Sub (AV.sc (Value.bool (decide (r ≥ (0 : Int))))) res) :
    L92_e sn sf res :=
  rule Go.Am.Seat.tabOk 92 [] Go.Proofs.Try.f92 hf92 [] (s92_e sn sf) (m92_e sn sf) res [] 400
    (Orc.call [] [] (fun (r105 : Int) => AV.sc (Value.int IntKind.i64 r105)) (fun (r105 : Int) => []) fun (r105 : Int) =>
  Orc.fin (AV.sc (Value.bool (decide (r105 ≥ (0 : Int))))) [] []) _ _ (by kernel_rfl) (by kernel_rfl) (show True ∧
  True ∧
    True ∧
    ∃ (r : Int),
    ((True ∧ True ∧ True) ∧
    True ∧
    Ok Proofs.Try.prog (105 : Nat)
    [AV.vec true (1 : Nat) sn sn fun (i : Nat) => AV.sc (Value.int IntKind.i64 (sf i)), AV.sc (Value.func (Fn.func (93 : FuncId)) #[] #[])] []
    (AV.sc (Value.int IntKind.i64 r)) []) ∧
    True ∧
    True ∧
    True ∧
    ((True ∧ Sub (AV.sc (Value.bool (decide (r ≥ (0 : Int))))) (AV.sc (Value.bool (decide (r ≥ (0 : Int))))) ∧ True) ∧ True) ∧
    Sub (AV.sc (Value.bool (decide (r ≥ (0 : Int))))) res ∧ SubOut [] [] from
    ⟨trivial, ⟨trivial, ⟨trivial, (Exists.elim h fun x3 h3 => ⟨x3, (And.elim (fun h4 k4 => ⟨⟨⟨trivial, ⟨trivial, trivial⟩⟩, ⟨trivial, h4⟩⟩, ⟨trivial, ⟨trivial, ⟨trivial, ⟨⟨⟨trivial, ⟨Sub.refl _, trivial⟩⟩, trivial⟩, ((fun h9 => ⟨h9, trivial⟩) k4)⟩⟩⟩⟩⟩) h3)⟩)⟩⟩⟩)
theorem hf93 : Go.Proofs.Try.prog.funcs[93]? = some Go.Proofs.Try.f93 := by kernel_rfl
abbrev s93_e (t : Int) : List (Nat × AV) := [(0, (.sc (.int .i64 t)))]
abbrev m93_e (t : Int) : List (Nat × Nat × AV) := []
def L93_e (t : Int) (res : AV) : Prop := Goes ⟨Go.Proofs.Try.prog, 93, [], res, []⟩ (place Go.Proofs.Try.f93 []) (s93_e t) (m93_e t)
theorem a93_e (t : Int) (res : AV) (h : (∀ slot, fact (look .undef (s93_e t) slot)) → L93_e t res) : L93_e t res :=
  assumeRule 93 [] Go.Proofs.Try.f93 hf93 [] (s93_e t) (m93_e t) res [] _ (by kernel_rfl) h
theorem o93 (t : Int) (res : AV) (hnew : newOnly res) (h : L93_e t res) : Ok Go.Proofs.Try.prog 93 [(.sc (.int .i64 t))] [] res [] :=
  okRule2 93 Go.Proofs.Try.f93 hf93 [(.sc (.int .i64 t))] [] res [] [] rfl (by kernel_rfl) (by kernel_rfl) (by kernel_rfl) ⟨hnew, by simp⟩ (L93_e t res) (by kernel_rfl) h
theorem r93_e (t : Int) (res : AV)
    (h : Sub (AV.sc (Value.bool (decide (t ≥ (0 : Int))))) res) :
    L93_e t res :=
  rule Go.Am.Seat.tabOk 93 [] Go.Proofs.Try.f93 hf93 [] (s93_e t) (m93_e t) res [] 400
    (Orc.fin (AV.sc (Value.bool (decide (t ≥ (0 : Int))))) [] []) _ _ (by kernel_rfl) (by kernel_rfl) (show True ∧
  True ∧
    True ∧
    True ∧
    True ∧
    ((True ∧ Sub (AV.sc (Value.bool (decide (t ≥ (0 : Int))))) (AV.sc (Value.bool (decide (t ≥ (0 : Int))))) ∧ True) ∧ True) ∧
    Sub (AV.sc (Value.bool (decide (t ≥ (0 : Int))))) res ∧ SubOut [] [] from
    ⟨trivial, ⟨trivial, ⟨trivial, ⟨trivial, ⟨trivial, ⟨⟨⟨trivial, ⟨Sub.refl _, trivial⟩⟩, trivial⟩, ((fun h6 => ⟨h6, trivial⟩) h)⟩⟩⟩⟩⟩⟩)
theorem hf105 : Go.Proofs.Try.prog.funcs[105]? = some Go.Proofs.Try.f105 := by kernel_rfl
abbrev s105_e (sn : Nat) (sf : Nat → Int) : List (Nat × AV) := [(0, (.vec true 1 sn sn (fun i0 => (.sc (.int .i64 (sf i0)))))), (1, (.sc (.func (.func 93) #[] #[])))]
abbrev m105_e (sn : Nat) (sf : Nat → Int) : List (Nat × Nat × AV) := []
def L105_e (sn : Nat) (sf : Nat → Int) (res : AV) : Prop := Goes ⟨Go.Proofs.Try.prog, 105, [], res, []⟩ (place Go.Proofs.Try.f105 []) (s105_e sn sf) (m105_e sn sf)
theorem a105_e (sn : Nat) (sf : Nat → Int) (res : AV) (h : (∀ slot, fact (look .undef (s105_e sn sf) slot)) → L105_e sn sf res) : L105_e sn sf res :=
  assumeRule 105 [] Go.Proofs.Try.f105 hf105 [] (s105_e sn sf) (m105_e sn sf) res [] _ (by kernel_rfl) h
abbrev s105_0 (sn : Nat) (sf : Nat → Int) (t7 : Int) (t8 : Int) : List (Nat × AV) := [(0, (.vec true 1 sn sn (fun i0 => (.sc (.int .i64 (sf i0)))))), (1, (.sc (.func (.func 93) #[] #[]))), (7, (.sc (.int .i64 t7))), (8, (.sc (.int .i64 t8)))]
abbrev m105_0 (sn : Nat) (sf : Nat → Int) (t7 : Int) (t8 : Int) : List (Nat × Nat × AV) := []
def L105_0 (sn : Nat) (sf : Nat → Int) (t7 : Int) (t8 : Int) (res : AV) : Prop := Goes ⟨Go.Proofs.Try.prog, 105, [], res, []⟩ (place Go.Proofs.Try.f105 [1, 0, 1, 0, 0]) (s105_0 sn sf t7 t8) (m105_0 sn sf t7 t8)
theorem a105_0 (sn : Nat) (sf : Nat → Int) (t7 : Int) (t8 : Int) (res : AV) (h : (∀ slot, fact (look .undef (s105_0 sn sf t7 t8) slot)) → L105_0 sn sf t7 t8 res) : L105_0 sn sf t7 t8 res :=
  assumeRule 105 [] Go.Proofs.Try.f105 hf105 [1, 0, 1, 0, 0] (s105_0 sn sf t7 t8) (m105_0 sn sf t7 t8) res [] _ (by kernel_rfl) h
theorem o105 (sn : Nat) (sf : Nat → Int) (res : AV) (hnew : newOnly res) (h : L105_e sn sf res) : Ok Go.Proofs.Try.prog 105 [(.vec true 1 sn sn (fun i0 => (.sc (.int .i64 (sf i0))))), (.sc (.func (.func 93) #[] #[]))] [] res [] :=
  okRule2 105 Go.Proofs.Try.f105 hf105 [(.vec true 1 sn sn (fun i0 => (.sc (.int .i64 (sf i0))))), (.sc (.func (.func 93) #[] #[]))] [] res [] [] rfl (by kernel_rfl) (by kernel_rfl) (by kernel_rfl) ⟨hnew, by simp⟩ (L105_e sn sf res) (by kernel_rfl) h
theorem r105_e (sn : Nat) (sf : Nat → Int) (res : AV)
    (h : L105_0 sn sf (↑sn : Int) (0 : Int) res) :
    L105_e sn sf res :=
  rule Go.Am.Seat.tabOk 105 [] Go.Proofs.Try.f105 hf105 [] (s105_e sn sf) (m105_e sn sf) res [] 400
    (Orc.cut (nat_lit 7) (s105_0 sn sf (↑sn : Int) (0 : Int)) (m105_0 sn sf (↑sn : Int) (0 : Int)) []) _ _ (by kernel_rfl) (by kernel_rfl) (show True ∧
  True ∧
    True ∧
    True ∧
    ((True ∧
    Sub (AV.vec true (1 : Nat) sn sn fun (i0 : Nat) => AV.sc (Value.int IntKind.i64 (sf i0)))
    (AV.vec true (1 : Nat) sn sn fun (i0 : Nat) => AV.sc (Value.int IntKind.i64 (sf i0))) ∧
    True ∧
    Sub (AV.sc (Value.func (Fn.func (93 : FuncId)) #[] #[])) (AV.sc (Value.func (Fn.func (93 : FuncId)) #[] #[])) ∧
    True ∧
    Sub (AV.sc (Value.int IntKind.i64 (↑sn : Int))) (AV.sc (Value.int IntKind.i64 (↑sn : Int))) ∧
    True ∧ Sub (AV.sc (Value.int IntKind.i64 (0 : Int))) (AV.sc (Value.int IntKind.i64 (0 : Int))) ∧ True) ∧
    True) ∧
    L105_0 sn sf (↑sn : Int) (0 : Int) res from
    ⟨trivial, ⟨trivial, ⟨trivial, ⟨trivial, ⟨⟨⟨trivial, ⟨Sub.refl _, ⟨trivial, ⟨Sub.refl _, ⟨trivial, ⟨Sub.refl _, ⟨trivial, ⟨Sub.refl _, trivial⟩⟩⟩⟩⟩⟩⟩⟩, trivial⟩, h⟩⟩⟩⟩⟩)
theorem r105_0 (sn : Nat) (sf : Nat → Int) (t7 : Int) (t8 : Int) (res : AV)
    (h : (decide (t8 < t7) = true →
    ((0 : Int) ≤ t8 ∧ t8 < (↑sn : Int)) ∧
    ∃ (r : Bool),
    Ok Proofs.Try.prog (93 : Nat) [AV.sc (Value.int IntKind.i64 (sf t8.toNat))] [] (AV.sc (Value.bool r)) [] ∧
    (r = true → Sub (AV.sc (Value.int IntKind.i64 t8)) res) ∧ (r = false → L105_0 sn sf t7 (IntKind.i64.wrap (t8 + (1 : Int))) res)) ∧
  (decide (t8 < t7) = false → Sub (AV.sc (Value.int IntKind.i64 (-1 : Int))) res)) :
    L105_0 sn sf t7 t8 res :=
  rule Go.Am.Seat.tabOk 105 [] Go.Proofs.Try.f105 hf105 [1, 0, 1, 0, 0] (s105_0 sn sf t7 t8) (m105_0 sn sf t7 t8) res [] 400
    ((Orc.call [] [] (fun (r93 : Bool) => AV.sc (Value.bool r93)) (fun (r93 : Bool) => []) fun (r93 : Bool) =>
    (Orc.fin (AV.sc (Value.int IntKind.i64 t8)) [] []).br
    (Orc.cut (nat_lit 4) (s105_0 sn sf t7 (IntKind.i64.wrap (t8 + (1 : Int)))) (m105_0 sn sf t7 (IntKind.i64.wrap (t8 + (1 : Int)))) [])).br
  (Orc.fin (AV.sc (Value.int IntKind.i64 (-1 : Int))) [] [])) _ _ (by kernel_rfl) (by kernel_rfl) (show True ∧
  (decide (t8 < t7) = true →
    True ∧
    True ∧
    True ∧
    True ∧
    True ∧
    ((0 : Int) ≤ t8 ∧ t8 < (↑sn : Int)) ∧
    True ∧
    ∃ (r : Bool),
    ((True ∧ True) ∧ True ∧ Ok Proofs.Try.prog (93 : Nat) [AV.sc (Value.int IntKind.i64 (sf t8.toNat))] [] (AV.sc (Value.bool r)) []) ∧
    (r = true →
    True ∧
    True ∧
    True ∧
    ((True ∧ Sub (AV.sc (Value.int IntKind.i64 t8)) (AV.sc (Value.int IntKind.i64 t8)) ∧ True) ∧ True) ∧
    Sub (AV.sc (Value.int IntKind.i64 t8)) res ∧ SubOut [] []) ∧
    (r = false →
    True ∧
    True ∧
    ((True ∧
    Sub (AV.vec true (1 : Nat) sn sn fun (i0 : Nat) => AV.sc (Value.int IntKind.i64 (sf i0)))
    (AV.vec true (1 : Nat) sn sn fun (i0 : Nat) => AV.sc (Value.int IntKind.i64 (sf i0))) ∧
    True ∧
    Sub (AV.sc (Value.func (Fn.func (93 : FuncId)) #[] #[])) (AV.sc (Value.func (Fn.func (93 : FuncId)) #[] #[])) ∧
    True ∧
    Sub (AV.sc (Value.int IntKind.i64 t7)) (AV.sc (Value.int IntKind.i64 t7)) ∧
    True ∧
    Sub (AV.sc (Value.int IntKind.i64 (IntKind.i64.wrap (t8 + (1 : Int)))))
    (AV.sc (Value.int IntKind.i64 (IntKind.i64.wrap (t8 + (1 : Int))))) ∧
    True) ∧
    True) ∧
    L105_0 sn sf t7 (IntKind.i64.wrap (t8 + (1 : Int))) res)) ∧
    (decide (t8 < t7) = false →
    True ∧
    True ∧
    ((True ∧ Sub (AV.sc (Value.int IntKind.i64 (-1 : Int))) (AV.sc (Value.int IntKind.i64 (-1 : Int))) ∧ True) ∧ True) ∧
    Sub (AV.sc (Value.int IntKind.i64 (-1 : Int))) res ∧ SubOut [] []) from
    ⟨trivial, (And.elim (fun h1 k1 => ⟨(fun x2 => (fun h2 => ⟨trivial, ⟨trivial, ⟨trivial, ⟨trivial, ⟨trivial, (And.elim (fun h8 k8 => ⟨(And.elim (fun h9 k9 => ⟨h9, k9⟩) h8), ⟨trivial, (Exists.elim k8 fun x10 h10 => ⟨x10, (And.elim (fun h11 k11 => ⟨⟨⟨trivial, trivial⟩, ⟨trivial, h11⟩⟩, (And.elim (fun h12 k12 => ⟨(fun x13 => (fun h13 => ⟨trivial, ⟨trivial, ⟨trivial, ⟨⟨⟨trivial, ⟨Sub.refl _, trivial⟩⟩, trivial⟩, ((fun h18 => ⟨h18, trivial⟩) h13)⟩⟩⟩⟩) (h12 x13)), (fun x13 => (fun h13 => ⟨trivial, ⟨trivial, ⟨⟨⟨trivial, ⟨Sub.refl _, ⟨trivial, ⟨Sub.refl _, ⟨trivial, ⟨Sub.refl _, ⟨trivial, ⟨Sub.refl _, trivial⟩⟩⟩⟩⟩⟩⟩⟩, trivial⟩, h13⟩⟩⟩) (k12 x13))⟩) k11)⟩) h10)⟩)⟩⟩) h2)⟩⟩⟩⟩⟩) (h1 x2)), (fun x2 => (fun h2 => ⟨trivial, ⟨trivial, ⟨⟨⟨trivial, ⟨Sub.refl _, trivial⟩⟩, trivial⟩, ((fun h6 => ⟨h6, trivial⟩) h2)⟩⟩⟩) (k1 x2))⟩) h)⟩)
end Go.Am.Seat
