/- The rules of 8 functions: from what is owed at each place of a function the function goes on as it is told there. Printed by a program of this seat; Lean checks each. -/
import Derived.Test.YtpmgbnlenpgdoaaAmZ2
import Derived.Test.YtpmgbnlenpgdoaaTab
open Go Go.Am Go.Am.Seat
namespace Go.Am.Seat
set_option linter.unusedVariables false
set_option maxRecDepth 100000
theorem hf3 : Go.Proofs.Try.prog.funcs[3]? = some Go.Proofs.Try.f3 := by kernel_rfl
abbrev s3_e (da : Int) (dbaf : Nat → Int) (dbban : Nat) (dbbafn : Nat → Nat) (dbbaff : Nat → Nat → Int) (dbbban : Nat) (dbbbaf : Nat → Int) (text : ByteArray) (at_ : Int) : List (Nat × AV) := [(0, (.cons 1 (.sc (.int .i64 da)) (.cons 256 (.ar 256 1 (fun i0 => (.sc (.int .u8 (dbaf i0))))) (.cons 1 (.vec true 1 dbban dbban (fun i0 => (.vec true 1 (dbbafn i0) (dbbafn i0) (fun i1 => (.sc (.int .i64 (dbbaff i0 i1))))))) (.cons 1 (.vec true 1 dbbban dbbban (fun i0 => (.sc (.int .i64 (dbbbaf i0))))) .nil))))), (1, (.sc (.string text))), (2, (.sc (.int .i64 at_)))]
abbrev m3_e (da : Int) (dbaf : Nat → Int) (dbban : Nat) (dbbafn : Nat → Nat) (dbbaff : Nat → Nat → Int) (dbbban : Nat) (dbbbaf : Nat → Int) (text : ByteArray) (at_ : Int) : List (Nat × Nat × AV) := []
def L3_e (da : Int) (dbaf : Nat → Int) (dbban : Nat) (dbbafn : Nat → Nat) (dbbaff : Nat → Nat → Int) (dbbban : Nat) (dbbbaf : Nat → Int) (text : ByteArray) (at_ : Int) (res : AV) : Prop := Goes ⟨Go.Proofs.Try.prog, 3, [], res, []⟩ (place Go.Proofs.Try.f3 []) (s3_e da dbaf dbban dbbafn dbbaff dbbban dbbbaf text at_) (m3_e da dbaf dbban dbbafn dbbaff dbbban dbbbaf text at_)
theorem a3_e (da : Int) (dbaf : Nat → Int) (dbban : Nat) (dbbafn : Nat → Nat) (dbbaff : Nat → Nat → Int) (dbbban : Nat) (dbbbaf : Nat → Int) (text : ByteArray) (at_ : Int) (res : AV) (h : (∀ slot, fact (look .undef (s3_e da dbaf dbban dbbafn dbbaff dbbban dbbbaf text at_) slot)) → L3_e da dbaf dbban dbbafn dbbaff dbbban dbbbaf text at_ res) : L3_e da dbaf dbban dbbafn dbbaff dbbban dbbbaf text at_ res :=
  assumeRule 3 [] Go.Proofs.Try.f3 hf3 [] (s3_e da dbaf dbban dbbafn dbbaff dbbban dbbbaf text at_) (m3_e da dbaf dbban dbbafn dbbaff dbbban dbbbaf text at_) res [] _ (by kernel_rfl) h
theorem o3 (da : Int) (dbaf : Nat → Int) (dbban : Nat) (dbbafn : Nat → Nat) (dbbaff : Nat → Nat → Int) (dbbban : Nat) (dbbbaf : Nat → Int) (text : ByteArray) (at_ : Int) (res : AV) (hnew : newOnly res) (h : L3_e da dbaf dbban dbbafn dbbaff dbbban dbbbaf text at_ res) : Ok Go.Proofs.Try.prog 3 [(.cons 1 (.sc (.int .i64 da)) (.cons 256 (.ar 256 1 (fun i0 => (.sc (.int .u8 (dbaf i0))))) (.cons 1 (.vec true 1 dbban dbban (fun i0 => (.vec true 1 (dbbafn i0) (dbbafn i0) (fun i1 => (.sc (.int .i64 (dbbaff i0 i1))))))) (.cons 1 (.vec true 1 dbbban dbbban (fun i0 => (.sc (.int .i64 (dbbbaf i0))))) .nil)))), (.sc (.string text)), (.sc (.int .i64 at_))] [] res [] :=
  okRule2 3 Go.Proofs.Try.f3 hf3 [(.cons 1 (.sc (.int .i64 da)) (.cons 256 (.ar 256 1 (fun i0 => (.sc (.int .u8 (dbaf i0))))) (.cons 1 (.vec true 1 dbban dbban (fun i0 => (.vec true 1 (dbbafn i0) (dbbafn i0) (fun i1 => (.sc (.int .i64 (dbbaff i0 i1))))))) (.cons 1 (.vec true 1 dbbban dbbban (fun i0 => (.sc (.int .i64 (dbbbaf i0))))) .nil)))), (.sc (.string text)), (.sc (.int .i64 at_))] [] res [] [] rfl (by kernel_rfl) (by kernel_rfl) (by kernel_rfl) ⟨hnew, by simp⟩ (L3_e da dbaf dbban dbbafn dbbaff dbbban dbbbaf text at_ res) (by kernel_rfl) h
theorem r3_e (da : Int) (dbaf : Nat → Int) (dbban : Nat) (dbbafn : Nat → Nat) (dbbaff : Nat → Nat → Int) (dbbban : Nat) (dbbbaf : Nat → Int) (text : ByteArray) (at_ : Int) (res : AV)
    (h : (decide ((↑text.size : Int) > (300 : Int)) = false →
    ∃ (r : Bool),
    Ok Proofs.Try.prog (15 : Nat)
    [AV.cons (1 : Nat) (AV.sc (Value.int IntKind.i64 da))
    (AV.cons (256 : Nat) (AV.ar (256 : Nat) (1 : Nat) fun (i : Nat) => AV.sc (Value.int IntKind.u8 (dbaf i)))
    (AV.cons (1 : Nat)
    (AV.vec true (1 : Nat) dbban dbban fun (i : Nat) =>
    AV.vec true (1 : Nat) (dbbafn i) (dbbafn i) fun (i_1 : Nat) => AV.sc (Value.int IntKind.i64 (dbbaff i i_1)))
    (AV.cons (1 : Nat) (AV.vec true (1 : Nat) dbbban dbbban fun (i : Nat) => AV.sc (Value.int IntKind.i64 (dbbbaf i))) AV.nil))),
    AV.sc (Value.int IntKind.i64 (20000 : Int))]
    [] (AV.sc (Value.bool r)) [] ∧
    (r = true → Sub (AV.sc (Value.bool true)) res) ∧
    (r = false →
    ∃ (r : Int × (Nat → Int) × Nat × Nat × (Nat → Nat) × (Nat → Nat) × (Nat → Nat → Int) × Nat × Nat × (Nat → Int)),
    Ok Proofs.Try.prog (16 : Nat)
    [AV.cons (1 : Nat) (AV.sc (Value.int IntKind.i64 da))
    (AV.cons (256 : Nat) (AV.ar (256 : Nat) (1 : Nat) fun (i : Nat) => AV.sc (Value.int IntKind.u8 (dbaf i)))
    (AV.cons (1 : Nat)
    (AV.vec true (1 : Nat) dbban dbban fun (i : Nat) =>
    AV.vec true (1 : Nat) (dbbafn i) (dbbafn i) fun (i_1 : Nat) => AV.sc (Value.int IntKind.i64 (dbbaff i i_1)))
    (AV.cons (1 : Nat) (AV.vec true (1 : Nat) dbbban dbbban fun (i : Nat) => AV.sc (Value.int IntKind.i64 (dbbbaf i))) AV.nil)))]
    []
    (AV.cons (1 : Nat) (AV.sc (Value.int IntKind.i64 r.fst))
    (AV.cons (256 : Nat) (AV.ar (256 : Nat) (1 : Nat) fun (i0 : Nat) => AV.sc (Value.int IntKind.u8 (r.snd.fst i0)))
    (AV.cons (1 : Nat)
    (AV.vec false (1 : Nat) r.snd.snd.fst r.snd.snd.snd.fst fun (i0 : Nat) =>
    AV.vec false (1 : Nat) (r.snd.snd.snd.snd.fst i0) (r.snd.snd.snd.snd.snd.fst i0) fun (i1 : Nat) =>
    AV.sc (Value.int IntKind.i64 (r.snd.snd.snd.snd.snd.snd.fst i0 i1)))
    (AV.cons (1 : Nat)
    (AV.vec false (1 : Nat) r.snd.snd.snd.snd.snd.snd.snd.fst r.snd.snd.snd.snd.snd.snd.snd.snd.fst fun (i0 : Nat) =>
    AV.sc (Value.int IntKind.i64 (r.snd.snd.snd.snd.snd.snd.snd.snd.snd i0)))
    AV.nil))))
    [] ∧
    ∃ (r_1 : Int × Int × Int × Int),
    Ok Proofs.Try.prog (17 : Nat)
    [AV.cons (1 : Nat) (AV.sc (Value.int IntKind.i64 r.fst))
    (AV.cons (256 : Nat) (AV.ar (256 : Nat) (1 : Nat) fun (i : Nat) => AV.sc (Value.int IntKind.u8 (r.snd.fst i)))
    (AV.cons (1 : Nat)
    (AV.vec true (1 : Nat) r.snd.snd.fst r.snd.snd.snd.fst fun (i : Nat) =>
    AV.vec true (1 : Nat) (r.snd.snd.snd.snd.fst i) (r.snd.snd.snd.snd.snd.fst i) fun (i_1 : Nat) =>
    AV.sc (Value.int IntKind.i64 (r.snd.snd.snd.snd.snd.snd.fst i i_1)))
    (AV.cons (1 : Nat)
    (AV.vec true (1 : Nat) r.snd.snd.snd.snd.snd.snd.snd.fst r.snd.snd.snd.snd.snd.snd.snd.snd.fst fun (i : Nat) =>
    AV.sc (Value.int IntKind.i64 (r.snd.snd.snd.snd.snd.snd.snd.snd.snd i)))
    AV.nil))),
    AV.sc (Value.string text), AV.sc (Value.int IntKind.i64 at_)]
    []
    (AV.cons (1 : Nat)
    (AV.cons (1 : Nat) (AV.sc (Value.int IntKind.i64 r_1.fst))
    (AV.cons (1 : Nat) (AV.sc (Value.int IntKind.i64 r_1.snd.fst))
    (AV.cons (1 : Nat) (AV.sc (Value.int IntKind.i64 r_1.snd.snd.fst)) AV.nil)))
    (AV.cons (1 : Nat) (AV.sc (Value.int IntKind.i64 r_1.snd.snd.snd)) AV.nil)).tup
    [] ∧
    ∃ (r_2 : Int × Int × Int × Int),
    Ok Proofs.Try.prog (18 : Nat)
    [AV.cons (1 : Nat) (AV.sc (Value.int IntKind.i64 da))
    (AV.cons (256 : Nat) (AV.ar (256 : Nat) (1 : Nat) fun (i : Nat) => AV.sc (Value.int IntKind.u8 (dbaf i)))
    (AV.cons (1 : Nat)
    (AV.vec true (1 : Nat) dbban dbban fun (i : Nat) =>
    AV.vec true (1 : Nat) (dbbafn i) (dbbafn i) fun (i_1 : Nat) => AV.sc (Value.int IntKind.i64 (dbbaff i i_1)))
    (AV.cons (1 : Nat) (AV.vec true (1 : Nat) dbbban dbbban fun (i : Nat) => AV.sc (Value.int IntKind.i64 (dbbbaf i))) AV.nil))),
    AV.sc (Value.string text), AV.sc (Value.int IntKind.i64 at_)]
    []
    (AV.cons (1 : Nat)
    (AV.cons (1 : Nat) (AV.sc (Value.int IntKind.i64 r_2.fst))
    (AV.cons (1 : Nat) (AV.sc (Value.int IntKind.i64 r_2.snd.fst))
    (AV.cons (1 : Nat) (AV.sc (Value.int IntKind.i64 r_2.snd.snd.fst)) AV.nil)))
    (AV.cons (1 : Nat) (AV.sc (Value.int IntKind.i64 r_2.snd.snd.snd)) AV.nil)).tup
    [] ∧
    (cdec (r_1.fst = r_2.fst ∧ r_1.snd.fst = r_2.snd.fst ∧ r_1.snd.snd.fst = r_2.snd.snd.fst ∧ True) = true →
    ((r_1.snd.snd.snd == r_2.snd.snd.snd) = true →
    ∃ (r_3 : Bool),
    Ok Proofs.Try.prog (19 : Nat)
    [AV.cons (1 : Nat) (AV.sc (Value.int IntKind.i64 r.fst))
    (AV.cons (256 : Nat) (AV.ar (256 : Nat) (1 : Nat) fun (i : Nat) => AV.sc (Value.int IntKind.u8 (r.snd.fst i)))
    (AV.cons (1 : Nat)
    (AV.vec true (1 : Nat) r.snd.snd.fst r.snd.snd.snd.fst fun (i : Nat) =>
    AV.vec true (1 : Nat) (r.snd.snd.snd.snd.fst i) (r.snd.snd.snd.snd.snd.fst i) fun (i_1 : Nat) =>
    AV.sc (Value.int IntKind.i64 (r.snd.snd.snd.snd.snd.snd.fst i i_1)))
    (AV.cons (1 : Nat)
    (AV.vec true (1 : Nat) r.snd.snd.snd.snd.snd.snd.snd.fst r.snd.snd.snd.snd.snd.snd.snd.snd.fst fun (i : Nat) =>
    AV.sc (Value.int IntKind.i64 (r.snd.snd.snd.snd.snd.snd.snd.snd.snd i)))
    AV.nil))),
    AV.cons (1 : Nat) (AV.sc (Value.int IntKind.i64 da))
    (AV.cons (256 : Nat) (AV.ar (256 : Nat) (1 : Nat) fun (i : Nat) => AV.sc (Value.int IntKind.u8 (dbaf i)))
    (AV.cons (1 : Nat)
    (AV.vec true (1 : Nat) dbban dbban fun (i : Nat) =>
    AV.vec true (1 : Nat) (dbbafn i) (dbbafn i) fun (i_1 : Nat) => AV.sc (Value.int IntKind.i64 (dbbaff i i_1)))
    (AV.cons (1 : Nat) (AV.vec true (1 : Nat) dbbban dbbban fun (i : Nat) => AV.sc (Value.int IntKind.i64 (dbbbaf i)))
    AV.nil)))]
    [] (AV.sc (Value.bool r_3)) [] ∧
    (r_3 = true →
    ∃ (r : Bool), Ok Proofs.Try.prog (20 : Nat) [] [] (AV.sc (Value.bool r)) [] ∧ Sub (AV.sc (Value.bool r)) res) ∧
    (r_3 = !true → Sub (AV.sc (Value.bool false)) res)) ∧
    ((r_1.snd.snd.snd == r_2.snd.snd.snd) = !true → Sub (AV.sc (Value.bool false)) res)) ∧
    (cdec (r_1.fst = r_2.fst ∧ r_1.snd.fst = r_2.snd.fst ∧ r_1.snd.snd.fst = r_2.snd.snd.fst ∧ True) = !true →
    Sub (AV.sc (Value.bool false)) res))) ∧
  (decide ((↑text.size : Int) > (300 : Int)) = !false → Sub (AV.sc (Value.bool true)) res)) :
    L3_e da dbaf dbban dbbafn dbbaff dbbban dbbbaf text at_ res :=
  rule Go.Am.Seat.tabOk 3 [] Go.Proofs.Try.f3 hf3 [] (s3_e da dbaf dbban dbbafn dbbaff dbbban dbbbaf text at_) (m3_e da dbaf dbban dbbafn dbbaff dbbban dbbbaf text at_) res [] 400
    ((Orc.call [] [] (fun (r15 : Bool) => AV.sc (Value.bool r15)) (fun (r15 : Bool) => []) fun (r15 : Bool) =>
    (Orc.fin (AV.sc (Value.bool true)) [] []).br
    (Orc.call [] []
    (fun (r16 : Int × (Nat → Int) × Nat × Nat × (Nat → Nat) × (Nat → Nat) × (Nat → Nat → Int) × Nat × Nat × (Nat → Int)) =>
    AV.cons (1 : Nat) (AV.sc (Value.int IntKind.i64 r16.fst))
    (AV.cons (256 : Nat) (AV.ar (256 : Nat) (1 : Nat) fun (i0 : Nat) => AV.sc (Value.int IntKind.u8 (r16.snd.fst i0)))
    (AV.cons (1 : Nat)
    (AV.vec false (1 : Nat) r16.snd.snd.fst r16.snd.snd.snd.fst fun (i0 : Nat) =>
    AV.vec false (1 : Nat) (r16.snd.snd.snd.snd.fst i0) (r16.snd.snd.snd.snd.snd.fst i0) fun (i1 : Nat) =>
    AV.sc (Value.int IntKind.i64 (r16.snd.snd.snd.snd.snd.snd.fst i0 i1)))
    (AV.cons (1 : Nat)
    (AV.vec false (1 : Nat) r16.snd.snd.snd.snd.snd.snd.snd.fst r16.snd.snd.snd.snd.snd.snd.snd.snd.fst fun (i0 : Nat) =>
    AV.sc (Value.int IntKind.i64 (r16.snd.snd.snd.snd.snd.snd.snd.snd.snd i0)))
    AV.nil))))
    (fun (r16 : Int × (Nat → Int) × Nat × Nat × (Nat → Nat) × (Nat → Nat) × (Nat → Nat → Int) × Nat × Nat × (Nat → Int)) => [])
    fun (r16 : Int × (Nat → Int) × Nat × Nat × (Nat → Nat) × (Nat → Nat) × (Nat → Nat → Int) × Nat × Nat × (Nat → Int)) =>
    Orc.call [] []
    (fun (r17 : Int × Int × Int × Int) =>
    (AV.cons (1 : Nat)
    (AV.cons (1 : Nat) (AV.sc (Value.int IntKind.i64 r17.fst))
    (AV.cons (1 : Nat) (AV.sc (Value.int IntKind.i64 r17.snd.fst))
    (AV.cons (1 : Nat) (AV.sc (Value.int IntKind.i64 r17.snd.snd.fst)) AV.nil)))
    (AV.cons (1 : Nat) (AV.sc (Value.int IntKind.i64 r17.snd.snd.snd)) AV.nil)).tup)
    (fun (r17 : Int × Int × Int × Int) => []) fun (r17 : Int × Int × Int × Int) =>
    Orc.call [] []
    (fun (r18 : Int × Int × Int × Int) =>
    (AV.cons (1 : Nat)
    (AV.cons (1 : Nat) (AV.sc (Value.int IntKind.i64 r18.fst))
    (AV.cons (1 : Nat) (AV.sc (Value.int IntKind.i64 r18.snd.fst))
    (AV.cons (1 : Nat) (AV.sc (Value.int IntKind.i64 r18.snd.snd.fst)) AV.nil)))
    (AV.cons (1 : Nat) (AV.sc (Value.int IntKind.i64 r18.snd.snd.snd)) AV.nil)).tup)
    (fun (r18 : Int × Int × Int × Int) => []) fun (r18 : Int × Int × Int × Int) =>
    ((Orc.call [] [] (fun (r19 : Bool) => AV.sc (Value.bool r19)) (fun (r19 : Bool) => []) fun (r19 : Bool) =>
    (Orc.call [] [] (fun (r20 : Bool) => AV.sc (Value.bool r20)) (fun (r20 : Bool) => []) fun (r20 : Bool) =>
    Orc.fin (AV.sc (Value.bool (bif true then r20 else false))) [] []).br
    (Orc.fin (AV.sc (Value.bool false)) [] [])).yes.yes.br
    (Orc.fin (AV.sc (Value.bool false)) [] []).no.no.no).yes.yes.br
    (Orc.fin (AV.sc (Value.bool false)) [] []).no.no.no.no.no.no)).yes.br
  (Orc.fin (AV.sc (Value.bool true)) [] []).yes.no) _ _ (by kernel_rfl) (by kernel_rfl) (show True ∧
  True ∧
    True ∧
    True ∧
    True ∧
    True ∧
    (decide ((↑text.size : Int) > (300 : Int)) = false →
    ((0 : Nat) = (0 : Nat) ∧ True) ∧
    false = false ∧
    ∃ (r : Bool),
    (((True ∧ True ∧ True ∧ True ∧ True) ∧ True ∧ True) ∧
    True ∧
    Ok Proofs.Try.prog (15 : Nat)
    [AV.cons (1 : Nat) (AV.sc (Value.int IntKind.i64 da))
    (AV.cons (256 : Nat) (AV.ar (256 : Nat) (1 : Nat) fun (i : Nat) => AV.sc (Value.int IntKind.u8 (dbaf i)))
    (AV.cons (1 : Nat)
    (AV.vec true (1 : Nat) dbban dbban fun (i : Nat) =>
    AV.vec true (1 : Nat) (dbbafn i) (dbbafn i) fun (i_1 : Nat) => AV.sc (Value.int IntKind.i64 (dbbaff i i_1)))
    (AV.cons (1 : Nat) (AV.vec true (1 : Nat) dbbban dbbban fun (i : Nat) => AV.sc (Value.int IntKind.i64 (dbbbaf i)))
    AV.nil))),
    AV.sc (Value.int IntKind.i64 (20000 : Int))]
    [] (AV.sc (Value.bool r)) []) ∧
    True ∧
    (r = true →
    True ∧
    True ∧
    ((True ∧ Sub (AV.sc (Value.bool true)) (AV.sc (Value.bool true)) ∧ True) ∧ True) ∧
    Sub (AV.sc (Value.bool true)) res ∧ SubOut [] []) ∧
    (r = false →
    ((0 : Nat) = (0 : Nat) ∧ True) ∧
    ∃ (r : Int × (Nat → Int) × Nat × Nat × (Nat → Nat) × (Nat → Nat) × (Nat → Nat → Int) × Nat × Nat × (Nat → Int)),
    (((True ∧ True ∧ True ∧ True ∧ True) ∧ True) ∧
    True ∧
    Ok Proofs.Try.prog (16 : Nat)
    [AV.cons (1 : Nat) (AV.sc (Value.int IntKind.i64 da))
    (AV.cons (256 : Nat) (AV.ar (256 : Nat) (1 : Nat) fun (i : Nat) => AV.sc (Value.int IntKind.u8 (dbaf i)))
    (AV.cons (1 : Nat)
    (AV.vec true (1 : Nat) dbban dbban fun (i : Nat) =>
    AV.vec true (1 : Nat) (dbbafn i) (dbbafn i) fun (i_1 : Nat) => AV.sc (Value.int IntKind.i64 (dbbaff i i_1)))
    (AV.cons (1 : Nat)
    (AV.vec true (1 : Nat) dbbban dbbban fun (i : Nat) => AV.sc (Value.int IntKind.i64 (dbbbaf i))) AV.nil)))]
    []
    (AV.cons (1 : Nat) (AV.sc (Value.int IntKind.i64 r.fst))
    (AV.cons (256 : Nat) (AV.ar (256 : Nat) (1 : Nat) fun (i0 : Nat) => AV.sc (Value.int IntKind.u8 (r.snd.fst i0)))
    (AV.cons (1 : Nat)
    (AV.vec false (1 : Nat) r.snd.snd.fst r.snd.snd.snd.fst fun (i0 : Nat) =>
    AV.vec false (1 : Nat) (r.snd.snd.snd.snd.fst i0) (r.snd.snd.snd.snd.snd.fst i0) fun (i1 : Nat) =>
    AV.sc (Value.int IntKind.i64 (r.snd.snd.snd.snd.snd.snd.fst i0 i1)))
    (AV.cons (1 : Nat)
    (AV.vec false (1 : Nat) r.snd.snd.snd.snd.snd.snd.snd.fst r.snd.snd.snd.snd.snd.snd.snd.snd.fst
    fun (i0 : Nat) => AV.sc (Value.int IntKind.i64 (r.snd.snd.snd.snd.snd.snd.snd.snd.snd i0)))
    AV.nil))))
    []) ∧
    True ∧
    ((0 : Nat) = (0 : Nat) ∧ True) ∧
    ((0 : Nat) = (0 : Nat) ∧ True) ∧
    True ∧
    True ∧
    ∃ (r_1 : Int × Int × Int × Int),
    (((True ∧ True ∧ True ∧ True ∧ True) ∧ True ∧ True ∧ True) ∧
    True ∧
    Ok Proofs.Try.prog (17 : Nat)
    [AV.cons (1 : Nat) (AV.sc (Value.int IntKind.i64 r.fst))
    (AV.cons (256 : Nat)
    (AV.ar (256 : Nat) (1 : Nat) fun (i : Nat) => AV.sc (Value.int IntKind.u8 (r.snd.fst i)))
    (AV.cons (1 : Nat)
    (AV.vec true (1 : Nat) r.snd.snd.fst r.snd.snd.snd.fst fun (i : Nat) =>
    AV.vec true (1 : Nat) (r.snd.snd.snd.snd.fst i) (r.snd.snd.snd.snd.snd.fst i)
    fun (i_1 : Nat) => AV.sc (Value.int IntKind.i64 (r.snd.snd.snd.snd.snd.snd.fst i i_1)))
    (AV.cons (1 : Nat)
    (AV.vec true (1 : Nat) r.snd.snd.snd.snd.snd.snd.snd.fst r.snd.snd.snd.snd.snd.snd.snd.snd.fst
    fun (i : Nat) => AV.sc (Value.int IntKind.i64 (r.snd.snd.snd.snd.snd.snd.snd.snd.snd i)))
    AV.nil))),
    AV.sc (Value.string text), AV.sc (Value.int IntKind.i64 at_)]
    []
    (AV.cons (1 : Nat)
    (AV.cons (1 : Nat) (AV.sc (Value.int IntKind.i64 r_1.fst))
    (AV.cons (1 : Nat) (AV.sc (Value.int IntKind.i64 r_1.snd.fst))
    (AV.cons (1 : Nat) (AV.sc (Value.int IntKind.i64 r_1.snd.snd.fst)) AV.nil)))
    (AV.cons (1 : Nat) (AV.sc (Value.int IntKind.i64 r_1.snd.snd.snd)) AV.nil)).tup
    []) ∧
    True ∧
    True ∧
    True ∧
    True ∧
    ((0 : Nat) = (0 : Nat) ∧ True) ∧
    True ∧
    ((0 : Nat) = (0 : Nat) ∧ True) ∧
    True ∧
    True ∧
    ∃ (r_2 : Int × Int × Int × Int),
    (((True ∧ True ∧ True ∧ True ∧ True) ∧ True ∧ True ∧ True) ∧
    True ∧
    Ok Proofs.Try.prog (18 : Nat)
    [AV.cons (1 : Nat) (AV.sc (Value.int IntKind.i64 da))
    (AV.cons (256 : Nat)
    (AV.ar (256 : Nat) (1 : Nat) fun (i : Nat) =>
    AV.sc (Value.int IntKind.u8 (dbaf i)))
    (AV.cons (1 : Nat)
    (AV.vec true (1 : Nat) dbban dbban fun (i : Nat) =>
    AV.vec true (1 : Nat) (dbbafn i) (dbbafn i) fun (i_1 : Nat) =>
    AV.sc (Value.int IntKind.i64 (dbbaff i i_1)))
    (AV.cons (1 : Nat)
    (AV.vec true (1 : Nat) dbbban dbbban fun (i : Nat) =>
    AV.sc (Value.int IntKind.i64 (dbbbaf i)))
    AV.nil))),
    AV.sc (Value.string text), AV.sc (Value.int IntKind.i64 at_)]
    []
    (AV.cons (1 : Nat)
    (AV.cons (1 : Nat) (AV.sc (Value.int IntKind.i64 r_2.fst))
    (AV.cons (1 : Nat) (AV.sc (Value.int IntKind.i64 r_2.snd.fst))
    (AV.cons (1 : Nat) (AV.sc (Value.int IntKind.i64 r_2.snd.snd.fst))
    AV.nil)))
    (AV.cons (1 : Nat) (AV.sc (Value.int IntKind.i64 r_2.snd.snd.snd))
    AV.nil)).tup
    []) ∧
    True ∧
    True ∧
    True ∧
    True ∧
    ((0 : Nat) = (0 : Nat) ∧ True) ∧
    True ∧
    ((0 : Nat) = (0 : Nat) ∧ True) ∧
    ((0 : Nat) = (0 : Nat) ∧ True) ∧
    ((True ∧ True) ∧
    True ∧ (True ∧ True) ∧ True ∧ (True ∧ True) ∧ True ∧ True) ∧
    True ∧
    (cdec
    (r_1.fst = r_2.fst ∧
    r_1.snd.fst = r_2.snd.fst ∧
    r_1.snd.snd.fst = r_2.snd.snd.fst ∧ True) =
    true →
    True ∧
    true = true ∧
    True ∧
    true = true ∧
    True ∧
    True ∧
    True ∧
    ((r_1.snd.snd.snd == r_2.snd.snd.snd) = true →
    ((0 : Nat) = (0 : Nat) ∧ True) ∧
    true = true ∧
    ((0 : Nat) = (0 : Nat) ∧ True) ∧
    true = true ∧
    ∃ (r_3 : Bool),
    (((True ∧
    True ∧ True ∧ True ∧ True) ∧
    (True ∧
    True ∧
    True ∧ True ∧ True) ∧
    True) ∧
    True ∧
    Ok Proofs.Try.prog (19 : Nat)
    [AV.cons (1 : Nat)
    (AV.sc
    (Value.int IntKind.i64
    r.fst))
    (AV.cons (256 : Nat)
    (AV.ar (256 : Nat)
    (1 : Nat)
    fun (i : Nat) =>
    AV.sc
    (Value.int
    IntKind.u8
    (r.snd.fst i)))
    (AV.cons (1 : Nat)
    (AV.vec true
    (1 : Nat)
    r.snd.snd.fst
    r.snd.snd.snd.fst
    fun (i : Nat) =>
    AV.vec true
    (1 : Nat)
    (r.snd.snd.snd.snd.fst
    i)
    (r.snd.snd.snd.snd.snd.fst
    i)
    fun
    (i_1 : Nat) =>
    AV.sc
    (Value.int
    IntKind.i64
    (r.snd.snd.snd.snd.snd.snd.fst
    i i_1)))
    (AV.cons (1 : Nat)
    (AV.vec true
    (1 : Nat)
    r.snd.snd.snd.snd.snd.snd.snd.fst
    r.snd.snd.snd.snd.snd.snd.snd.snd.fst
    fun (i : Nat) =>
    AV.sc
    (Value.int
    IntKind.i64
    (r.snd.snd.snd.snd.snd.snd.snd.snd.snd
    i)))
    AV.nil))),
    AV.cons (1 : Nat)
    (AV.sc
    (Value.int IntKind.i64
    da))
    (AV.cons (256 : Nat)
    (AV.ar (256 : Nat)
    (1 : Nat)
    fun (i : Nat) =>
    AV.sc
    (Value.int
    IntKind.u8
    (dbaf i)))
    (AV.cons (1 : Nat)
    (AV.vec true
    (1 : Nat) dbban
    dbban
    fun (i : Nat) =>
    AV.vec true
    (1 : Nat)
    (dbbafn i)
    (dbbafn i)
    fun
    (i_1 : Nat) =>
    AV.sc
    (Value.int
    IntKind.i64
    (dbbaff i
    i_1)))
    (AV.cons (1 : Nat)
    (AV.vec true
    (1 : Nat) dbbban
    dbbban
    fun (i : Nat) =>
    AV.sc
    (Value.int
    IntKind.i64
    (dbbbaf i)))
    AV.nil)))]
    [] (AV.sc (Value.bool r_3))
    []) ∧
    True ∧
    True ∧
    (r_3 = true →
    ∃ (r : Bool),
    (True ∧
    True ∧
    Ok Proofs.Try.prog
    (20 : Nat) [] []
    (AV.sc
    (Value.bool
    r))
    []) ∧
    True ∧
    True ∧
    True ∧
    ((True ∧
    Sub
    (AV.sc
    (Value.bool
    r))
    (AV.sc
    (Value.bool
    r)) ∧
    True) ∧
    True) ∧
    Sub
    (AV.sc
    (Value.bool
    r))
    res ∧
    SubOut []
    []) ∧
    (r_3 = !true →
    true = true ∧
    True ∧
    True ∧
    True ∧
    ((True ∧
    Sub
    (AV.sc
    (Value.bool
    false))
    (AV.sc
    (Value.bool
    false)) ∧
    True) ∧
    True) ∧
    Sub
    (AV.sc
    (Value.bool
    false))
    res ∧
    SubOut []
    [])) ∧
    ((r_1.snd.snd.snd == r_2.snd.snd.snd) = !true →
    true = true ∧
    (!true) = !true ∧
    true = true ∧
    (!true) = !true ∧
    true = true ∧
    True ∧
    True ∧
    false = !true ∧
    true = true ∧
    True ∧
    True ∧
    True ∧
    ((True ∧
    Sub
    (AV.sc
    (Value.bool
    false))
    (AV.sc
    (Value.bool
    false)) ∧
    True) ∧
    True) ∧
    Sub
    (AV.sc
    (Value.bool
    false))
    res ∧
    SubOut [] [])) ∧
    (cdec
    (r_1.fst = r_2.fst ∧
    r_1.snd.fst = r_2.snd.fst ∧
    r_1.snd.snd.fst = r_2.snd.snd.fst ∧ True) =
    !true →
    true = true ∧
    (!true) = !true ∧
    true = true ∧
    (!true) = !true ∧
    true = true ∧
    True ∧
    True ∧
    false = !true ∧
    true = true ∧
    (!true) = !true ∧
    true = true ∧
    (!true) = !true ∧
    true = true ∧
    True ∧
    True ∧
    false = !true ∧
    true = true ∧
    True ∧
    True ∧
    True ∧
    ((True ∧
    Sub
    (AV.sc
    (Value.bool
    false))
    (AV.sc
    (Value.bool
    false)) ∧
    True) ∧
    True) ∧
    Sub
    (AV.sc
    (Value.bool
    false))
    res ∧
    SubOut [] []))) ∧
    (decide ((↑text.size : Int) > (300 : Int)) = !false →
    true = true ∧
    (!false) = !false ∧
    true = true ∧
    True ∧
    true = true ∧
    True ∧
    True ∧
    ((True ∧ Sub (AV.sc (Value.bool true)) (AV.sc (Value.bool true)) ∧ True) ∧ True) ∧
    Sub (AV.sc (Value.bool true)) res ∧ SubOut [] []) from
    ⟨trivial, ⟨trivial, ⟨trivial, ⟨trivial, ⟨trivial, ⟨trivial, (And.elim (fun h6 k6 => ⟨(fun x7 => (fun h7 => ⟨⟨rfl, trivial⟩, ⟨rfl, (Exists.elim h7 fun x10 h10 => ⟨x10, (And.elim (fun h11 k11 => ⟨⟨⟨⟨trivial, ⟨trivial, ⟨trivial, ⟨trivial, trivial⟩⟩⟩⟩, ⟨trivial, trivial⟩⟩, ⟨trivial, h11⟩⟩, ⟨trivial, (And.elim (fun h13 k13 => ⟨(fun x14 => (fun h14 => ⟨trivial, ⟨trivial, ⟨⟨⟨trivial, ⟨Sub.refl _, trivial⟩⟩, trivial⟩, ((fun h18 => ⟨h18, trivial⟩) h14)⟩⟩⟩) (h13 x14)), (fun x14 => (fun h14 => ⟨⟨rfl, trivial⟩, (Exists.elim h14 fun x16 h16 => ⟨x16, (And.elim (fun h17 k17 => ⟨⟨⟨⟨trivial, ⟨trivial, ⟨trivial, ⟨trivial, trivial⟩⟩⟩⟩, trivial⟩, ⟨trivial, h17⟩⟩, ⟨trivial, ⟨⟨rfl, trivial⟩, ⟨⟨rfl, trivial⟩, ⟨trivial, ⟨trivial, (Exists.elim k17 fun x23 h23 => ⟨x23, (And.elim (fun h24 k24 => ⟨⟨⟨⟨trivial, ⟨trivial, ⟨trivial, ⟨trivial, trivial⟩⟩⟩⟩, ⟨trivial, ⟨trivial, trivial⟩⟩⟩, ⟨trivial, h24⟩⟩, ⟨trivial, ⟨trivial, ⟨trivial, ⟨trivial, ⟨⟨rfl, trivial⟩, ⟨trivial, ⟨⟨rfl, trivial⟩, ⟨trivial, ⟨trivial, (Exists.elim k24 fun x34 h34 => ⟨x34, (And.elim (fun h35 k35 => ⟨⟨⟨⟨trivial, ⟨trivial, ⟨trivial, ⟨trivial, trivial⟩⟩⟩⟩, ⟨trivial, ⟨trivial, trivial⟩⟩⟩, ⟨trivial, h35⟩⟩, ⟨trivial, ⟨trivial, ⟨trivial, ⟨trivial, ⟨⟨rfl, trivial⟩, ⟨trivial, ⟨⟨rfl, trivial⟩, ⟨⟨rfl, trivial⟩, ⟨⟨⟨trivial, trivial⟩, ⟨trivial, ⟨⟨trivial, trivial⟩, ⟨trivial, ⟨⟨trivial, trivial⟩, ⟨trivial, trivial⟩⟩⟩⟩⟩⟩, ⟨trivial, (And.elim (fun h46 k46 => ⟨(fun x47 => (fun h47 => ⟨trivial, ⟨rfl, ⟨trivial, ⟨rfl, ⟨trivial, ⟨trivial, ⟨trivial, (And.elim (fun h55 k55 => ⟨(fun x56 => (fun h56 => ⟨⟨rfl, trivial⟩, ⟨rfl, ⟨⟨rfl, trivial⟩, ⟨rfl, (Exists.elim h56 fun x61 h61 => ⟨x61, (And.elim (fun h62 k62 => ⟨⟨⟨⟨trivial, ⟨trivial, ⟨trivial, ⟨trivial, trivial⟩⟩⟩⟩, ⟨⟨trivial, ⟨trivial, ⟨trivial, ⟨trivial, trivial⟩⟩⟩⟩, trivial⟩⟩, ⟨trivial, h62⟩⟩, ⟨trivial, ⟨trivial, (And.elim (fun h65 k65 => ⟨(fun x66 => (fun h66 => (Exists.elim h66 fun x67 h67 => ⟨x67, (And.elim (fun h68 k68 => ⟨⟨trivial, ⟨trivial, h68⟩⟩, ⟨trivial, ⟨trivial, ⟨trivial, ⟨⟨⟨trivial, ⟨Sub.refl _, trivial⟩⟩, trivial⟩, ((fun h73 => ⟨h73, trivial⟩) k68)⟩⟩⟩⟩⟩) h67)⟩)) (h65 x66)), (fun x66 => (fun h66 => ⟨rfl, ⟨trivial, ⟨trivial, ⟨trivial, ⟨⟨⟨trivial, ⟨Sub.refl _, trivial⟩⟩, trivial⟩, ((fun h72 => ⟨h72, trivial⟩) h66)⟩⟩⟩⟩⟩) (k65 x66))⟩) k62)⟩⟩⟩) h61)⟩)⟩⟩⟩⟩) (h55 x56)), (fun x56 => (fun h56 => ⟨rfl, ⟨rfl, ⟨rfl, ⟨rfl, ⟨rfl, ⟨trivial, ⟨trivial, ⟨rfl, ⟨rfl, ⟨trivial, ⟨trivial, ⟨trivial, ⟨⟨⟨trivial, ⟨Sub.refl _, trivial⟩⟩, trivial⟩, ((fun h70 => ⟨h70, trivial⟩) h56)⟩⟩⟩⟩⟩⟩⟩⟩⟩⟩⟩⟩⟩) (k55 x56))⟩) h47)⟩⟩⟩⟩⟩⟩⟩) (h46 x47)), (fun x47 => (fun h47 => ⟨rfl, ⟨rfl, ⟨rfl, ⟨rfl, ⟨rfl, ⟨trivial, ⟨trivial, ⟨rfl, ⟨rfl, ⟨rfl, ⟨rfl, ⟨rfl, ⟨rfl, ⟨trivial, ⟨trivial, ⟨rfl, ⟨rfl, ⟨trivial, ⟨trivial, ⟨trivial, ⟨⟨⟨trivial, ⟨Sub.refl _, trivial⟩⟩, trivial⟩, ((fun h69 => ⟨h69, trivial⟩) h47)⟩⟩⟩⟩⟩⟩⟩⟩⟩⟩⟩⟩⟩⟩⟩⟩⟩⟩⟩⟩⟩) (k46 x47))⟩) k35)⟩⟩⟩⟩⟩⟩⟩⟩⟩⟩⟩) h34)⟩)⟩⟩⟩⟩⟩⟩⟩⟩⟩⟩) h23)⟩)⟩⟩⟩⟩⟩⟩) h16)⟩)⟩) (k13 x14))⟩) k11)⟩⟩) h10)⟩)⟩⟩) (h6 x7)), (fun x7 => (fun h7 => ⟨rfl, ⟨rfl, ⟨rfl, ⟨trivial, ⟨rfl, ⟨trivial, ⟨trivial, ⟨⟨⟨trivial, ⟨Sub.refl _, trivial⟩⟩, trivial⟩, ((fun h16 => ⟨h16, trivial⟩) h7)⟩⟩⟩⟩⟩⟩⟩⟩) (k6 x7))⟩) h)⟩⟩⟩⟩⟩⟩)
theorem hf6 : Go.Proofs.Try.prog.funcs[6]? = some Go.Proofs.Try.f6 := by kernel_rfl
abbrev s6_e (rulesn : Nat) (rulesfa : Nat → Int) (rulesfbaa : Nat → Int) (rulesfbabaf : Nat → Nat → Int) (da : Int) (dbaf : Nat → Int) (dbban : Nat) (dbbafn : Nat → Nat) (dbbaff : Nat → Nat → Int) (dbbban : Nat) (dbbbaf : Nat → Int) (text : ByteArray) : List (Nat × AV) := [(0, (.vec true 7 rulesn rulesn (fun i0 => (.cons 1 (.sc (.int .i64 (rulesfa i0))) (.cons 6 (.cons 1 (.sc (.int .i64 (rulesfbaa i0))) (.cons 4 (.ar 4 1 (fun i1 => (.sc (.int .u64 (rulesfbabaf i0 i1))))) (.cons 1 .undef .nil))) .nil))))), (1, (.cons 1 (.sc (.int .i64 da)) (.cons 256 (.ar 256 1 (fun i0 => (.sc (.int .u8 (dbaf i0))))) (.cons 1 (.vec true 1 dbban dbban (fun i0 => (.vec true 1 (dbbafn i0) (dbbafn i0) (fun i1 => (.sc (.int .i64 (dbbaff i0 i1))))))) (.cons 1 (.vec true 1 dbbban dbbban (fun i0 => (.sc (.int .i64 (dbbbaf i0))))) .nil))))), (2, (.sc (.string text)))]
abbrev m6_e (rulesn : Nat) (rulesfa : Nat → Int) (rulesfbaa : Nat → Int) (rulesfbabaf : Nat → Nat → Int) (da : Int) (dbaf : Nat → Int) (dbban : Nat) (dbbafn : Nat → Nat) (dbbaff : Nat → Nat → Int) (dbbban : Nat) (dbbbaf : Nat → Int) (text : ByteArray) : List (Nat × Nat × AV) := []
def L6_e (rulesn : Nat) (rulesfa : Nat → Int) (rulesfbaa : Nat → Int) (rulesfbabaf : Nat → Nat → Int) (da : Int) (dbaf : Nat → Int) (dbban : Nat) (dbbafn : Nat → Nat) (dbbaff : Nat → Nat → Int) (dbbban : Nat) (dbbbaf : Nat → Int) (text : ByteArray) (res : AV) : Prop := Goes ⟨Go.Proofs.Try.prog, 6, [], res, []⟩ (place Go.Proofs.Try.f6 []) (s6_e rulesn rulesfa rulesfbaa rulesfbabaf da dbaf dbban dbbafn dbbaff dbbban dbbbaf text) (m6_e rulesn rulesfa rulesfbaa rulesfbabaf da dbaf dbban dbbafn dbbaff dbbban dbbbaf text)
theorem a6_e (rulesn : Nat) (rulesfa : Nat → Int) (rulesfbaa : Nat → Int) (rulesfbabaf : Nat → Nat → Int) (da : Int) (dbaf : Nat → Int) (dbban : Nat) (dbbafn : Nat → Nat) (dbbaff : Nat → Nat → Int) (dbbban : Nat) (dbbbaf : Nat → Int) (text : ByteArray) (res : AV) (h : (∀ slot, fact (look .undef (s6_e rulesn rulesfa rulesfbaa rulesfbabaf da dbaf dbban dbbafn dbbaff dbbban dbbbaf text) slot)) → L6_e rulesn rulesfa rulesfbaa rulesfbabaf da dbaf dbban dbbafn dbbaff dbbban dbbbaf text res) : L6_e rulesn rulesfa rulesfbaa rulesfbabaf da dbaf dbban dbbafn dbbaff dbbban dbbbaf text res :=
  assumeRule 6 [] Go.Proofs.Try.f6 hf6 [] (s6_e rulesn rulesfa rulesfbaa rulesfbabaf da dbaf dbban dbbafn dbbaff dbbban dbbbaf text) (m6_e rulesn rulesfa rulesfbaa rulesfbabaf da dbaf dbban dbbafn dbbaff dbbban dbbbaf text) res [] _ (by kernel_rfl) h
abbrev s6_0 (rulesn : Nat) (rulesfa : Nat → Int) (rulesfbaa : Nat → Int) (rulesfbabaf : Nat → Nat → Int) (text : ByteArray) (ln : Nat) (lfa : Nat → Int) (lfba : Nat → Int) (lfbba : Nat → Int) (at_ : Int) (i : Int) (b0a : Int) (b0baf : Nat → Int) (b0bban : Nat) (b0bbafn : Nat → Nat) (b0bbaff : Nat → Nat → Int) (b0bbban : Nat) (b0bbbaf : Nat → Int) : List (Nat × AV) := [(0, (.vec true 7 rulesn rulesn (fun i0 => (.cons 1 (.sc (.int .i64 (rulesfa i0))) (.cons 6 (.cons 1 (.sc (.int .i64 (rulesfbaa i0))) (.cons 4 (.ar 4 1 (fun i1 => (.sc (.int .u64 (rulesfbabaf i0 i1))))) (.cons 1 .undef .nil))) .nil))))), (2, (.sc (.string text))), (4, (.pt 1000 [] 0)), (7, (.vec false 3 ln ln (fun i0 => (.cons 1 (.sc (.int .i64 (lfa i0))) (.cons 1 (.sc (.int .i64 (lfba i0))) (.cons 1 (.sc (.int .i64 (lfbba i0))) .nil)))))), (9, (.sc (.int .i64 at_))), (10, (.sc (.int .i64 i)))]
abbrev m6_0 (rulesn : Nat) (rulesfa : Nat → Int) (rulesfbaa : Nat → Int) (rulesfbabaf : Nat → Nat → Int) (text : ByteArray) (ln : Nat) (lfa : Nat → Int) (lfba : Nat → Int) (lfbba : Nat → Int) (at_ : Int) (i : Int) (b0a : Int) (b0baf : Nat → Int) (b0bban : Nat) (b0bbafn : Nat → Nat) (b0bbaff : Nat → Nat → Int) (b0bbban : Nat) (b0bbbaf : Nat → Int) : List (Nat × Nat × AV) := [(1000, 26, (.cons 1 (.sc (.int .i64 b0a)) (.cons 256 (.ar 256 1 (fun i0 => (.sc (.int .u8 (b0baf i0))))) (.cons 1 (.vec true 1 b0bban b0bban (fun i0 => (.vec true 1 (b0bbafn i0) (b0bbafn i0) (fun i1 => (.sc (.int .i64 (b0bbaff i0 i1))))))) (.cons 1 (.vec true 1 b0bbban b0bbban (fun i0 => (.sc (.int .i64 (b0bbbaf i0))))) .nil)))))]
def L6_0 (rulesn : Nat) (rulesfa : Nat → Int) (rulesfbaa : Nat → Int) (rulesfbabaf : Nat → Nat → Int) (text : ByteArray) (ln : Nat) (lfa : Nat → Int) (lfba : Nat → Int) (lfbba : Nat → Int) (at_ : Int) (i : Int) (b0a : Int) (b0baf : Nat → Int) (b0bban : Nat) (b0bbafn : Nat → Nat) (b0bbaff : Nat → Nat → Int) (b0bbban : Nat) (b0bbbaf : Nat → Int) (res : AV) : Prop := Goes ⟨Go.Proofs.Try.prog, 6, [], res, []⟩ (place Go.Proofs.Try.f6 [1, 1, 1, 1, 1, 0, 1, 0, 0]) (s6_0 rulesn rulesfa rulesfbaa rulesfbabaf text ln lfa lfba lfbba at_ i b0a b0baf b0bban b0bbafn b0bbaff b0bbban b0bbbaf) (m6_0 rulesn rulesfa rulesfbaa rulesfbabaf text ln lfa lfba lfbba at_ i b0a b0baf b0bban b0bbafn b0bbaff b0bbban b0bbbaf)
theorem a6_0 (rulesn : Nat) (rulesfa : Nat → Int) (rulesfbaa : Nat → Int) (rulesfbabaf : Nat → Nat → Int) (text : ByteArray) (ln : Nat) (lfa : Nat → Int) (lfba : Nat → Int) (lfbba : Nat → Int) (at_ : Int) (i : Int) (b0a : Int) (b0baf : Nat → Int) (b0bban : Nat) (b0bbafn : Nat → Nat) (b0bbaff : Nat → Nat → Int) (b0bbban : Nat) (b0bbbaf : Nat → Int) (res : AV) (h : (∀ slot, fact (look .undef (s6_0 rulesn rulesfa rulesfbaa rulesfbabaf text ln lfa lfba lfbba at_ i b0a b0baf b0bban b0bbafn b0bbaff b0bbban b0bbbaf) slot)) → L6_0 rulesn rulesfa rulesfbaa rulesfbabaf text ln lfa lfba lfbba at_ i b0a b0baf b0bban b0bbafn b0bbaff b0bbban b0bbbaf res) : L6_0 rulesn rulesfa rulesfbaa rulesfbabaf text ln lfa lfba lfbba at_ i b0a b0baf b0bban b0bbafn b0bbaff b0bbban b0bbbaf res :=
  assumeRule 6 [] Go.Proofs.Try.f6 hf6 [1, 1, 1, 1, 1, 0, 1, 0, 0] (s6_0 rulesn rulesfa rulesfbaa rulesfbabaf text ln lfa lfba lfbba at_ i b0a b0baf b0bban b0bbafn b0bbaff b0bbban b0bbbaf) (m6_0 rulesn rulesfa rulesfbaa rulesfbabaf text ln lfa lfba lfbba at_ i b0a b0baf b0bban b0bbafn b0bbaff b0bbban b0bbbaf) res [] _ (by kernel_rfl) h
abbrev s6_1 (rulesn : Nat) (rulesfa : Nat → Int) (rulesfbaa : Nat → Int) (rulesfbabaf : Nat → Nat → Int) (text : ByteArray) (ln : Nat) (lfa : Nat → Int) (lfba : Nat → Int) (lfbba : Nat → Int) (at_ : Int) (i : Int) (b0a : Int) (b0baf : Nat → Int) (b0bban : Nat) (b0bbafn : Nat → Nat) (b0bbaff : Nat → Nat → Int) (b0bbban : Nat) (b0bbbaf : Nat → Int) (b1a : Int) (b1ba : Int) (b1bba : Int) : List (Nat × AV) := [(0, (.vec true 7 rulesn rulesn (fun i0 => (.cons 1 (.sc (.int .i64 (rulesfa i0))) (.cons 6 (.cons 1 (.sc (.int .i64 (rulesfbaa i0))) (.cons 4 (.ar 4 1 (fun i1 => (.sc (.int .u64 (rulesfbabaf i0 i1))))) (.cons 1 .undef .nil))) .nil))))), (2, (.sc (.string text))), (4, (.pt 1000 [] 0)), (7, (.vec false 3 ln ln (fun i0 => (.cons 1 (.sc (.int .i64 (lfa i0))) (.cons 1 (.sc (.int .i64 (lfba i0))) (.cons 1 (.sc (.int .i64 (lfbba i0))) .nil)))))), (9, (.sc (.int .i64 at_))), (10, (.sc (.int .i64 i))), (11, (.pt 1001 [] 0))]
abbrev m6_1 (rulesn : Nat) (rulesfa : Nat → Int) (rulesfbaa : Nat → Int) (rulesfbabaf : Nat → Nat → Int) (text : ByteArray) (ln : Nat) (lfa : Nat → Int) (lfba : Nat → Int) (lfbba : Nat → Int) (at_ : Int) (i : Int) (b0a : Int) (b0baf : Nat → Int) (b0bban : Nat) (b0bbafn : Nat → Nat) (b0bbaff : Nat → Nat → Int) (b0bbban : Nat) (b0bbbaf : Nat → Int) (b1a : Int) (b1ba : Int) (b1bba : Int) : List (Nat × Nat × AV) := [(1000, 26, (.cons 1 (.sc (.int .i64 b0a)) (.cons 256 (.ar 256 1 (fun i0 => (.sc (.int .u8 (b0baf i0))))) (.cons 1 (.vec true 1 b0bban b0bban (fun i0 => (.vec true 1 (b0bbafn i0) (b0bbafn i0) (fun i1 => (.sc (.int .i64 (b0bbaff i0 i1))))))) (.cons 1 (.vec true 1 b0bbban b0bbban (fun i0 => (.sc (.int .i64 (b0bbbaf i0))))) .nil))))), (1001, 45, (.cons 1 (.sc (.int .i64 b1a)) (.cons 1 (.sc (.int .i64 b1ba)) (.cons 1 (.sc (.int .i64 b1bba)) .nil))))]
def L6_1 (rulesn : Nat) (rulesfa : Nat → Int) (rulesfbaa : Nat → Int) (rulesfbabaf : Nat → Nat → Int) (text : ByteArray) (ln : Nat) (lfa : Nat → Int) (lfba : Nat → Int) (lfbba : Nat → Int) (at_ : Int) (i : Int) (b0a : Int) (b0baf : Nat → Int) (b0bban : Nat) (b0bbafn : Nat → Nat) (b0bbaff : Nat → Nat → Int) (b0bbban : Nat) (b0bbbaf : Nat → Int) (b1a : Int) (b1ba : Int) (b1bba : Int) (res : AV) : Prop := Goes ⟨Go.Proofs.Try.prog, 6, [], res, []⟩ (place Go.Proofs.Try.f6 [1, 1, 1, 1, 1, 0, 1, 0, 0, 1, 0, 0, 1, 1, 1, 1]) (s6_1 rulesn rulesfa rulesfbaa rulesfbabaf text ln lfa lfba lfbba at_ i b0a b0baf b0bban b0bbafn b0bbaff b0bbban b0bbbaf b1a b1ba b1bba) (m6_1 rulesn rulesfa rulesfbaa rulesfbabaf text ln lfa lfba lfbba at_ i b0a b0baf b0bban b0bbafn b0bbaff b0bbban b0bbbaf b1a b1ba b1bba)
theorem a6_1 (rulesn : Nat) (rulesfa : Nat → Int) (rulesfbaa : Nat → Int) (rulesfbabaf : Nat → Nat → Int) (text : ByteArray) (ln : Nat) (lfa : Nat → Int) (lfba : Nat → Int) (lfbba : Nat → Int) (at_ : Int) (i : Int) (b0a : Int) (b0baf : Nat → Int) (b0bban : Nat) (b0bbafn : Nat → Nat) (b0bbaff : Nat → Nat → Int) (b0bbban : Nat) (b0bbbaf : Nat → Int) (b1a : Int) (b1ba : Int) (b1bba : Int) (res : AV) (h : (∀ slot, fact (look .undef (s6_1 rulesn rulesfa rulesfbaa rulesfbabaf text ln lfa lfba lfbba at_ i b0a b0baf b0bban b0bbafn b0bbaff b0bbban b0bbbaf b1a b1ba b1bba) slot)) → L6_1 rulesn rulesfa rulesfbaa rulesfbabaf text ln lfa lfba lfbba at_ i b0a b0baf b0bban b0bbafn b0bbaff b0bbban b0bbbaf b1a b1ba b1bba res) : L6_1 rulesn rulesfa rulesfbaa rulesfbabaf text ln lfa lfba lfbba at_ i b0a b0baf b0bban b0bbafn b0bbaff b0bbban b0bbbaf b1a b1ba b1bba res :=
  assumeRule 6 [] Go.Proofs.Try.f6 hf6 [1, 1, 1, 1, 1, 0, 1, 0, 0, 1, 0, 0, 1, 1, 1, 1] (s6_1 rulesn rulesfa rulesfbaa rulesfbabaf text ln lfa lfba lfbba at_ i b0a b0baf b0bban b0bbafn b0bbaff b0bbban b0bbbaf b1a b1ba b1bba) (m6_1 rulesn rulesfa rulesfbaa rulesfbabaf text ln lfa lfba lfbba at_ i b0a b0baf b0bban b0bbafn b0bbaff b0bbban b0bbbaf b1a b1ba b1bba) res [] _ (by kernel_rfl) h
abbrev s6_2 (rulesn : Nat) (rulesfa : Nat → Int) (rulesfbaa : Nat → Int) (rulesfbabaf : Nat → Nat → Int) (text : ByteArray) (ln : Nat) (lfa : Nat → Int) (lfba : Nat → Int) (lfbba : Nat → Int) (at_ : Int) (i : Int) (b0a : Int) (b0baf : Nat → Int) (b0bban : Nat) (b0bbafn : Nat → Nat) (b0bbaff : Nat → Nat → Int) (b0bbban : Nat) (b0bbbaf : Nat → Int) : List (Nat × AV) := [(0, (.vec true 7 rulesn rulesn (fun i0 => (.cons 1 (.sc (.int .i64 (rulesfa i0))) (.cons 6 (.cons 1 (.sc (.int .i64 (rulesfbaa i0))) (.cons 4 (.ar 4 1 (fun i1 => (.sc (.int .u64 (rulesfbabaf i0 i1))))) (.cons 1 .undef .nil))) .nil))))), (2, (.sc (.string text))), (4, (.pt 1000 [] 0)), (7, (.vec false 3 ln ln (fun i0 => (.cons 1 (.sc (.int .i64 (lfa i0))) (.cons 1 (.sc (.int .i64 (lfba i0))) (.cons 1 (.sc (.int .i64 (lfbba i0))) .nil)))))), (9, (.sc (.int .i64 at_))), (10, (.sc (.int .i64 i)))]
abbrev m6_2 (rulesn : Nat) (rulesfa : Nat → Int) (rulesfbaa : Nat → Int) (rulesfbabaf : Nat → Nat → Int) (text : ByteArray) (ln : Nat) (lfa : Nat → Int) (lfba : Nat → Int) (lfbba : Nat → Int) (at_ : Int) (i : Int) (b0a : Int) (b0baf : Nat → Int) (b0bban : Nat) (b0bbafn : Nat → Nat) (b0bbaff : Nat → Nat → Int) (b0bbban : Nat) (b0bbbaf : Nat → Int) : List (Nat × Nat × AV) := [(1000, 26, (.cons 1 (.sc (.int .i64 b0a)) (.cons 256 (.ar 256 1 (fun i0 => (.sc (.int .u8 (b0baf i0))))) (.cons 1 (.vec true 1 b0bban b0bban (fun i0 => (.vec true 1 (b0bbafn i0) (b0bbafn i0) (fun i1 => (.sc (.int .i64 (b0bbaff i0 i1))))))) (.cons 1 (.vec true 1 b0bbban b0bbban (fun i0 => (.sc (.int .i64 (b0bbbaf i0))))) .nil)))))]
def L6_2 (rulesn : Nat) (rulesfa : Nat → Int) (rulesfbaa : Nat → Int) (rulesfbabaf : Nat → Nat → Int) (text : ByteArray) (ln : Nat) (lfa : Nat → Int) (lfba : Nat → Int) (lfbba : Nat → Int) (at_ : Int) (i : Int) (b0a : Int) (b0baf : Nat → Int) (b0bban : Nat) (b0bbafn : Nat → Nat) (b0bbaff : Nat → Nat → Int) (b0bbban : Nat) (b0bbbaf : Nat → Int) (res : AV) : Prop := Goes ⟨Go.Proofs.Try.prog, 6, [], res, []⟩ (place Go.Proofs.Try.f6 [1, 1, 1, 1, 1, 0, 1, 0, 0, 1, 1]) (s6_2 rulesn rulesfa rulesfbaa rulesfbabaf text ln lfa lfba lfbba at_ i b0a b0baf b0bban b0bbafn b0bbaff b0bbban b0bbbaf) (m6_2 rulesn rulesfa rulesfbaa rulesfbabaf text ln lfa lfba lfbba at_ i b0a b0baf b0bban b0bbafn b0bbaff b0bbban b0bbbaf)
theorem a6_2 (rulesn : Nat) (rulesfa : Nat → Int) (rulesfbaa : Nat → Int) (rulesfbabaf : Nat → Nat → Int) (text : ByteArray) (ln : Nat) (lfa : Nat → Int) (lfba : Nat → Int) (lfbba : Nat → Int) (at_ : Int) (i : Int) (b0a : Int) (b0baf : Nat → Int) (b0bban : Nat) (b0bbafn : Nat → Nat) (b0bbaff : Nat → Nat → Int) (b0bbban : Nat) (b0bbbaf : Nat → Int) (res : AV) (h : (∀ slot, fact (look .undef (s6_2 rulesn rulesfa rulesfbaa rulesfbabaf text ln lfa lfba lfbba at_ i b0a b0baf b0bban b0bbafn b0bbaff b0bbban b0bbbaf) slot)) → L6_2 rulesn rulesfa rulesfbaa rulesfbabaf text ln lfa lfba lfbba at_ i b0a b0baf b0bban b0bbafn b0bbaff b0bbban b0bbbaf res) : L6_2 rulesn rulesfa rulesfbaa rulesfbabaf text ln lfa lfba lfbba at_ i b0a b0baf b0bban b0bbafn b0bbaff b0bbban b0bbbaf res :=
  assumeRule 6 [] Go.Proofs.Try.f6 hf6 [1, 1, 1, 1, 1, 0, 1, 0, 0, 1, 1] (s6_2 rulesn rulesfa rulesfbaa rulesfbabaf text ln lfa lfba lfbba at_ i b0a b0baf b0bban b0bbafn b0bbaff b0bbban b0bbbaf) (m6_2 rulesn rulesfa rulesfbaa rulesfbabaf text ln lfa lfba lfbba at_ i b0a b0baf b0bban b0bbafn b0bbaff b0bbban b0bbbaf) res [] _ (by kernel_rfl) h
theorem o6 (rulesn : Nat) (rulesfa : Nat → Int) (rulesfbaa : Nat → Int) (rulesfbabaf : Nat → Nat → Int) (da : Int) (dbaf : Nat → Int) (dbban : Nat) (dbbafn : Nat → Nat) (dbbaff : Nat → Nat → Int) (dbbban : Nat) (dbbbaf : Nat → Int) (text : ByteArray) (res : AV) (hnew : newOnly res) (h : L6_e rulesn rulesfa rulesfbaa rulesfbabaf da dbaf dbban dbbafn dbbaff dbbban dbbbaf text res) : Ok Go.Proofs.Try.prog 6 [(.vec true 7 rulesn rulesn (fun i0 => (.cons 1 (.sc (.int .i64 (rulesfa i0))) (.cons 6 (.cons 1 (.sc (.int .i64 (rulesfbaa i0))) (.cons 4 (.ar 4 1 (fun i1 => (.sc (.int .u64 (rulesfbabaf i0 i1))))) (.cons 1 .undef .nil))) .nil)))), (.cons 1 (.sc (.int .i64 da)) (.cons 256 (.ar 256 1 (fun i0 => (.sc (.int .u8 (dbaf i0))))) (.cons 1 (.vec true 1 dbban dbban (fun i0 => (.vec true 1 (dbbafn i0) (dbbafn i0) (fun i1 => (.sc (.int .i64 (dbbaff i0 i1))))))) (.cons 1 (.vec true 1 dbbban dbbban (fun i0 => (.sc (.int .i64 (dbbbaf i0))))) .nil)))), (.sc (.string text))] [] res [] :=
  okRule2 6 Go.Proofs.Try.f6 hf6 [(.vec true 7 rulesn rulesn (fun i0 => (.cons 1 (.sc (.int .i64 (rulesfa i0))) (.cons 6 (.cons 1 (.sc (.int .i64 (rulesfbaa i0))) (.cons 4 (.ar 4 1 (fun i1 => (.sc (.int .u64 (rulesfbabaf i0 i1))))) (.cons 1 .undef .nil))) .nil)))), (.cons 1 (.sc (.int .i64 da)) (.cons 256 (.ar 256 1 (fun i0 => (.sc (.int .u8 (dbaf i0))))) (.cons 1 (.vec true 1 dbban dbban (fun i0 => (.vec true 1 (dbbafn i0) (dbbafn i0) (fun i1 => (.sc (.int .i64 (dbbaff i0 i1))))))) (.cons 1 (.vec true 1 dbbban dbbban (fun i0 => (.sc (.int .i64 (dbbbaf i0))))) .nil)))), (.sc (.string text))] [] res [] [] rfl (by kernel_rfl) (by kernel_rfl) (by kernel_rfl) ⟨hnew, by simp⟩ (L6_e rulesn rulesfa rulesfbaa rulesfbabaf da dbaf dbban dbbafn dbbaff dbbban dbbbaf text res) (by kernel_rfl) h
theorem r6_e (rulesn : Nat) (rulesfa : Nat → Int) (rulesfbaa : Nat → Int) (rulesfbabaf : Nat → Nat → Int) (da : Int) (dbaf : Nat → Int) (dbban : Nat) (dbbafn : Nat → Nat) (dbbaff : Nat → Nat → Int) (dbbban : Nat) (dbbbaf : Nat → Int) (text : ByteArray) (res : AV)
    (h : ∃ (r : Bool),
  Ok Proofs.Try.prog (28 : Nat)
    [AV.vec true (7 : Nat) rulesn rulesn fun (i : Nat) =>
    AV.cons (1 : Nat) (AV.sc (Value.int IntKind.i64 (rulesfa i)))
    (AV.cons (6 : Nat)
    (AV.cons (1 : Nat) (AV.sc (Value.int IntKind.i64 (rulesfbaa i)))
    (AV.cons (4 : Nat) (AV.ar (4 : Nat) (1 : Nat) fun (i_1 : Nat) => AV.sc (Value.int IntKind.u64 (rulesfbabaf i i_1)))
    (AV.cons (1 : Nat) AV.undef AV.nil)))
    AV.nil),
    AV.cons (1 : Nat) (AV.sc (Value.int IntKind.i64 da))
    (AV.cons (256 : Nat) (AV.ar (256 : Nat) (1 : Nat) fun (i : Nat) => AV.sc (Value.int IntKind.u8 (dbaf i)))
    (AV.cons (1 : Nat)
    (AV.vec true (1 : Nat) dbban dbban fun (i : Nat) =>
    AV.vec true (1 : Nat) (dbbafn i) (dbbafn i) fun (i_1 : Nat) => AV.sc (Value.int IntKind.i64 (dbbaff i i_1)))
    (AV.cons (1 : Nat) (AV.vec true (1 : Nat) dbbban dbbban fun (i : Nat) => AV.sc (Value.int IntKind.i64 (dbbbaf i))) AV.nil))),
    AV.sc (Value.string text)]
    [] (AV.sc (Value.bool r)) [] ∧
    ((!r) = true → Sub (AV.sc (Value.bool true)) res) ∧
    ((!r) = false →
    ∃ (r : Nat × (Nat → Int) × (Nat → Int) × (Nat → Int) × Int),
    Ok Proofs.Try.prog (23 : Nat)
    [AV.vec true (7 : Nat) rulesn rulesn fun (i : Nat) =>
    AV.cons (1 : Nat) (AV.sc (Value.int IntKind.i64 (rulesfa i)))
    (AV.cons (6 : Nat)
    (AV.cons (1 : Nat) (AV.sc (Value.int IntKind.i64 (rulesfbaa i)))
    (AV.cons (4 : Nat) (AV.ar (4 : Nat) (1 : Nat) fun (i_1 : Nat) => AV.sc (Value.int IntKind.u64 (rulesfbabaf i i_1)))
    (AV.cons (1 : Nat) AV.undef AV.nil)))
    AV.nil),
    AV.cons (1 : Nat) (AV.sc (Value.int IntKind.i64 da))
    (AV.cons (256 : Nat) (AV.ar (256 : Nat) (1 : Nat) fun (i : Nat) => AV.sc (Value.int IntKind.u8 (dbaf i)))
    (AV.cons (1 : Nat)
    (AV.vec true (1 : Nat) dbban dbban fun (i : Nat) =>
    AV.vec true (1 : Nat) (dbbafn i) (dbbafn i) fun (i_1 : Nat) => AV.sc (Value.int IntKind.i64 (dbbaff i i_1)))
    (AV.cons (1 : Nat) (AV.vec true (1 : Nat) dbbban dbbban fun (i : Nat) => AV.sc (Value.int IntKind.i64 (dbbbaf i))) AV.nil))),
    AV.sc (Value.string text)]
    []
    (AV.cons (1 : Nat)
    (AV.vec false (3 : Nat) r.fst r.fst fun (i0 : Nat) =>
    AV.cons (1 : Nat) (AV.sc (Value.int IntKind.i64 (r.snd.fst i0)))
    (AV.cons (1 : Nat) (AV.sc (Value.int IntKind.i64 (r.snd.snd.fst i0)))
    (AV.cons (1 : Nat) (AV.sc (Value.int IntKind.i64 (r.snd.snd.snd.fst i0))) AV.nil)))
    (AV.cons (1 : Nat) (AV.sc (Value.int IntKind.i64 r.snd.snd.snd.snd)) AV.nil)).tup
    [] ∧
    ((r.snd.snd.snd.snd != (0 : Int)) = true →
    (((↑r.fst : Int) == (0 : Int)) = true →
    ∃ (r : Bool), Ok Proofs.Try.prog (27 : Nat) [] [] (AV.sc (Value.bool r)) [] ∧ Sub (AV.sc (Value.bool r)) res) ∧
    (((↑r.fst : Int) == (0 : Int)) = !true → Sub (AV.sc (Value.bool false)) res)) ∧
    ((r.snd.snd.snd.snd != (0 : Int)) = false →
    L6_0 rulesn rulesfa rulesfbaa rulesfbabaf text r.fst r.snd.fst r.snd.snd.fst r.snd.snd.snd.fst (0 : Int) (0 : Int) da dbaf dbban dbbafn dbbaff
    dbbban dbbbaf res))) :
    L6_e rulesn rulesfa rulesfbaa rulesfbabaf da dbaf dbban dbbafn dbbaff dbbban dbbbaf text res :=
  rule Go.Am.Seat.tabOk 6 [] Go.Proofs.Try.f6 hf6 [] (s6_e rulesn rulesfa rulesfbaa rulesfbabaf da dbaf dbban dbbafn dbbaff dbbban dbbbaf text) (m6_e rulesn rulesfa rulesfbaa rulesfbabaf da dbaf dbban dbbafn dbbaff dbbban dbbbaf text) res [] 400
    (Orc.call [] [] (fun (r28 : Bool) => AV.sc (Value.bool r28)) (fun (r28 : Bool) => []) fun (r28 : Bool) =>
  (Orc.fin (AV.sc (Value.bool true)) [] []).br
    (Orc.call [] []
    (fun (r23 : Nat × (Nat → Int) × (Nat → Int) × (Nat → Int) × Int) =>
    (AV.cons (1 : Nat)
    (AV.vec false (3 : Nat) r23.fst r23.fst fun (i0 : Nat) =>
    AV.cons (1 : Nat) (AV.sc (Value.int IntKind.i64 (r23.snd.fst i0)))
    (AV.cons (1 : Nat) (AV.sc (Value.int IntKind.i64 (r23.snd.snd.fst i0)))
    (AV.cons (1 : Nat) (AV.sc (Value.int IntKind.i64 (r23.snd.snd.snd.fst i0))) AV.nil)))
    (AV.cons (1 : Nat) (AV.sc (Value.int IntKind.i64 r23.snd.snd.snd.snd)) AV.nil)).tup)
    (fun (r23 : Nat × (Nat → Int) × (Nat → Int) × (Nat → Int) × Int) => []) fun (r23 : Nat × (Nat → Int) × (Nat → Int) × (Nat → Int) × Int) =>
    ((Orc.call [] [] (fun (r27 : Bool) => AV.sc (Value.bool r27)) (fun (r27 : Bool) => []) fun (r27 : Bool) =>
    Orc.fin (AV.sc (Value.bool (bif true then r27 else false))) [] []).br
    (Orc.fin (AV.sc (Value.bool false)) [] [])).br
    (Orc.cut (nat_lit 8)
    (s6_0 rulesn rulesfa rulesfbaa rulesfbabaf text r23.fst r23.snd.fst r23.snd.snd.fst r23.snd.snd.snd.fst (0 : Int) (0 : Int) da dbaf dbban dbbafn
    dbbaff dbbban dbbbaf)
    (m6_0 rulesn rulesfa rulesfbaa rulesfbabaf text r23.fst r23.snd.fst r23.snd.snd.fst r23.snd.snd.snd.fst (0 : Int) (0 : Int) da dbaf dbban dbbafn
    dbbaff dbbban dbbbaf)
    [((1000 : Nat), some (4 : Nat))]))) _ _ (by kernel_rfl) (by kernel_rfl) (show True ∧
  True ∧
    True ∧
    ((0 : Nat) = (0 : Nat) ∧ True) ∧
    True ∧
    ∃ (r : Bool),
    ((True ∧ (True ∧ True ∧ True ∧ True ∧ True) ∧ True ∧ True) ∧
    True ∧
    Ok Proofs.Try.prog (28 : Nat)
    [AV.vec true (7 : Nat) rulesn rulesn fun (i : Nat) =>
    AV.cons (1 : Nat) (AV.sc (Value.int IntKind.i64 (rulesfa i)))
    (AV.cons (6 : Nat)
    (AV.cons (1 : Nat) (AV.sc (Value.int IntKind.i64 (rulesfbaa i)))
    (AV.cons (4 : Nat) (AV.ar (4 : Nat) (1 : Nat) fun (i_1 : Nat) => AV.sc (Value.int IntKind.u64 (rulesfbabaf i i_1)))
    (AV.cons (1 : Nat) AV.undef AV.nil)))
    AV.nil),
    AV.cons (1 : Nat) (AV.sc (Value.int IntKind.i64 da))
    (AV.cons (256 : Nat) (AV.ar (256 : Nat) (1 : Nat) fun (i : Nat) => AV.sc (Value.int IntKind.u8 (dbaf i)))
    (AV.cons (1 : Nat)
    (AV.vec true (1 : Nat) dbban dbban fun (i : Nat) =>
    AV.vec true (1 : Nat) (dbbafn i) (dbbafn i) fun (i_1 : Nat) => AV.sc (Value.int IntKind.i64 (dbbaff i i_1)))
    (AV.cons (1 : Nat) (AV.vec true (1 : Nat) dbbban dbbban fun (i : Nat) => AV.sc (Value.int IntKind.i64 (dbbbaf i))) AV.nil))),
    AV.sc (Value.string text)]
    [] (AV.sc (Value.bool r)) []) ∧
    True ∧
    ((!r) = true →
    True ∧
    True ∧
    ((True ∧ Sub (AV.sc (Value.bool true)) (AV.sc (Value.bool true)) ∧ True) ∧ True) ∧ Sub (AV.sc (Value.bool true)) res ∧ SubOut [] []) ∧
    ((!r) = false →
    True ∧
    ((0 : Nat) = (0 : Nat) ∧ True) ∧
    True ∧
    ∃ (r : Nat × (Nat → Int) × (Nat → Int) × (Nat → Int) × Int),
    ((True ∧ (True ∧ True ∧ True ∧ True ∧ True) ∧ True ∧ True) ∧
    True ∧
    Ok Proofs.Try.prog (23 : Nat)
    [AV.vec true (7 : Nat) rulesn rulesn fun (i : Nat) =>
    AV.cons (1 : Nat) (AV.sc (Value.int IntKind.i64 (rulesfa i)))
    (AV.cons (6 : Nat)
    (AV.cons (1 : Nat) (AV.sc (Value.int IntKind.i64 (rulesfbaa i)))
    (AV.cons (4 : Nat)
    (AV.ar (4 : Nat) (1 : Nat) fun (i_1 : Nat) => AV.sc (Value.int IntKind.u64 (rulesfbabaf i i_1)))
    (AV.cons (1 : Nat) AV.undef AV.nil)))
    AV.nil),
    AV.cons (1 : Nat) (AV.sc (Value.int IntKind.i64 da))
    (AV.cons (256 : Nat) (AV.ar (256 : Nat) (1 : Nat) fun (i : Nat) => AV.sc (Value.int IntKind.u8 (dbaf i)))
    (AV.cons (1 : Nat)
    (AV.vec true (1 : Nat) dbban dbban fun (i : Nat) =>
    AV.vec true (1 : Nat) (dbbafn i) (dbbafn i) fun (i_1 : Nat) => AV.sc (Value.int IntKind.i64 (dbbaff i i_1)))
    (AV.cons (1 : Nat) (AV.vec true (1 : Nat) dbbban dbbban fun (i : Nat) => AV.sc (Value.int IntKind.i64 (dbbbaf i)))
    AV.nil))),
    AV.sc (Value.string text)]
    []
    (AV.cons (1 : Nat)
    (AV.vec false (3 : Nat) r.fst r.fst fun (i0 : Nat) =>
    AV.cons (1 : Nat) (AV.sc (Value.int IntKind.i64 (r.snd.fst i0)))
    (AV.cons (1 : Nat) (AV.sc (Value.int IntKind.i64 (r.snd.snd.fst i0)))
    (AV.cons (1 : Nat) (AV.sc (Value.int IntKind.i64 (r.snd.snd.snd.fst i0))) AV.nil)))
    (AV.cons (1 : Nat) (AV.sc (Value.int IntKind.i64 r.snd.snd.snd.snd)) AV.nil)).tup
    []) ∧
    True ∧
    True ∧
    True ∧
    True ∧
    True ∧
    True ∧
    True ∧
    ((r.snd.snd.snd.snd != (0 : Int)) = true →
    True ∧
    True ∧
    True ∧
    True ∧
    (((↑r.fst : Int) == (0 : Int)) = true →
    ∃ (r : Bool),
    (True ∧ True ∧ Ok Proofs.Try.prog (27 : Nat) [] [] (AV.sc (Value.bool r)) []) ∧
    True ∧
    True ∧
    True ∧
    ((True ∧ Sub (AV.sc (Value.bool r)) (AV.sc (Value.bool r)) ∧ True) ∧ True) ∧
    Sub (AV.sc (Value.bool r)) res ∧ SubOut [] []) ∧
    (((↑r.fst : Int) == (0 : Int)) = !true →
    true = true ∧
    True ∧
    True ∧
    True ∧
    ((True ∧ Sub (AV.sc (Value.bool false)) (AV.sc (Value.bool false)) ∧ True) ∧ True) ∧
    Sub (AV.sc (Value.bool false)) res ∧ SubOut [] [])) ∧
    ((r.snd.snd.snd.snd != (0 : Int)) = false →
    True ∧
    True ∧
    ((True ∧
    Sub
    (AV.vec true (7 : Nat) rulesn rulesn fun (i0 : Nat) =>
    AV.cons (1 : Nat) (AV.sc (Value.int IntKind.i64 (rulesfa i0)))
    (AV.cons (6 : Nat)
    (AV.cons (1 : Nat) (AV.sc (Value.int IntKind.i64 (rulesfbaa i0)))
    (AV.cons (4 : Nat)
    (AV.ar (4 : Nat) (1 : Nat) fun (i1 : Nat) =>
    AV.sc (Value.int IntKind.u64 (rulesfbabaf i0 i1)))
    (AV.cons (1 : Nat) AV.undef AV.nil)))
    AV.nil))
    (AV.vec true (7 : Nat) rulesn rulesn fun (i0 : Nat) =>
    AV.cons (1 : Nat) (AV.sc (Value.int IntKind.i64 (rulesfa i0)))
    (AV.cons (6 : Nat)
    (AV.cons (1 : Nat) (AV.sc (Value.int IntKind.i64 (rulesfbaa i0)))
    (AV.cons (4 : Nat)
    (AV.ar (4 : Nat) (1 : Nat) fun (i1 : Nat) =>
    AV.sc (Value.int IntKind.u64 (rulesfbabaf i0 i1)))
    (AV.cons (1 : Nat) AV.undef AV.nil)))
    AV.nil)) ∧
    True ∧
    Sub (AV.sc (Value.string text)) (AV.sc (Value.string text)) ∧
    True ∧
    Sub (AV.pt (1000 : Nat) [] (0 : Nat)) (AV.pt (1000 : Nat) [] (0 : Nat)) ∧
    True ∧
    Sub
    (AV.vec false (3 : Nat) r.fst r.fst fun (i0 : Nat) =>
    AV.cons (1 : Nat) (AV.sc (Value.int IntKind.i64 (r.snd.fst i0)))
    (AV.cons (1 : Nat) (AV.sc (Value.int IntKind.i64 (r.snd.snd.fst i0)))
    (AV.cons (1 : Nat) (AV.sc (Value.int IntKind.i64 (r.snd.snd.snd.fst i0)))
    AV.nil)))
    (AV.vec false (3 : Nat) r.fst r.fst fun (i0 : Nat) =>
    AV.cons (1 : Nat) (AV.sc (Value.int IntKind.i64 (r.snd.fst i0)))
    (AV.cons (1 : Nat) (AV.sc (Value.int IntKind.i64 (r.snd.snd.fst i0)))
    (AV.cons (1 : Nat) (AV.sc (Value.int IntKind.i64 (r.snd.snd.snd.fst i0)))
    AV.nil))) ∧
    True ∧
    Sub (AV.sc (Value.int IntKind.i64 (0 : Int)))
    (AV.sc (Value.int IntKind.i64 (0 : Int))) ∧
    True ∧
    Sub (AV.sc (Value.int IntKind.i64 (0 : Int)))
    (AV.sc (Value.int IntKind.i64 (0 : Int))) ∧
    True) ∧
    (True ∧ True ∧ True ∧ True ∧ True) ∧
    SubB
    (AV.cons (1 : Nat) (AV.sc (Value.int IntKind.i64 da))
    (AV.cons (256 : Nat)
    (AV.ar (256 : Nat) (1 : Nat) fun (i0 : Nat) => AV.sc (Value.int IntKind.u8 (dbaf i0)))
    (AV.cons (1 : Nat)
    (AV.vec true (1 : Nat) dbban dbban fun (i0 : Nat) =>
    AV.vec true (1 : Nat) (dbbafn i0) (dbbafn i0) fun (i1 : Nat) =>
    AV.sc (Value.int IntKind.i64 (dbbaff i0 i1)))
    (AV.cons (1 : Nat)
    (AV.vec true (1 : Nat) dbbban dbbban fun (i0 : Nat) =>
    AV.sc (Value.int IntKind.i64 (dbbbaf i0)))
    AV.nil))))
    (AV.cons (1 : Nat) (AV.sc (Value.int IntKind.i64 da))
    (AV.cons (256 : Nat)
    (AV.ar (256 : Nat) (1 : Nat) fun (i0 : Nat) => AV.sc (Value.int IntKind.u8 (dbaf i0)))
    (AV.cons (1 : Nat)
    (AV.vec true (1 : Nat) dbban dbban fun (i0 : Nat) =>
    AV.vec true (1 : Nat) (dbbafn i0) (dbbafn i0) fun (i1 : Nat) =>
    AV.sc (Value.int IntKind.i64 (dbbaff i0 i1)))
    (AV.cons (1 : Nat)
    (AV.vec true (1 : Nat) dbbban dbbban fun (i0 : Nat) =>
    AV.sc (Value.int IntKind.i64 (dbbbaf i0)))
    AV.nil)))) ∧
    True) ∧
    L6_0 rulesn rulesfa rulesfbaa rulesfbabaf text r.fst r.snd.fst r.snd.snd.fst r.snd.snd.snd.fst (0 : Int)
    (0 : Int) da dbaf dbban dbbafn dbbaff dbbban dbbbaf res)) from
    ⟨trivial, ⟨trivial, ⟨trivial, ⟨⟨rfl, trivial⟩, ⟨trivial, (Exists.elim h fun x5 h5 => ⟨x5, (And.elim (fun h6 k6 => ⟨⟨⟨trivial, ⟨⟨trivial, ⟨trivial, ⟨trivial, ⟨trivial, trivial⟩⟩⟩⟩, ⟨trivial, trivial⟩⟩⟩, ⟨trivial, h6⟩⟩, ⟨trivial, (And.elim (fun h8 k8 => ⟨(fun x9 => (fun h9 => ⟨trivial, ⟨trivial, ⟨⟨⟨trivial, ⟨Sub.refl _, trivial⟩⟩, trivial⟩, ((fun h13 => ⟨h13, trivial⟩) h9)⟩⟩⟩) (h8 x9)), (fun x9 => (fun h9 => ⟨trivial, ⟨⟨rfl, trivial⟩, ⟨trivial, (Exists.elim h9 fun x13 h13 => ⟨x13, (And.elim (fun h14 k14 => ⟨⟨⟨trivial, ⟨⟨trivial, ⟨trivial, ⟨trivial, ⟨trivial, trivial⟩⟩⟩⟩, ⟨trivial, trivial⟩⟩⟩, ⟨trivial, h14⟩⟩, ⟨trivial, ⟨trivial, ⟨trivial, ⟨trivial, ⟨trivial, ⟨trivial, ⟨trivial, (And.elim (fun h22 k22 => ⟨(fun x23 => (fun h23 => ⟨trivial, ⟨trivial, ⟨trivial, ⟨trivial, (And.elim (fun h28 k28 => ⟨(fun x29 => (fun h29 => (Exists.elim h29 fun x30 h30 => ⟨x30, (And.elim (fun h31 k31 => ⟨⟨trivial, ⟨trivial, h31⟩⟩, ⟨trivial, ⟨trivial, ⟨trivial, ⟨⟨⟨trivial, ⟨Sub.refl _, trivial⟩⟩, trivial⟩, ((fun h36 => ⟨h36, trivial⟩) k31)⟩⟩⟩⟩⟩) h30)⟩)) (h28 x29)), (fun x29 => (fun h29 => ⟨rfl, ⟨trivial, ⟨trivial, ⟨trivial, ⟨⟨⟨trivial, ⟨Sub.refl _, trivial⟩⟩, trivial⟩, ((fun h35 => ⟨h35, trivial⟩) h29)⟩⟩⟩⟩⟩) (k28 x29))⟩) h23)⟩⟩⟩⟩) (h22 x23)), (fun x23 => (fun h23 => ⟨trivial, ⟨trivial, ⟨⟨⟨trivial, ⟨Sub.refl _, ⟨trivial, ⟨Sub.refl _, ⟨trivial, ⟨Sub.refl _, ⟨trivial, ⟨Sub.refl _, ⟨trivial, ⟨Sub.refl _, ⟨trivial, ⟨Sub.refl _, trivial⟩⟩⟩⟩⟩⟩⟩⟩⟩⟩⟩⟩, ⟨⟨trivial, ⟨trivial, ⟨trivial, ⟨trivial, trivial⟩⟩⟩⟩, ⟨SubB.refl _, trivial⟩⟩⟩, h23⟩⟩⟩) (k22 x23))⟩) k14)⟩⟩⟩⟩⟩⟩⟩⟩) h13)⟩)⟩⟩⟩) (k8 x9))⟩) k6)⟩⟩) h5)⟩)⟩⟩⟩⟩⟩)
theorem r6_0 (rulesn : Nat) (rulesfa : Nat → Int) (rulesfbaa : Nat → Int) (rulesfbabaf : Nat → Nat → Int) (text : ByteArray) (ln : Nat) (lfa : Nat → Int) (lfba : Nat → Int) (lfbba : Nat → Int) (at_ : Int) (i : Int) (b0a : Int) (b0baf : Nat → Int) (b0bban : Nat) (b0bbafn : Nat → Nat) (b0bbaff : Nat → Nat → Int) (b0bbban : Nat) (b0bbbaf : Nat → Int) (res : AV)
    (h : (decide (i < (↑ln : Int)) = true →
    ((0 : Int) ≤ i ∧ i < (↑ln : Int)) ∧
    ∃ (r : Int × Int × Int × Int),
    Ok Proofs.Try.prog (17 : Nat)
    [AV.cons (1 : Nat) (AV.sc (Value.int IntKind.i64 b0a))
    (AV.cons (256 : Nat) (AV.ar (256 : Nat) (1 : Nat) fun (i : Nat) => AV.sc (Value.int IntKind.u8 (b0baf i)))
    (AV.cons (1 : Nat)
    (AV.vec true (1 : Nat) b0bban b0bban fun (i : Nat) =>
    AV.vec true (1 : Nat) (b0bbafn i) (b0bbafn i) fun (i_1 : Nat) => AV.sc (Value.int IntKind.i64 (b0bbaff i i_1)))
    (AV.cons (1 : Nat) (AV.vec true (1 : Nat) b0bbban b0bbban fun (i : Nat) => AV.sc (Value.int IntKind.i64 (b0bbbaf i))) AV.nil))),
    AV.sc (Value.string text), AV.sc (Value.int IntKind.i64 at_)]
    []
    (AV.cons (1 : Nat)
    (AV.cons (1 : Nat) (AV.sc (Value.int IntKind.i64 r.fst))
    (AV.cons (1 : Nat) (AV.sc (Value.int IntKind.i64 r.snd.fst)) (AV.cons (1 : Nat) (AV.sc (Value.int IntKind.i64 r.snd.snd.fst)) AV.nil)))
    (AV.cons (1 : Nat) (AV.sc (Value.int IntKind.i64 r.snd.snd.snd)) AV.nil)).tup
    [] ∧
    ((r.snd.snd.snd != (0 : Int)) = false →
    (decide (lfba i.toNat < (1 : Int)) = false →
    ((lfbba i.toNat != r.snd.snd.fst) = true → Sub (AV.sc (Value.bool false)) res) ∧
    ((lfbba i.toNat != r.snd.snd.fst) = false →
    (decide (r.fst < (0 : Int)) = true →
    ((lfa i.toNat != (23 : Int)) = false →
    ((lfba i.toNat != (1 : Int)) = true → Sub (AV.sc (Value.bool false)) res) ∧
    ((lfba i.toNat != (1 : Int)) = false →
    L6_1 rulesn rulesfa rulesfbaa rulesfbabaf text ln lfa lfba lfbba at_ i b0a b0baf b0bban b0bbafn b0bbaff b0bbban b0bbbaf
    (lfa i.toNat) (lfba i.toNat) (lfbba i.toNat) res)) ∧
    ((lfa i.toNat != (23 : Int)) = !false → Sub (AV.sc (Value.bool false)) res)) ∧
    (decide (r.fst < (0 : Int)) = false →
    (decide (r.fst ≥ (↑rulesn : Int)) = false →
    ((0 : Int) ≤ r.fst ∧ r.fst < (↑rulesn : Int)) ∧
    ((lfa i.toNat != rulesfa r.fst.toNat) = false →
    ((lfba i.toNat != r.snd.fst) = true → Sub (AV.sc (Value.bool false)) res) ∧
    ((lfba i.toNat != r.snd.fst) = false →
    L6_1 rulesn rulesfa rulesfbaa rulesfbabaf text ln lfa lfba lfbba at_ i b0a b0baf b0bban b0bbafn b0bbaff b0bbban b0bbbaf
    (lfa i.toNat) (lfba i.toNat) (lfbba i.toNat) res)) ∧
    ((lfa i.toNat != rulesfa r.fst.toNat) = !false → Sub (AV.sc (Value.bool false)) res)) ∧
    (decide (r.fst ≥ (↑rulesn : Int)) = !false → Sub (AV.sc (Value.bool false)) res)))) ∧
    (decide (lfba i.toNat < (1 : Int)) = !false → Sub (AV.sc (Value.bool false)) res)) ∧
    ((r.snd.snd.snd != (0 : Int)) = !false → Sub (AV.sc (Value.bool false)) res)) ∧
  (decide (i < (↑ln : Int)) = false →
    ((at_ == (↑text.size : Int)) = true → ∃ (r : Bool), Ok Proofs.Try.prog (27 : Nat) [] [] (AV.sc (Value.bool r)) [] ∧ Sub (AV.sc (Value.bool r)) res) ∧
    ((at_ == (↑text.size : Int)) = !true → Sub (AV.sc (Value.bool false)) res))) :
    L6_0 rulesn rulesfa rulesfbaa rulesfbabaf text ln lfa lfba lfbba at_ i b0a b0baf b0bban b0bbafn b0bbaff b0bbban b0bbbaf res :=
  rule Go.Am.Seat.tabOk 6 [] Go.Proofs.Try.f6 hf6 [1, 1, 1, 1, 1, 0, 1, 0, 0] (s6_0 rulesn rulesfa rulesfbaa rulesfbabaf text ln lfa lfba lfbba at_ i b0a b0baf b0bban b0bbafn b0bbaff b0bbban b0bbbaf) (m6_0 rulesn rulesfa rulesfbaa rulesfbabaf text ln lfa lfba lfbba at_ i b0a b0baf b0bban b0bbafn b0bbaff b0bbban b0bbbaf) res [] 400
    ((Orc.call [] []
    (fun (r17 : Int × Int × Int × Int) =>
    (AV.cons (1 : Nat)
    (AV.cons (1 : Nat) (AV.sc (Value.int IntKind.i64 r17.fst))
    (AV.cons (1 : Nat) (AV.sc (Value.int IntKind.i64 r17.snd.fst)) (AV.cons (1 : Nat) (AV.sc (Value.int IntKind.i64 r17.snd.snd.fst)) AV.nil)))
    (AV.cons (1 : Nat) (AV.sc (Value.int IntKind.i64 r17.snd.snd.snd)) AV.nil)).tup)
    (fun (r17 : Int × Int × Int × Int) => []) fun (r17 : Int × Int × Int × Int) =>
    (((Orc.fin (AV.sc (Value.bool false)) [] []).br
    ((((Orc.fin (AV.sc (Value.bool false)) [] []).br
    (Orc.cut (nat_lit 1)
    (s6_1 rulesn rulesfa rulesfbaa rulesfbabaf text ln lfa lfba lfbba at_ i b0a b0baf b0bban b0bbafn b0bbaff b0bbban
    b0bbbaf (lfa i.toNat) (lfba i.toNat) (lfbba i.toNat))
    (m6_1 rulesn rulesfa rulesfbaa rulesfbabaf text ln lfa lfba lfbba at_ i b0a b0baf b0bban b0bbafn b0bbaff b0bbban
    b0bbbaf (lfa i.toNat) (lfba i.toNat) (lfbba i.toNat))
    [((1000 : Nat), some (1000 : Nat)), ((1001 : Nat), some (11 : Nat))])).yes.yes.br
    (Orc.fin (AV.sc (Value.bool false)) [] []).yes.no.no).br
    ((Orc.ch Ch.none
    (Orc.ch (Ch.p false)
    ((Orc.ch Ch.none
    (Orc.ch (Ch.p false)
    ((Orc.fin (AV.sc (Value.bool false)) [] []).br
    (Orc.cut (nat_lit 1)
    (s6_1 rulesn rulesfa rulesfbaa rulesfbabaf text ln lfa lfba lfbba at_ i b0a b0baf
    b0bban b0bbafn b0bbaff b0bbban b0bbbaf (lfa i.toNat) (lfba i.toNat) (lfbba i.toNat))
    (m6_1 rulesn rulesfa rulesfbaa rulesfbabaf text ln lfa lfba lfbba at_ i b0a b0baf
    b0bban b0bbafn b0bbaff b0bbban b0bbbaf (lfa i.toNat) (lfba i.toNat) (lfbba i.toNat))
    [((1000 : Nat), some (1000 : Nat)),
    ((1001 : Nat), some (11 : Nat))])))).yes.yes.yes.yes.br
    (Orc.ch (Ch.p true)
    (Orc.fin (AV.sc (Value.bool false)) []
    []).yes).no.no.no.no))).yes.yes.yes.yes.yes.yes.yes.yes.br
    (Orc.ch (Ch.p true)
    (Orc.ch (Ch.p true)
    (Orc.fin (AV.sc (Value.bool false)) []
    []).yes).no.no.no.no.no).no.no.no.no.no.no.no.no))).yes.yes.yes.yes.br
    (Orc.fin (AV.sc (Value.bool false)) [] []).yes.no.no.no.no).yes.yes.br
    (Orc.fin (AV.sc (Value.bool false)) [] []).yes.no.no.no.no.no.no.no).br
  ((Orc.call [] [] (fun (r27 : Bool) => AV.sc (Value.bool r27)) (fun (r27 : Bool) => []) fun (r27 : Bool) =>
    Orc.fin (AV.sc (Value.bool (bif true then r27 else false))) [] []).br
    (Orc.fin (AV.sc (Value.bool false)) [] []))) _ _ (by kernel_rfl) (by kernel_rfl) (show True ∧
  True ∧
    True ∧
    True ∧
    (decide (i < (↑ln : Int)) = true →
    True ∧
    True ∧
    ((0 : Int) ≤ i ∧ i < (↑ln : Int)) ∧
    True ∧
    True ∧
    ((0 : Nat) = (0 : Nat) ∧ True) ∧
    ((0 : Nat) = (0 : Nat) ∧ True) ∧
    True ∧
    True ∧
    ∃ (r : Int × Int × Int × Int),
    (((True ∧ True ∧ True ∧ True ∧ True) ∧ True ∧ True ∧ True) ∧
    True ∧
    Ok Proofs.Try.prog (17 : Nat)
    [AV.cons (1 : Nat) (AV.sc (Value.int IntKind.i64 b0a))
    (AV.cons (256 : Nat) (AV.ar (256 : Nat) (1 : Nat) fun (i : Nat) => AV.sc (Value.int IntKind.u8 (b0baf i)))
    (AV.cons (1 : Nat)
    (AV.vec true (1 : Nat) b0bban b0bban fun (i : Nat) =>
    AV.vec true (1 : Nat) (b0bbafn i) (b0bbafn i) fun (i_1 : Nat) =>
    AV.sc (Value.int IntKind.i64 (b0bbaff i i_1)))
    (AV.cons (1 : Nat)
    (AV.vec true (1 : Nat) b0bbban b0bbban fun (i : Nat) => AV.sc (Value.int IntKind.i64 (b0bbbaf i))) AV.nil))),
    AV.sc (Value.string text), AV.sc (Value.int IntKind.i64 at_)]
    []
    (AV.cons (1 : Nat)
    (AV.cons (1 : Nat) (AV.sc (Value.int IntKind.i64 r.fst))
    (AV.cons (1 : Nat) (AV.sc (Value.int IntKind.i64 r.snd.fst))
    (AV.cons (1 : Nat) (AV.sc (Value.int IntKind.i64 r.snd.snd.fst)) AV.nil)))
    (AV.cons (1 : Nat) (AV.sc (Value.int IntKind.i64 r.snd.snd.snd)) AV.nil)).tup
    []) ∧
    True ∧
    True ∧
    True ∧
    True ∧
    ((0 : Nat) = (0 : Nat) ∧ True) ∧
    True ∧
    True ∧
    True ∧
    True ∧
    ((r.snd.snd.snd != (0 : Int)) = false →
    True ∧
    false = false ∧
    ((1 : Nat) + (0 : Nat) = plus (0 : Nat) (1 : Nat) ∧ True) ∧
    false = false ∧
    True ∧
    True ∧
    True ∧
    (decide (lfba i.toNat < (1 : Int)) = false →
    True ∧
    false = false ∧
    ((1 : Nat) + ((1 : Nat) + (0 : Nat)) = plus (0 : Nat) (2 : Nat) ∧ True) ∧
    false = false ∧
    True ∧
    false = false ∧
    ((1 : Nat) + ((1 : Nat) + (0 : Nat)) = plus (0 : Nat) (2 : Nat) ∧ True) ∧
    false = false ∧
    True ∧
    True ∧
    ((lfbba i.toNat != r.snd.snd.fst) = true →
    True ∧
    True ∧
    ((True ∧
    Sub (AV.sc (Value.bool false))
    (AV.sc (Value.bool false)) ∧
    True) ∧
    True) ∧
    Sub (AV.sc (Value.bool false)) res ∧ SubOut [] []) ∧
    ((lfbba i.toNat != r.snd.snd.fst) = false →
    True ∧
    ((0 : Nat) = plus (0 : Nat) (0 : Nat) ∧ True) ∧
    True ∧
    (decide (r.fst < (0 : Int)) = true →
    True ∧
    ((0 : Nat) = plus (0 : Nat) (0 : Nat) ∧ True) ∧
    True ∧
    True ∧
    ((lfa i.toNat != (23 : Int)) = false →
    True ∧
    false = false ∧
    ((1 : Nat) + (0 : Nat) =
    plus (0 : Nat) (1 : Nat) ∧
    True) ∧
    false = false ∧
    True ∧
    True ∧
    ((lfba i.toNat !=
    (1 : Int)) =
    true →
    True ∧
    True ∧
    ((True ∧
    Sub
    (AV.sc
    (Value.bool
    false))
    (AV.sc
    (Value.bool
    false)) ∧
    True) ∧
    True) ∧
    Sub
    (AV.sc
    (Value.bool
    false))
    res ∧
    SubOut [] []) ∧
    ((lfba i.toNat !=
    (1 : Int)) =
    false →
    ((True ∧
    Sub
    (AV.vec true
    (7 : Nat)
    rulesn
    rulesn
    fun
    (i0 :
    Nat) =>
    AV.cons
    (1 : Nat)
    (AV.sc
    (Value.int
    IntKind.i64
    (rulesfa
    i0)))
    (AV.cons
    (6 :
    Nat)
    (AV.cons
    (1 :
    Nat)
    (AV.sc
    (Value.int
    IntKind.i64
    (rulesfbaa
    i0)))
    (AV.cons
    (4 :
    Nat)
    (AV.ar
    (4 :
    Nat)
    (1 :
    Nat)
    fun
    (i1 :
    Nat) =>
    AV.sc
    (Value.int
    IntKind.u64
    (rulesfbabaf
    i0
    i1)))
    (AV.cons
    (1 :
    Nat)
    AV.undef
    AV.nil)))
    AV.nil))
    (AV.vec true
    (7 : Nat)
    rulesn
    rulesn
    fun
    (i0 :
    Nat) =>
    AV.cons
    (1 : Nat)
    (AV.sc
    (Value.int
    IntKind.i64
    (rulesfa
    i0)))
    (AV.cons
    (6 :
    Nat)
    (AV.cons
    (1 :
    Nat)
    (AV.sc
    (Value.int
    IntKind.i64
    (rulesfbaa
    i0)))
    (AV.cons
    (4 :
    Nat)
    (AV.ar
    (4 :
    Nat)
    (1 :
    Nat)
    fun
    (i1 :
    Nat) =>
    AV.sc
    (Value.int
    IntKind.u64
    (rulesfbabaf
    i0
    i1)))
    (AV.cons
    (1 :
    Nat)
    AV.undef
    AV.nil)))
    AV.nil)) ∧
    True ∧
    Sub
    (AV.sc
    (Value.string
    text))
    (AV.sc
    (Value.string
    text)) ∧
    True ∧
    Sub
    (AV.pt
    (1000 :
    Nat)
    []
    (0 :
    Nat))
    (AV.pt
    (1000 :
    Nat)
    []
    (0 :
    Nat)) ∧
    True ∧
    Sub
    (AV.vec
    false
    (3 :
    Nat)
    ln
    ln
    fun
    (i0 :
    Nat) =>
    AV.cons
    (1 :
    Nat)
    (AV.sc
    (Value.int
    IntKind.i64
    (lfa
    i0)))
    (AV.cons
    (1 :
    Nat)
    (AV.sc
    (Value.int
    IntKind.i64
    (lfba
    i0)))
    (AV.cons
    (1 :
    Nat)
    (AV.sc
    (Value.int
    IntKind.i64
    (lfbba
    i0)))
    AV.nil)))
    (AV.vec
    false
    (3 :
    Nat)
    ln
    ln
    fun
    (i0 :
    Nat) =>
    AV.cons
    (1 :
    Nat)
    (AV.sc
    (Value.int
    IntKind.i64
    (lfa
    i0)))
    (AV.cons
    (1 :
    Nat)
    (AV.sc
    (Value.int
    IntKind.i64
    (lfba
    i0)))
    (AV.cons
    (1 :
    Nat)
    (AV.sc
    (Value.int
    IntKind.i64
    (lfbba
    i0)))
    AV.nil))) ∧
    True ∧
    Sub
    (AV.sc
    (Value.int
    IntKind.i64
    at_))
    (AV.sc
    (Value.int
    IntKind.i64
    at_)) ∧
    True ∧
    Sub
    (AV.sc
    (Value.int
    IntKind.i64
    i))
    (AV.sc
    (Value.int
    IntKind.i64
    i)) ∧
    True ∧
    Sub
    (AV.pt
    (1001 :
    Nat)
    []
    (0 :
    Nat))
    (AV.pt
    (1001 :
    Nat)
    []
    (0 :
    Nat)) ∧
    True) ∧
    (True ∧
    True ∧
    True ∧
    True ∧
    True) ∧
    SubB
    (AV.cons
    (1 : Nat)
    (AV.sc
    (Value.int
    IntKind.i64
    b0a))
    (AV.cons
    (256 :
    Nat)
    (AV.ar
    (256 :
    Nat)
    (1 :
    Nat)
    fun
    (i0 :
    Nat) =>
    AV.sc
    (Value.int
    IntKind.u8
    (b0baf
    i0)))
    (AV.cons
    (1 :
    Nat)
    (AV.vec
    true
    (1 :
    Nat)
    b0bban
    b0bban
    fun
    (i0 :
    Nat) =>
    AV.vec
    true
    (1 :
    Nat)
    (b0bbafn
    i0)
    (b0bbafn
    i0)
    fun
    (i1 :
    Nat) =>
    AV.sc
    (Value.int
    IntKind.i64
    (b0bbaff
    i0
    i1)))
    (AV.cons
    (1 :
    Nat)
    (AV.vec
    true
    (1 :
    Nat)
    b0bbban
    b0bbban
    fun
    (i0 :
    Nat) =>
    AV.sc
    (Value.int
    IntKind.i64
    (b0bbbaf
    i0)))
    AV.nil))))
    (AV.cons
    (1 : Nat)
    (AV.sc
    (Value.int
    IntKind.i64
    b0a))
    (AV.cons
    (256 :
    Nat)
    (AV.ar
    (256 :
    Nat)
    (1 :
    Nat)
    fun
    (i0 :
    Nat) =>
    AV.sc
    (Value.int
    IntKind.u8
    (b0baf
    i0)))
    (AV.cons
    (1 :
    Nat)
    (AV.vec
    true
    (1 :
    Nat)
    b0bban
    b0bban
    fun
    (i0 :
    Nat) =>
    AV.vec
    true
    (1 :
    Nat)
    (b0bbafn
    i0)
    (b0bbafn
    i0)
    fun
    (i1 :
    Nat) =>
    AV.sc
    (Value.int
    IntKind.i64
    (b0bbaff
    i0
    i1)))
    (AV.cons
    (1 :
    Nat)
    (AV.vec
    true
    (1 :
    Nat)
    b0bbban
    b0bbban
    fun
    (i0 :
    Nat) =>
    AV.sc
    (Value.int
    IntKind.i64
    (b0bbbaf
    i0)))
    AV.nil)))) ∧
    (True ∧
    True ∧
    True ∧
    True) ∧
    SubB
    (AV.cons
    (1 :
    Nat)
    (AV.sc
    (Value.int
    IntKind.i64
    (lfa
    i.toNat)))
    (AV.cons
    (1 :
    Nat)
    (AV.sc
    (Value.int
    IntKind.i64
    (lfba
    i.toNat)))
    (AV.cons
    (1 :
    Nat)
    (AV.sc
    (Value.int
    IntKind.i64
    (lfbba
    i.toNat)))
    AV.nil)))
    (AV.cons
    (1 :
    Nat)
    (AV.sc
    (Value.int
    IntKind.i64
    (lfa
    i.toNat)))
    (AV.cons
    (1 :
    Nat)
    (AV.sc
    (Value.int
    IntKind.i64
    (lfba
    i.toNat)))
    (AV.cons
    (1 :
    Nat)
    (AV.sc
    (Value.int
    IntKind.i64
    (lfbba
    i.toNat)))
    AV.nil))) ∧
    True) ∧
    L6_1 rulesn rulesfa
    rulesfbaa
    rulesfbabaf text ln
    lfa lfba lfbba at_ i
    b0a b0baf b0bban
    b0bbafn b0bbaff
    b0bbban b0bbbaf
    (lfa i.toNat)
    (lfba i.toNat)
    (lfbba i.toNat)
    res)) ∧
    ((lfa i.toNat != (23 : Int)) = !false →
    true = true ∧
    (!false) = !false ∧
    true = true ∧
    (!false) = !false ∧
    true = true ∧
    True ∧
    true = true ∧
    True ∧
    True ∧
    ((True ∧
    Sub
    (AV.sc
    (Value.bool
    false))
    (AV.sc
    (Value.bool
    false)) ∧
    True) ∧
    True) ∧
    Sub
    (AV.sc
    (Value.bool
    false))
    res ∧
    SubOut [] [])) ∧
    (decide (r.fst < (0 : Int)) = false →
    True ∧
    ((0 : Nat) = plus (0 : Nat) (0 : Nat) ∧ True) ∧
    True ∧
    True ∧
    True ∧
    True ∧
    (decide (r.fst ≥ (↑rulesn : Int)) =
    false →
    True ∧
    decide (r.fst ≥ (↑rulesn : Int)) =
    false ∧
    ((0 : Nat) =
    plus (0 : Nat) (0 : Nat) ∧
    True) ∧
    decide
    (r.fst ≥
    (↑rulesn : Int)) =
    false ∧
    True ∧
    decide
    (r.fst ≥
    (↑rulesn : Int)) =
    false ∧
    True ∧
    decide
    (r.fst ≥
    (↑rulesn :
    Int)) =
    false ∧
    ((0 : Nat) =
    plus (0 : Nat)
    (0 : Nat) ∧
    True) ∧
    decide
    (r.fst ≥
    (↑rulesn :
    Int)) =
    false ∧
    ((0 : Int) ≤
    r.fst ∧
    r.fst <
    (↑rulesn :
    Int)) ∧
    decide
    (r.fst ≥
    (↑rulesn :
    Int)) =
    false ∧
    True ∧
    decide
    (r.fst ≥
    (↑rulesn :
    Int)) =
    false ∧
    True ∧
    decide
    (r.fst ≥
    (↑rulesn :
    Int)) =
    false ∧
    True ∧
    decide
    (r.fst ≥
    (↑rulesn :
    Int)) =
    false ∧
    True ∧
    ((lfa
    i.toNat !=
    rulesfa
    r.fst.toNat) =
    false →
    True ∧
    (lfa
    i.toNat !=
    rulesfa
    r.fst.toNat) =
    false ∧
    ((1 :
    Nat) +
    (0 :
    Nat) =
    plus
    (0 :
    Nat)
    (1 :
    Nat) ∧
    True) ∧
    (lfa
    i.toNat !=
    rulesfa
    r.fst.toNat) =
    false ∧
    True ∧
    (lfa
    i.toNat !=
    rulesfa
    r.fst.toNat) =
    false ∧
    ((1 :
    Nat) +
    (0 :
    Nat) =
    plus
    (0 :
    Nat)
    (1 :
    Nat) ∧
    True) ∧
    (lfa
    i.toNat !=
    rulesfa
    r.fst.toNat) =
    false ∧
    True ∧
    (lfa
    i.toNat !=
    rulesfa
    r.fst.toNat) =
    false ∧
    ((lfba
    i.toNat !=
    r.snd.fst) =
    true →
    True ∧
    True ∧
    ((True ∧
    Sub
    (AV.sc
    (Value.bool
    false))
    (AV.sc
    (Value.bool
    false)) ∧
    True) ∧
    True) ∧
    Sub
    (AV.sc
    (Value.bool
    false))
    res ∧
    SubOut
    []
    []) ∧
    ((lfba
    i.toNat !=
    r.snd.fst) =
    false →
    ((True ∧
    Sub
    (AV.vec
    true
    (7 :
    Nat)
    rulesn
    rulesn
    fun
    (i0 :
    Nat) =>
    AV.cons
    (1 :
    Nat)
    (AV.sc
    (Value.int
    IntKind.i64
    (rulesfa
    i0)))
    (AV.cons
    (6 :
    Nat)
    (AV.cons
    (1 :
    Nat)
    (AV.sc
    (Value.int
    IntKind.i64
    (rulesfbaa
    i0)))
    (AV.cons
    (4 :
    Nat)
    (AV.ar
    (4 :
    Nat)
    (1 :
    Nat)
    fun
    (i1 :
    Nat) =>
    AV.sc
    (Value.int
    IntKind.u64
    (rulesfbabaf
    i0
    i1)))
    (AV.cons
    (1 :
    Nat)
    AV.undef
    AV.nil)))
    AV.nil))
    (AV.vec
    true
    (7 :
    Nat)
    rulesn
    rulesn
    fun
    (i0 :
    Nat) =>
    AV.cons
    (1 :
    Nat)
    (AV.sc
    (Value.int
    IntKind.i64
    (rulesfa
    i0)))
    (AV.cons
    (6 :
    Nat)
    (AV.cons
    (1 :
    Nat)
    (AV.sc
    (Value.int
    IntKind.i64
    (rulesfbaa
    i0)))
    (AV.cons
    (4 :
    Nat)
    (AV.ar
    (4 :
    Nat)
    (1 :
    Nat)
    fun
    (i1 :
    Nat) =>
    AV.sc
    (Value.int
    IntKind.u64
    (rulesfbabaf
    i0
    i1)))
    (AV.cons
    (1 :
    Nat)
    AV.undef
    AV.nil)))
    AV.nil)) ∧
    True ∧
    Sub
    (AV.sc
    (Value.string
    text))
    (AV.sc
    (Value.string
    text)) ∧
    True ∧
    Sub
    (AV.pt
    (1000 :
    Nat)
    []
    (0 :
    Nat))
    (AV.pt
    (1000 :
    Nat)
    []
    (0 :
    Nat)) ∧
    True ∧
    Sub
    (AV.vec
    false
    (3 :
    Nat)
    ln
    ln
    fun
    (i0 :
    Nat) =>
    AV.cons
    (1 :
    Nat)
    (AV.sc
    (Value.int
    IntKind.i64
    (lfa
    i0)))
    (AV.cons
    (1 :
    Nat)
    (AV.sc
    (Value.int
    IntKind.i64
    (lfba
    i0)))
    (AV.cons
    (1 :
    Nat)
    (AV.sc
    (Value.int
    IntKind.i64
    (lfbba
    i0)))
    AV.nil)))
    (AV.vec
    false
    (3 :
    Nat)
    ln
    ln
    fun
    (i0 :
    Nat) =>
    AV.cons
    (1 :
    Nat)
    (AV.sc
    (Value.int
    IntKind.i64
    (lfa
    i0)))
    (AV.cons
    (1 :
    Nat)
    (AV.sc
    (Value.int
    IntKind.i64
    (lfba
    i0)))
    (AV.cons
    (1 :
    Nat)
    (AV.sc
    (Value.int
    IntKind.i64
    (lfbba
    i0)))
    AV.nil))) ∧
    True ∧
    Sub
    (AV.sc
    (Value.int
    IntKind.i64
    at_))
    (AV.sc
    (Value.int
    IntKind.i64
    at_)) ∧
    True ∧
    Sub
    (AV.sc
    (Value.int
    IntKind.i64
    i))
    (AV.sc
    (Value.int
    IntKind.i64
    i)) ∧
    True ∧
    Sub
    (AV.pt
    (1001 :
    Nat)
    []
    (0 :
    Nat))
    (AV.pt
    (1001 :
    Nat)
    []
    (0 :
    Nat)) ∧
    True) ∧
    (True ∧
    True ∧
    True ∧
    True ∧
    True) ∧
    SubB
    (AV.cons
    (1 :
    Nat)
    (AV.sc
    (Value.int
    IntKind.i64
    b0a))
    (AV.cons
    (256 :
    Nat)
    (AV.ar
    (256 :
    Nat)
    (1 :
    Nat)
    fun
    (i0 :
    Nat) =>
    AV.sc
    (Value.int
    IntKind.u8
    (b0baf
    i0)))
    (AV.cons
    (1 :
    Nat)
    (AV.vec
    true
    (1 :
    Nat)
    b0bban
    b0bban
    fun
    (i0 :
    Nat) =>
    AV.vec
    true
    (1 :
    Nat)
    (b0bbafn
    i0)
    (b0bbafn
    i0)
    fun
    (i1 :
    Nat) =>
    AV.sc
    (Value.int
    IntKind.i64
    (b0bbaff
    i0
    i1)))
    (AV.cons
    (1 :
    Nat)
    (AV.vec
    true
    (1 :
    Nat)
    b0bbban
    b0bbban
    fun
    (i0 :
    Nat) =>
    AV.sc
    (Value.int
    IntKind.i64
    (b0bbbaf
    i0)))
    AV.nil))))
    (AV.cons
    (1 :
    Nat)
    (AV.sc
    (Value.int
    IntKind.i64
    b0a))
    (AV.cons
    (256 :
    Nat)
    (AV.ar
    (256 :
    Nat)
    (1 :
    Nat)
    fun
    (i0 :
    Nat) =>
    AV.sc
    (Value.int
    IntKind.u8
    (b0baf
    i0)))
    (AV.cons
    (1 :
    Nat)
    (AV.vec
    true
    (1 :
    Nat)
    b0bban
    b0bban
    fun
    (i0 :
    Nat) =>
    AV.vec
    true
    (1 :
    Nat)
    (b0bbafn
    i0)
    (b0bbafn
    i0)
    fun
    (i1 :
    Nat) =>
    AV.sc
    (Value.int
    IntKind.i64
    (b0bbaff
    i0
    i1)))
    (AV.cons
    (1 :
    Nat)
    (AV.vec
    true
    (1 :
    Nat)
    b0bbban
    b0bbban
    fun
    (i0 :
    Nat) =>
    AV.sc
    (Value.int
    IntKind.i64
    (b0bbbaf
    i0)))
    AV.nil)))) ∧
    (True ∧
    True ∧
    True ∧
    True) ∧
    SubB
    (AV.cons
    (1 :
    Nat)
    (AV.sc
    (Value.int
    IntKind.i64
    (lfa
    i.toNat)))
    (AV.cons
    (1 :
    Nat)
    (AV.sc
    (Value.int
    IntKind.i64
    (lfba
    i.toNat)))
    (AV.cons
    (1 :
    Nat)
    (AV.sc
    (Value.int
    IntKind.i64
    (lfbba
    i.toNat)))
    AV.nil)))
    (AV.cons
    (1 :
    Nat)
    (AV.sc
    (Value.int
    IntKind.i64
    (lfa
    i.toNat)))
    (AV.cons
    (1 :
    Nat)
    (AV.sc
    (Value.int
    IntKind.i64
    (lfba
    i.toNat)))
    (AV.cons
    (1 :
    Nat)
    (AV.sc
    (Value.int
    IntKind.i64
    (lfbba
    i.toNat)))
    AV.nil))) ∧
    True) ∧
    L6_1
    rulesn
    rulesfa
    rulesfbaa
    rulesfbabaf
    text
    ln
    lfa
    lfba
    lfbba
    at_
    i
    b0a
    b0baf
    b0bban
    b0bbafn
    b0bbaff
    b0bbban
    b0bbbaf
    (lfa
    i.toNat)
    (lfba
    i.toNat)
    (lfbba
    i.toNat)
    res)) ∧
    ((lfa
    i.toNat !=
    rulesfa
    r.fst.toNat) =
    !false →
    true =
    true ∧
    (lfa
    i.toNat !=
    rulesfa
    r.fst.toNat) =
    !false ∧
    true =
    true ∧
    (lfa
    i.toNat !=
    rulesfa
    r.fst.toNat) =
    !false ∧
    true =
    true ∧
    (lfa
    i.toNat !=
    rulesfa
    r.fst.toNat) =
    !false ∧
    true =
    true ∧
    (lfa
    i.toNat !=
    rulesfa
    r.fst.toNat) =
    !false ∧
    true =
    true ∧
    (lfa
    i.toNat !=
    rulesfa
    r.fst.toNat) =
    true ∧
    true =
    true ∧
    True ∧
    True ∧
    ((True ∧
    Sub
    (AV.sc
    (Value.bool
    false))
    (AV.sc
    (Value.bool
    false)) ∧
    True) ∧
    True) ∧
    Sub
    (AV.sc
    (Value.bool
    false))
    res ∧
    SubOut
    []
    [])) ∧
    (decide (r.fst ≥ (↑rulesn : Int)) =
    !false →
    true = true ∧
    decide (r.fst ≥ (↑rulesn : Int)) =
    !false ∧
    true = true ∧
    decide
    (r.fst ≥
    (↑rulesn : Int)) =
    !false ∧
    true = true ∧
    decide
    (r.fst ≥
    (↑rulesn : Int)) =
    !false ∧
    true = true ∧
    decide
    (r.fst ≥
    (↑rulesn :
    Int)) =
    !false ∧
    true = true ∧
    decide
    (r.fst ≥
    (↑rulesn :
    Int)) =
    !false ∧
    true = true ∧
    decide
    (r.fst ≥
    (↑rulesn :
    Int)) =
    !false ∧
    true =
    true ∧
    decide
    (r.fst ≥
    (↑rulesn :
    Int)) =
    !false ∧
    true =
    true ∧
    decide
    (r.fst ≥
    (↑rulesn :
    Int)) =
    !false ∧
    true =
    true ∧
    decide
    (r.fst ≥
    (↑rulesn :
    Int)) =
    true ∧
    True ∧
    true =
    !false ∧
    true =
    true ∧
    true =
    !false ∧
    true =
    true ∧
    true =
    !false ∧
    true =
    true ∧
    true =
    !false ∧
    true =
    true ∧
    true =
    !false ∧
    true =
    true ∧
    true =
    true ∧
    true =
    true ∧
    True ∧
    True ∧
    ((True ∧
    Sub
    (AV.sc
    (Value.bool
    false))
    (AV.sc
    (Value.bool
    false)) ∧
    True) ∧
    True) ∧
    Sub
    (AV.sc
    (Value.bool
    false))
    res ∧
    SubOut
    []
    [])))) ∧
    (decide (lfba i.toNat < (1 : Int)) = !false →
    true = true ∧
    (!false) = !false ∧
    true = true ∧
    (!false) = !false ∧
    true = true ∧
    (!false) = !false ∧
    true = true ∧
    (!false) = !false ∧
    true = true ∧
    True ∧
    true = true ∧
    True ∧
    True ∧
    ((True ∧
    Sub (AV.sc (Value.bool false))
    (AV.sc (Value.bool false)) ∧
    True) ∧
    True) ∧
    Sub (AV.sc (Value.bool false)) res ∧ SubOut [] [])) ∧
    ((r.snd.snd.snd != (0 : Int)) = !false →
    true = true ∧
    (!false) = !false ∧
    true = true ∧
    (!false) = !false ∧
    true = true ∧
    True ∧
    True ∧
    true = !false ∧
    true = true ∧
    (!false) = !false ∧
    true = true ∧
    (!false) = !false ∧
    true = true ∧
    (!false) = !false ∧
    true = true ∧
    (!false) = !false ∧
    true = true ∧
    True ∧
    true = true ∧
    True ∧
    True ∧
    ((True ∧
    Sub (AV.sc (Value.bool false))
    (AV.sc (Value.bool false)) ∧
    True) ∧
    True) ∧
    Sub (AV.sc (Value.bool false)) res ∧ SubOut [] [])) ∧
    (decide (i < (↑ln : Int)) = false →
    True ∧
    True ∧
    True ∧
    True ∧
    True ∧
    ((at_ == (↑text.size : Int)) = true →
    ∃ (r : Bool),
    (True ∧ True ∧ Ok Proofs.Try.prog (27 : Nat) [] [] (AV.sc (Value.bool r)) []) ∧
    True ∧
    True ∧
    True ∧
    ((True ∧ Sub (AV.sc (Value.bool r)) (AV.sc (Value.bool r)) ∧ True) ∧ True) ∧
    Sub (AV.sc (Value.bool r)) res ∧ SubOut [] []) ∧
    ((at_ == (↑text.size : Int)) = !true →
    true = true ∧
    True ∧
    True ∧
    True ∧
    ((True ∧ Sub (AV.sc (Value.bool false)) (AV.sc (Value.bool false)) ∧ True) ∧ True) ∧
    Sub (AV.sc (Value.bool false)) res ∧ SubOut [] [])) from
    ⟨trivial, ⟨trivial, ⟨trivial, ⟨trivial, (And.elim (fun h4 k4 => ⟨(fun x5 => (fun h5 => ⟨trivial, ⟨trivial, (And.elim (fun h8 k8 => ⟨(And.elim (fun h9 k9 => ⟨h9, k9⟩) h8), ⟨trivial, ⟨trivial, ⟨⟨rfl, trivial⟩, ⟨⟨rfl, trivial⟩, ⟨trivial, ⟨trivial, (Exists.elim k8 fun x15 h15 => ⟨x15, (And.elim (fun h16 k16 => ⟨⟨⟨⟨trivial, ⟨trivial, ⟨trivial, ⟨trivial, trivial⟩⟩⟩⟩, ⟨trivial, ⟨trivial, trivial⟩⟩⟩, ⟨trivial, h16⟩⟩, ⟨trivial, ⟨trivial, ⟨trivial, ⟨trivial, ⟨⟨rfl, trivial⟩, ⟨trivial, ⟨trivial, ⟨trivial, ⟨trivial, (And.elim (fun h26 k26 => ⟨(fun x27 => (fun h27 => ⟨trivial, ⟨rfl, ⟨⟨rfl, trivial⟩, ⟨rfl, ⟨trivial, ⟨trivial, ⟨trivial, (And.elim (fun h35 k35 => ⟨(fun x36 => (fun h36 => ⟨trivial, ⟨rfl, ⟨⟨rfl, trivial⟩, ⟨rfl, ⟨trivial, ⟨rfl, ⟨⟨rfl, trivial⟩, ⟨rfl, ⟨trivial, ⟨trivial, (And.elim (fun h47 k47 => ⟨(fun x48 => (fun h48 => ⟨trivial, ⟨trivial, ⟨⟨⟨trivial, ⟨Sub.refl _, trivial⟩⟩, trivial⟩, ((fun h52 => ⟨h52, trivial⟩) h48)⟩⟩⟩) (h47 x48)), (fun x48 => (fun h48 => ⟨trivial, ⟨⟨rfl, trivial⟩, ⟨trivial, (And.elim (fun h52 k52 => ⟨(fun x53 => (fun h53 => ⟨trivial, ⟨⟨rfl, trivial⟩, ⟨trivial, ⟨trivial, (And.elim (fun h58 k58 => ⟨(fun x59 => (fun h59 => ⟨trivial, ⟨rfl, ⟨⟨rfl, trivial⟩, ⟨rfl, ⟨trivial, ⟨trivial, (And.elim (fun h66 k66 => ⟨(fun x67 => (fun h67 => ⟨trivial, ⟨trivial, ⟨⟨⟨trivial, ⟨Sub.refl _, trivial⟩⟩, trivial⟩, ((fun h71 => ⟨h71, trivial⟩) h67)⟩⟩⟩) (h66 x67)), (fun x67 => (fun h67 => ⟨⟨⟨trivial, ⟨Sub.refl _, ⟨trivial, ⟨Sub.refl _, ⟨trivial, ⟨Sub.refl _, ⟨trivial, ⟨Sub.refl _, ⟨trivial, ⟨Sub.refl _, ⟨trivial, ⟨Sub.refl _, ⟨trivial, ⟨Sub.refl _, trivial⟩⟩⟩⟩⟩⟩⟩⟩⟩⟩⟩⟩⟩⟩, ⟨⟨trivial, ⟨trivial, ⟨trivial, ⟨trivial, trivial⟩⟩⟩⟩, ⟨SubB.refl _, ⟨⟨trivial, ⟨trivial, ⟨trivial, trivial⟩⟩⟩, ⟨SubB.refl _, trivial⟩⟩⟩⟩⟩, h67⟩) (k66 x67))⟩) h59)⟩⟩⟩⟩⟩⟩) (h58 x59)), (fun x59 => (fun h59 => ⟨rfl, ⟨rfl, ⟨rfl, ⟨rfl, ⟨rfl, ⟨trivial, ⟨rfl, ⟨trivial, ⟨trivial, ⟨⟨⟨trivial, ⟨Sub.refl _, trivial⟩⟩, trivial⟩, ((fun h70 => ⟨h70, trivial⟩) h59)⟩⟩⟩⟩⟩⟩⟩⟩⟩⟩) (k58 x59))⟩) h53)⟩⟩⟩⟩) (h52 x53)), (fun x53 => (fun h53 => ⟨trivial, ⟨⟨rfl, trivial⟩, ⟨trivial, ⟨trivial, ⟨trivial, ⟨trivial, (And.elim (fun h60 k60 => ⟨(fun x61 => (fun h61 => ⟨trivial, ⟨x61, ⟨⟨rfl, trivial⟩, ⟨x61, ⟨trivial, ⟨x61, ⟨trivial, ⟨x61, ⟨⟨rfl, trivial⟩, ⟨x61, (And.elim (fun h72 k72 => ⟨(And.elim (fun h73 k73 => ⟨h73, k73⟩) h72), ⟨x61, ⟨trivial, ⟨x61, ⟨trivial, ⟨x61, ⟨trivial, ⟨x61, ⟨trivial, (And.elim (fun h81 k81 => ⟨(fun x82 => (fun h82 => ⟨trivial, ⟨x82, ⟨⟨rfl, trivial⟩, ⟨x82, ⟨trivial, ⟨x82, ⟨⟨rfl, trivial⟩, ⟨x82, ⟨trivial, ⟨x82, (And.elim (fun h93 k93 => ⟨(fun x94 => (fun h94 => ⟨trivial, ⟨trivial, ⟨⟨⟨trivial, ⟨Sub.refl _, trivial⟩⟩, trivial⟩, ((fun h98 => ⟨h98, trivial⟩) h94)⟩⟩⟩) (h93 x94)), (fun x94 => (fun h94 => ⟨⟨⟨trivial, ⟨Sub.refl _, ⟨trivial, ⟨Sub.refl _, ⟨trivial, ⟨Sub.refl _, ⟨trivial, ⟨Sub.refl _, ⟨trivial, ⟨Sub.refl _, ⟨trivial, ⟨Sub.refl _, ⟨trivial, ⟨Sub.refl _, trivial⟩⟩⟩⟩⟩⟩⟩⟩⟩⟩⟩⟩⟩⟩, ⟨⟨trivial, ⟨trivial, ⟨trivial, ⟨trivial, trivial⟩⟩⟩⟩, ⟨SubB.refl _, ⟨⟨trivial, ⟨trivial, ⟨trivial, trivial⟩⟩⟩, ⟨SubB.refl _, trivial⟩⟩⟩⟩⟩, h94⟩) (k93 x94))⟩) h82)⟩⟩⟩⟩⟩⟩⟩⟩⟩⟩) (h81 x82)), (fun x82 => (fun h82 => ⟨rfl, ⟨x82, ⟨rfl, ⟨x82, ⟨rfl, ⟨x82, ⟨rfl, ⟨x82, ⟨rfl, ⟨x82, ⟨rfl, ⟨trivial, ⟨trivial, ⟨⟨⟨trivial, ⟨Sub.refl _, trivial⟩⟩, trivial⟩, ((fun h97 => ⟨h97, trivial⟩) h82)⟩⟩⟩⟩⟩⟩⟩⟩⟩⟩⟩⟩⟩⟩) (k81 x82))⟩) k72)⟩⟩⟩⟩⟩⟩⟩⟩⟩) h61)⟩⟩⟩⟩⟩⟩⟩⟩⟩⟩) (h60 x61)), (fun x61 => (fun h61 => ⟨rfl, ⟨x61, ⟨rfl, ⟨x61, ⟨rfl, ⟨x61, ⟨rfl, ⟨x61, ⟨rfl, ⟨x61, ⟨rfl, ⟨x61, ⟨rfl, ⟨x61, ⟨rfl, ⟨x61, ⟨rfl, ⟨x61, ⟨trivial, ⟨rfl, ⟨rfl, ⟨rfl, ⟨rfl, ⟨rfl, ⟨rfl, ⟨rfl, ⟨rfl, ⟨rfl, ⟨rfl, ⟨rfl, ⟨rfl, ⟨trivial, ⟨trivial, ⟨⟨⟨trivial, ⟨Sub.refl _, trivial⟩⟩, trivial⟩, ((fun h96 => ⟨h96, trivial⟩) h61)⟩⟩⟩⟩⟩⟩⟩⟩⟩⟩⟩⟩⟩⟩⟩⟩⟩⟩⟩⟩⟩⟩⟩⟩⟩⟩⟩⟩⟩⟩⟩⟩⟩⟩) (k60 x61))⟩) h53)⟩⟩⟩⟩⟩⟩) (k52 x53))⟩) h48)⟩⟩⟩) (k47 x48))⟩) h36)⟩⟩⟩⟩⟩⟩⟩⟩⟩⟩) (h35 x36)), (fun x36 => (fun h36 => ⟨rfl, ⟨rfl, ⟨rfl, ⟨rfl, ⟨rfl, ⟨rfl, ⟨rfl, ⟨rfl, ⟨rfl, ⟨trivial, ⟨rfl, ⟨trivial, ⟨trivial, ⟨⟨⟨trivial, ⟨Sub.refl _, trivial⟩⟩, trivial⟩, ((fun h51 => ⟨h51, trivial⟩) h36)⟩⟩⟩⟩⟩⟩⟩⟩⟩⟩⟩⟩⟩⟩) (k35 x36))⟩) h27)⟩⟩⟩⟩⟩⟩⟩) (h26 x27)), (fun x27 => (fun h27 => ⟨rfl, ⟨rfl, ⟨rfl, ⟨rfl, ⟨rfl, ⟨trivial, ⟨trivial, ⟨rfl, ⟨rfl, ⟨rfl, ⟨rfl, ⟨rfl, ⟨rfl, ⟨rfl, ⟨rfl, ⟨rfl, ⟨rfl, ⟨trivial, ⟨rfl, ⟨trivial, ⟨trivial, ⟨⟨⟨trivial, ⟨Sub.refl _, trivial⟩⟩, trivial⟩, ((fun h50 => ⟨h50, trivial⟩) h27)⟩⟩⟩⟩⟩⟩⟩⟩⟩⟩⟩⟩⟩⟩⟩⟩⟩⟩⟩⟩⟩⟩) (k26 x27))⟩) k16)⟩⟩⟩⟩⟩⟩⟩⟩⟩⟩) h15)⟩)⟩⟩⟩⟩⟩⟩⟩) h5)⟩⟩) (h4 x5)), (fun x5 => (fun h5 => ⟨trivial, ⟨trivial, ⟨trivial, ⟨trivial, ⟨trivial, (And.elim (fun h11 k11 => ⟨(fun x12 => (fun h12 => (Exists.elim h12 fun x13 h13 => ⟨x13, (And.elim (fun h14 k14 => ⟨⟨trivial, ⟨trivial, h14⟩⟩, ⟨trivial, ⟨trivial, ⟨trivial, ⟨⟨⟨trivial, ⟨Sub.refl _, trivial⟩⟩, trivial⟩, ((fun h19 => ⟨h19, trivial⟩) k14)⟩⟩⟩⟩⟩) h13)⟩)) (h11 x12)), (fun x12 => (fun h12 => ⟨rfl, ⟨trivial, ⟨trivial, ⟨trivial, ⟨⟨⟨trivial, ⟨Sub.refl _, trivial⟩⟩, trivial⟩, ((fun h18 => ⟨h18, trivial⟩) h12)⟩⟩⟩⟩⟩) (k11 x12))⟩) h5)⟩⟩⟩⟩⟩) (k4 x5))⟩) h)⟩⟩⟩⟩)
theorem r6_1 (rulesn : Nat) (rulesfa : Nat → Int) (rulesfbaa : Nat → Int) (rulesfbabaf : Nat → Nat → Int) (text : ByteArray) (ln : Nat) (lfa : Nat → Int) (lfba : Nat → Int) (lfbba : Nat → Int) (at_ : Int) (i : Int) (b0a : Int) (b0baf : Nat → Int) (b0bban : Nat) (b0bbafn : Nat → Nat) (b0bbaff : Nat → Nat → Int) (b0bbban : Nat) (b0bbbaf : Nat → Int) (b1a : Int) (b1ba : Int) (b1bba : Int) (res : AV)
    (h : (decide (b1ba > IntKind.i64.wrap ((↑text.size : Int) - at_)) = true → Sub (AV.sc (Value.bool false)) res) ∧
  (decide (b1ba > IntKind.i64.wrap ((↑text.size : Int) - at_)) = false →
    L6_2 rulesn rulesfa rulesfbaa rulesfbabaf text ln lfa lfba lfbba (IntKind.i64.wrap (at_ + b1ba)) i b0a b0baf b0bban b0bbafn b0bbaff b0bbban b0bbbaf res)) :
    L6_1 rulesn rulesfa rulesfbaa rulesfbabaf text ln lfa lfba lfbba at_ i b0a b0baf b0bban b0bbafn b0bbaff b0bbban b0bbbaf b1a b1ba b1bba res :=
  rule Go.Am.Seat.tabOk 6 [] Go.Proofs.Try.f6 hf6 [1, 1, 1, 1, 1, 0, 1, 0, 0, 1, 0, 0, 1, 1, 1, 1] (s6_1 rulesn rulesfa rulesfbaa rulesfbabaf text ln lfa lfba lfbba at_ i b0a b0baf b0bban b0bbafn b0bbaff b0bbban b0bbbaf b1a b1ba b1bba) (m6_1 rulesn rulesfa rulesfbaa rulesfbabaf text ln lfa lfba lfbba at_ i b0a b0baf b0bban b0bbafn b0bbaff b0bbban b0bbbaf b1a b1ba b1bba) res [] 400
    ((Orc.fin (AV.sc (Value.bool false)) [] []).br
  (Orc.cut (nat_lit 3)
    (s6_2 rulesn rulesfa rulesfbaa rulesfbabaf text ln lfa lfba lfbba (IntKind.i64.wrap (at_ + b1ba)) i b0a b0baf b0bban b0bbafn b0bbaff b0bbban b0bbbaf)
    (m6_2 rulesn rulesfa rulesfbaa rulesfbabaf text ln lfa lfba lfbba (IntKind.i64.wrap (at_ + b1ba)) i b0a b0baf b0bban b0bbafn b0bbaff b0bbban b0bbbaf)
    [((1000 : Nat), some (1000 : Nat))])) _ _ (by kernel_rfl) (by kernel_rfl) (show True ∧
  ((1 : Nat) + (0 : Nat) = plus (0 : Nat) (1 : Nat) ∧ True) ∧
    True ∧
    True ∧
    True ∧
    True ∧
    True ∧
    (decide (b1ba > IntKind.i64.wrap ((↑text.size : Int) - at_)) = true →
    True ∧
    True ∧
    ((True ∧ Sub (AV.sc (Value.bool false)) (AV.sc (Value.bool false)) ∧ True) ∧ True) ∧ Sub (AV.sc (Value.bool false)) res ∧ SubOut [] []) ∧
    (decide (b1ba > IntKind.i64.wrap ((↑text.size : Int) - at_)) = false →
    True ∧
    True ∧
    ((1 : Nat) + (0 : Nat) = plus (0 : Nat) (1 : Nat) ∧ True) ∧
    True ∧
    True ∧
    ((True ∧
    Sub
    (AV.vec true (7 : Nat) rulesn rulesn fun (i0 : Nat) =>
    AV.cons (1 : Nat) (AV.sc (Value.int IntKind.i64 (rulesfa i0)))
    (AV.cons (6 : Nat)
    (AV.cons (1 : Nat) (AV.sc (Value.int IntKind.i64 (rulesfbaa i0)))
    (AV.cons (4 : Nat) (AV.ar (4 : Nat) (1 : Nat) fun (i1 : Nat) => AV.sc (Value.int IntKind.u64 (rulesfbabaf i0 i1)))
    (AV.cons (1 : Nat) AV.undef AV.nil)))
    AV.nil))
    (AV.vec true (7 : Nat) rulesn rulesn fun (i0 : Nat) =>
    AV.cons (1 : Nat) (AV.sc (Value.int IntKind.i64 (rulesfa i0)))
    (AV.cons (6 : Nat)
    (AV.cons (1 : Nat) (AV.sc (Value.int IntKind.i64 (rulesfbaa i0)))
    (AV.cons (4 : Nat) (AV.ar (4 : Nat) (1 : Nat) fun (i1 : Nat) => AV.sc (Value.int IntKind.u64 (rulesfbabaf i0 i1)))
    (AV.cons (1 : Nat) AV.undef AV.nil)))
    AV.nil)) ∧
    True ∧
    Sub (AV.sc (Value.string text)) (AV.sc (Value.string text)) ∧
    True ∧
    Sub (AV.pt (1000 : Nat) [] (0 : Nat)) (AV.pt (1000 : Nat) [] (0 : Nat)) ∧
    True ∧
    Sub
    (AV.vec false (3 : Nat) ln ln fun (i0 : Nat) =>
    AV.cons (1 : Nat) (AV.sc (Value.int IntKind.i64 (lfa i0)))
    (AV.cons (1 : Nat) (AV.sc (Value.int IntKind.i64 (lfba i0)))
    (AV.cons (1 : Nat) (AV.sc (Value.int IntKind.i64 (lfbba i0))) AV.nil)))
    (AV.vec false (3 : Nat) ln ln fun (i0 : Nat) =>
    AV.cons (1 : Nat) (AV.sc (Value.int IntKind.i64 (lfa i0)))
    (AV.cons (1 : Nat) (AV.sc (Value.int IntKind.i64 (lfba i0)))
    (AV.cons (1 : Nat) (AV.sc (Value.int IntKind.i64 (lfbba i0))) AV.nil))) ∧
    True ∧
    Sub (AV.sc (Value.int IntKind.i64 (IntKind.i64.wrap (at_ + b1ba))))
    (AV.sc (Value.int IntKind.i64 (IntKind.i64.wrap (at_ + b1ba)))) ∧
    True ∧ Sub (AV.sc (Value.int IntKind.i64 i)) (AV.sc (Value.int IntKind.i64 i)) ∧ True) ∧
    (True ∧ True ∧ True ∧ True ∧ True) ∧
    SubB
    (AV.cons (1 : Nat) (AV.sc (Value.int IntKind.i64 b0a))
    (AV.cons (256 : Nat) (AV.ar (256 : Nat) (1 : Nat) fun (i0 : Nat) => AV.sc (Value.int IntKind.u8 (b0baf i0)))
    (AV.cons (1 : Nat)
    (AV.vec true (1 : Nat) b0bban b0bban fun (i0 : Nat) =>
    AV.vec true (1 : Nat) (b0bbafn i0) (b0bbafn i0) fun (i1 : Nat) => AV.sc (Value.int IntKind.i64 (b0bbaff i0 i1)))
    (AV.cons (1 : Nat)
    (AV.vec true (1 : Nat) b0bbban b0bbban fun (i0 : Nat) => AV.sc (Value.int IntKind.i64 (b0bbbaf i0))) AV.nil))))
    (AV.cons (1 : Nat) (AV.sc (Value.int IntKind.i64 b0a))
    (AV.cons (256 : Nat) (AV.ar (256 : Nat) (1 : Nat) fun (i0 : Nat) => AV.sc (Value.int IntKind.u8 (b0baf i0)))
    (AV.cons (1 : Nat)
    (AV.vec true (1 : Nat) b0bban b0bban fun (i0 : Nat) =>
    AV.vec true (1 : Nat) (b0bbafn i0) (b0bbafn i0) fun (i1 : Nat) => AV.sc (Value.int IntKind.i64 (b0bbaff i0 i1)))
    (AV.cons (1 : Nat)
    (AV.vec true (1 : Nat) b0bbban b0bbban fun (i0 : Nat) => AV.sc (Value.int IntKind.i64 (b0bbbaf i0))) AV.nil)))) ∧
    True) ∧
    L6_2 rulesn rulesfa rulesfbaa rulesfbabaf text ln lfa lfba lfbba (IntKind.i64.wrap (at_ + b1ba)) i b0a b0baf b0bban b0bbafn
    b0bbaff b0bbban b0bbbaf res) from
    ⟨trivial, ⟨⟨rfl, trivial⟩, ⟨trivial, ⟨trivial, ⟨trivial, ⟨trivial, ⟨trivial, (And.elim (fun h7 k7 => ⟨(fun x8 => (fun h8 => ⟨trivial, ⟨trivial, ⟨⟨⟨trivial, ⟨Sub.refl _, trivial⟩⟩, trivial⟩, ((fun h12 => ⟨h12, trivial⟩) h8)⟩⟩⟩) (h7 x8)), (fun x8 => (fun h8 => ⟨trivial, ⟨trivial, ⟨⟨rfl, trivial⟩, ⟨trivial, ⟨trivial, ⟨⟨⟨trivial, ⟨Sub.refl _, ⟨trivial, ⟨Sub.refl _, ⟨trivial, ⟨Sub.refl _, ⟨trivial, ⟨Sub.refl _, ⟨trivial, ⟨Sub.refl _, ⟨trivial, ⟨Sub.refl _, trivial⟩⟩⟩⟩⟩⟩⟩⟩⟩⟩⟩⟩, ⟨⟨trivial, ⟨trivial, ⟨trivial, ⟨trivial, trivial⟩⟩⟩⟩, ⟨SubB.refl _, trivial⟩⟩⟩, h8⟩⟩⟩⟩⟩⟩) (k7 x8))⟩) h)⟩⟩⟩⟩⟩⟩⟩)
theorem r6_2 (rulesn : Nat) (rulesfa : Nat → Int) (rulesfbaa : Nat → Int) (rulesfbabaf : Nat → Nat → Int) (text : ByteArray) (ln : Nat) (lfa : Nat → Int) (lfba : Nat → Int) (lfbba : Nat → Int) (at_ : Int) (i : Int) (b0a : Int) (b0baf : Nat → Int) (b0bban : Nat) (b0bbafn : Nat → Nat) (b0bbaff : Nat → Nat → Int) (b0bbban : Nat) (b0bbbaf : Nat → Int) (res : AV)
    (h : L6_0 rulesn rulesfa rulesfbaa rulesfbabaf text ln lfa lfba lfbba at_ (IntKind.i64.wrap (i + (1 : Int))) b0a b0baf b0bban b0bbafn b0bbaff b0bbban b0bbbaf res) :
    L6_2 rulesn rulesfa rulesfbaa rulesfbabaf text ln lfa lfba lfbba at_ i b0a b0baf b0bban b0bbafn b0bbaff b0bbban b0bbbaf res :=
  rule Go.Am.Seat.tabOk 6 [] Go.Proofs.Try.f6 hf6 [1, 1, 1, 1, 1, 0, 1, 0, 0, 1, 1] (s6_2 rulesn rulesfa rulesfbaa rulesfbabaf text ln lfa lfba lfbba at_ i b0a b0baf b0bban b0bbafn b0bbaff b0bbban b0bbbaf) (m6_2 rulesn rulesfa rulesfbaa rulesfbabaf text ln lfa lfba lfbba at_ i b0a b0baf b0bban b0bbafn b0bbaff b0bbban b0bbbaf) res [] 400
    (Orc.cut (nat_lit 2)
  (s6_0 rulesn rulesfa rulesfbaa rulesfbabaf text ln lfa lfba lfbba at_ (IntKind.i64.wrap (i + (1 : Int))) b0a b0baf b0bban b0bbafn b0bbaff b0bbban b0bbbaf)
  (m6_0 rulesn rulesfa rulesfbaa rulesfbabaf text ln lfa lfba lfbba at_ (IntKind.i64.wrap (i + (1 : Int))) b0a b0baf b0bban b0bbafn b0bbaff b0bbban b0bbbaf)
  [((1000 : Nat), some (1000 : Nat))]) _ _ (by kernel_rfl) (by kernel_rfl) (show True ∧
  True ∧
    True ∧
    ((True ∧
    Sub
    (AV.vec true (7 : Nat) rulesn rulesn fun (i0 : Nat) =>
    AV.cons (1 : Nat) (AV.sc (Value.int IntKind.i64 (rulesfa i0)))
    (AV.cons (6 : Nat)
    (AV.cons (1 : Nat) (AV.sc (Value.int IntKind.i64 (rulesfbaa i0)))
    (AV.cons (4 : Nat) (AV.ar (4 : Nat) (1 : Nat) fun (i1 : Nat) => AV.sc (Value.int IntKind.u64 (rulesfbabaf i0 i1)))
    (AV.cons (1 : Nat) AV.undef AV.nil)))
    AV.nil))
    (AV.vec true (7 : Nat) rulesn rulesn fun (i0 : Nat) =>
    AV.cons (1 : Nat) (AV.sc (Value.int IntKind.i64 (rulesfa i0)))
    (AV.cons (6 : Nat)
    (AV.cons (1 : Nat) (AV.sc (Value.int IntKind.i64 (rulesfbaa i0)))
    (AV.cons (4 : Nat) (AV.ar (4 : Nat) (1 : Nat) fun (i1 : Nat) => AV.sc (Value.int IntKind.u64 (rulesfbabaf i0 i1)))
    (AV.cons (1 : Nat) AV.undef AV.nil)))
    AV.nil)) ∧
    True ∧
    Sub (AV.sc (Value.string text)) (AV.sc (Value.string text)) ∧
    True ∧
    Sub (AV.pt (1000 : Nat) [] (0 : Nat)) (AV.pt (1000 : Nat) [] (0 : Nat)) ∧
    True ∧
    Sub
    (AV.vec false (3 : Nat) ln ln fun (i0 : Nat) =>
    AV.cons (1 : Nat) (AV.sc (Value.int IntKind.i64 (lfa i0)))
    (AV.cons (1 : Nat) (AV.sc (Value.int IntKind.i64 (lfba i0)))
    (AV.cons (1 : Nat) (AV.sc (Value.int IntKind.i64 (lfbba i0))) AV.nil)))
    (AV.vec false (3 : Nat) ln ln fun (i0 : Nat) =>
    AV.cons (1 : Nat) (AV.sc (Value.int IntKind.i64 (lfa i0)))
    (AV.cons (1 : Nat) (AV.sc (Value.int IntKind.i64 (lfba i0)))
    (AV.cons (1 : Nat) (AV.sc (Value.int IntKind.i64 (lfbba i0))) AV.nil))) ∧
    True ∧
    Sub (AV.sc (Value.int IntKind.i64 at_)) (AV.sc (Value.int IntKind.i64 at_)) ∧
    True ∧
    Sub (AV.sc (Value.int IntKind.i64 (IntKind.i64.wrap (i + (1 : Int)))))
    (AV.sc (Value.int IntKind.i64 (IntKind.i64.wrap (i + (1 : Int))))) ∧
    True) ∧
    (True ∧ True ∧ True ∧ True ∧ True) ∧
    SubB
    (AV.cons (1 : Nat) (AV.sc (Value.int IntKind.i64 b0a))
    (AV.cons (256 : Nat) (AV.ar (256 : Nat) (1 : Nat) fun (i0 : Nat) => AV.sc (Value.int IntKind.u8 (b0baf i0)))
    (AV.cons (1 : Nat)
    (AV.vec true (1 : Nat) b0bban b0bban fun (i0 : Nat) =>
    AV.vec true (1 : Nat) (b0bbafn i0) (b0bbafn i0) fun (i1 : Nat) => AV.sc (Value.int IntKind.i64 (b0bbaff i0 i1)))
    (AV.cons (1 : Nat) (AV.vec true (1 : Nat) b0bbban b0bbban fun (i0 : Nat) => AV.sc (Value.int IntKind.i64 (b0bbbaf i0))) AV.nil))))
    (AV.cons (1 : Nat) (AV.sc (Value.int IntKind.i64 b0a))
    (AV.cons (256 : Nat) (AV.ar (256 : Nat) (1 : Nat) fun (i0 : Nat) => AV.sc (Value.int IntKind.u8 (b0baf i0)))
    (AV.cons (1 : Nat)
    (AV.vec true (1 : Nat) b0bban b0bban fun (i0 : Nat) =>
    AV.vec true (1 : Nat) (b0bbafn i0) (b0bbafn i0) fun (i1 : Nat) => AV.sc (Value.int IntKind.i64 (b0bbaff i0 i1)))
    (AV.cons (1 : Nat) (AV.vec true (1 : Nat) b0bbban b0bbban fun (i0 : Nat) => AV.sc (Value.int IntKind.i64 (b0bbbaf i0))) AV.nil)))) ∧
    True) ∧
    L6_0 rulesn rulesfa rulesfbaa rulesfbabaf text ln lfa lfba lfbba at_ (IntKind.i64.wrap (i + (1 : Int))) b0a b0baf b0bban b0bbafn b0bbaff b0bbban b0bbbaf
    res from
    ⟨trivial, ⟨trivial, ⟨trivial, ⟨⟨⟨trivial, ⟨Sub.refl _, ⟨trivial, ⟨Sub.refl _, ⟨trivial, ⟨Sub.refl _, ⟨trivial, ⟨Sub.refl _, ⟨trivial, ⟨Sub.refl _, ⟨trivial, ⟨Sub.refl _, trivial⟩⟩⟩⟩⟩⟩⟩⟩⟩⟩⟩⟩, ⟨⟨trivial, ⟨trivial, ⟨trivial, ⟨trivial, trivial⟩⟩⟩⟩, ⟨SubB.refl _, trivial⟩⟩⟩, h⟩⟩⟩⟩)
theorem hf15 : Go.Proofs.Try.prog.funcs[15]? = some Go.Proofs.Try.f15 := by kernel_rfl
abbrev s15_e (da : Int) (dbaf : Nat → Int) (dbban : Nat) (dbbafn : Nat → Nat) (dbbaff : Nat → Nat → Int) (dbbban : Nat) (dbbbaf : Nat → Int) (most : Int) : List (Nat × AV) := [(0, (.cons 1 (.sc (.int .i64 da)) (.cons 256 (.ar 256 1 (fun i0 => (.sc (.int .u8 (dbaf i0))))) (.cons 1 (.vec true 1 dbban dbban (fun i0 => (.vec true 1 (dbbafn i0) (dbbafn i0) (fun i1 => (.sc (.int .i64 (dbbaff i0 i1))))))) (.cons 1 (.vec true 1 dbbban dbbban (fun i0 => (.sc (.int .i64 (dbbbaf i0))))) .nil))))), (1, (.sc (.int .i64 most)))]
abbrev m15_e (da : Int) (dbaf : Nat → Int) (dbban : Nat) (dbbafn : Nat → Nat) (dbbaff : Nat → Nat → Int) (dbbban : Nat) (dbbbaf : Nat → Int) (most : Int) : List (Nat × Nat × AV) := []
def L15_e (da : Int) (dbaf : Nat → Int) (dbban : Nat) (dbbafn : Nat → Nat) (dbbaff : Nat → Nat → Int) (dbbban : Nat) (dbbbaf : Nat → Int) (most : Int) (res : AV) : Prop := Goes ⟨Go.Proofs.Try.prog, 15, [], res, []⟩ (place Go.Proofs.Try.f15 []) (s15_e da dbaf dbban dbbafn dbbaff dbbban dbbbaf most) (m15_e da dbaf dbban dbbafn dbbaff dbbban dbbbaf most)
theorem a15_e (da : Int) (dbaf : Nat → Int) (dbban : Nat) (dbbafn : Nat → Nat) (dbbaff : Nat → Nat → Int) (dbbban : Nat) (dbbbaf : Nat → Int) (most : Int) (res : AV) (h : (∀ slot, fact (look .undef (s15_e da dbaf dbban dbbafn dbbaff dbbban dbbbaf most) slot)) → L15_e da dbaf dbban dbbafn dbbaff dbbban dbbbaf most res) : L15_e da dbaf dbban dbbafn dbbaff dbbban dbbbaf most res :=
  assumeRule 15 [] Go.Proofs.Try.f15 hf15 [] (s15_e da dbaf dbban dbbafn dbbaff dbbban dbbbaf most) (m15_e da dbaf dbban dbbafn dbbaff dbbban dbbbaf most) res [] _ (by kernel_rfl) h
abbrev s15_0 (most : Int) (k : Int) (i : Int) (b0a : Int) (b0baf : Nat → Int) (b0bban : Nat) (b0bbafn : Nat → Nat) (b0bbaff : Nat → Nat → Int) (b0bbban : Nat) (b0bbbaf : Nat → Int) : List (Nat × AV) := [(1, (.sc (.int .i64 most))), (2, (.pt 1000 [] 0)), (5, (.sc (.int .i64 k))), (6, (.sc (.int .i64 i)))]
abbrev m15_0 (most : Int) (k : Int) (i : Int) (b0a : Int) (b0baf : Nat → Int) (b0bban : Nat) (b0bbafn : Nat → Nat) (b0bbaff : Nat → Nat → Int) (b0bbban : Nat) (b0bbbaf : Nat → Int) : List (Nat × Nat × AV) := [(1000, 26, (.cons 1 (.sc (.int .i64 b0a)) (.cons 256 (.ar 256 1 (fun i0 => (.sc (.int .u8 (b0baf i0))))) (.cons 1 (.vec true 1 b0bban b0bban (fun i0 => (.vec true 1 (b0bbafn i0) (b0bbafn i0) (fun i1 => (.sc (.int .i64 (b0bbaff i0 i1))))))) (.cons 1 (.vec true 1 b0bbban b0bbban (fun i0 => (.sc (.int .i64 (b0bbbaf i0))))) .nil)))))]
def L15_0 (most : Int) (k : Int) (i : Int) (b0a : Int) (b0baf : Nat → Int) (b0bban : Nat) (b0bbafn : Nat → Nat) (b0bbaff : Nat → Nat → Int) (b0bbban : Nat) (b0bbbaf : Nat → Int) (res : AV) : Prop := Goes ⟨Go.Proofs.Try.prog, 15, [], res, []⟩ (place Go.Proofs.Try.f15 [1, 1, 0, 1, 0, 0]) (s15_0 most k i b0a b0baf b0bban b0bbafn b0bbaff b0bbban b0bbbaf) (m15_0 most k i b0a b0baf b0bban b0bbafn b0bbaff b0bbban b0bbbaf)
theorem a15_0 (most : Int) (k : Int) (i : Int) (b0a : Int) (b0baf : Nat → Int) (b0bban : Nat) (b0bbafn : Nat → Nat) (b0bbaff : Nat → Nat → Int) (b0bbban : Nat) (b0bbbaf : Nat → Int) (res : AV) (h : (∀ slot, fact (look .undef (s15_0 most k i b0a b0baf b0bban b0bbafn b0bbaff b0bbban b0bbbaf) slot)) → L15_0 most k i b0a b0baf b0bban b0bbafn b0bbaff b0bbban b0bbbaf res) : L15_0 most k i b0a b0baf b0bban b0bbafn b0bbaff b0bbban b0bbbaf res :=
  assumeRule 15 [] Go.Proofs.Try.f15 hf15 [1, 1, 0, 1, 0, 0] (s15_0 most k i b0a b0baf b0bban b0bbafn b0bbaff b0bbban b0bbbaf) (m15_0 most k i b0a b0baf b0bban b0bbafn b0bbaff b0bbban b0bbbaf) res [] _ (by kernel_rfl) h
theorem o15 (da : Int) (dbaf : Nat → Int) (dbban : Nat) (dbbafn : Nat → Nat) (dbbaff : Nat → Nat → Int) (dbbban : Nat) (dbbbaf : Nat → Int) (most : Int) (res : AV) (hnew : newOnly res) (h : L15_e da dbaf dbban dbbafn dbbaff dbbban dbbbaf most res) : Ok Go.Proofs.Try.prog 15 [(.cons 1 (.sc (.int .i64 da)) (.cons 256 (.ar 256 1 (fun i0 => (.sc (.int .u8 (dbaf i0))))) (.cons 1 (.vec true 1 dbban dbban (fun i0 => (.vec true 1 (dbbafn i0) (dbbafn i0) (fun i1 => (.sc (.int .i64 (dbbaff i0 i1))))))) (.cons 1 (.vec true 1 dbbban dbbban (fun i0 => (.sc (.int .i64 (dbbbaf i0))))) .nil)))), (.sc (.int .i64 most))] [] res [] :=
  okRule2 15 Go.Proofs.Try.f15 hf15 [(.cons 1 (.sc (.int .i64 da)) (.cons 256 (.ar 256 1 (fun i0 => (.sc (.int .u8 (dbaf i0))))) (.cons 1 (.vec true 1 dbban dbban (fun i0 => (.vec true 1 (dbbafn i0) (dbbafn i0) (fun i1 => (.sc (.int .i64 (dbbaff i0 i1))))))) (.cons 1 (.vec true 1 dbbban dbbban (fun i0 => (.sc (.int .i64 (dbbbaf i0))))) .nil)))), (.sc (.int .i64 most))] [] res [] [] rfl (by kernel_rfl) (by kernel_rfl) (by kernel_rfl) ⟨hnew, by simp⟩ (L15_e da dbaf dbban dbbafn dbbaff dbbban dbbbaf most res) (by kernel_rfl) h
theorem r15_e (da : Int) (dbaf : Nat → Int) (dbban : Nat) (dbbafn : Nat → Nat) (dbbaff : Nat → Nat → Int) (dbbban : Nat) (dbbbaf : Nat → Int) (most : Int) (res : AV)
    (h : L15_0 most
  (IntKind.i64.wrap
    ((if false = true then if IntKind.i64.wrap (most + (1 : Int)) > (↑dbban : Int) then IntKind.i64.wrap (most + (1 : Int)) else (↑dbban : Int)
    else if IntKind.i64.wrap (most + (1 : Int)) < (↑dbban : Int) then IntKind.i64.wrap (most + (1 : Int)) else (↑dbban : Int)) +
    if false = true then if IntKind.i64.wrap (most + (1 : Int)) > (↑dbbban : Int) then IntKind.i64.wrap (most + (1 : Int)) else (↑dbbban : Int)
    else if IntKind.i64.wrap (most + (1 : Int)) < (↑dbbban : Int) then IntKind.i64.wrap (most + (1 : Int)) else (↑dbbban : Int)))
  (0 : Int) da dbaf dbban dbbafn dbbaff dbbban dbbbaf res) :
    L15_e da dbaf dbban dbbafn dbbaff dbbban dbbbaf most res :=
  rule Go.Am.Seat.tabOk 15 [] Go.Proofs.Try.f15 hf15 [] (s15_e da dbaf dbban dbbafn dbbaff dbbban dbbbaf most) (m15_e da dbaf dbban dbbafn dbbaff dbbban dbbbaf most) res [] 400
    (Orc.cut (nat_lit 9)
  (s15_0 most
    (IntKind.i64.wrap
    ((if false = true then if IntKind.i64.wrap (most + (1 : Int)) > (↑dbban : Int) then IntKind.i64.wrap (most + (1 : Int)) else (↑dbban : Int)
    else if IntKind.i64.wrap (most + (1 : Int)) < (↑dbban : Int) then IntKind.i64.wrap (most + (1 : Int)) else (↑dbban : Int)) +
    if false = true then if IntKind.i64.wrap (most + (1 : Int)) > (↑dbbban : Int) then IntKind.i64.wrap (most + (1 : Int)) else (↑dbbban : Int)
    else if IntKind.i64.wrap (most + (1 : Int)) < (↑dbbban : Int) then IntKind.i64.wrap (most + (1 : Int)) else (↑dbbban : Int)))
    (0 : Int) da dbaf dbban dbbafn dbbaff dbbban dbbbaf)
  (m15_0 most
    (IntKind.i64.wrap
    ((if false = true then if IntKind.i64.wrap (most + (1 : Int)) > (↑dbban : Int) then IntKind.i64.wrap (most + (1 : Int)) else (↑dbban : Int)
    else if IntKind.i64.wrap (most + (1 : Int)) < (↑dbban : Int) then IntKind.i64.wrap (most + (1 : Int)) else (↑dbban : Int)) +
    if false = true then if IntKind.i64.wrap (most + (1 : Int)) > (↑dbbban : Int) then IntKind.i64.wrap (most + (1 : Int)) else (↑dbbban : Int)
    else if IntKind.i64.wrap (most + (1 : Int)) < (↑dbbban : Int) then IntKind.i64.wrap (most + (1 : Int)) else (↑dbbban : Int)))
    (0 : Int) da dbaf dbban dbbafn dbbaff dbbban dbbbaf)
  [((1000 : Nat), some (2 : Nat))]) _ _ (by kernel_rfl) (by kernel_rfl) (show True ∧
  True ∧
    True ∧
    ((1 : Nat) + ((256 : Nat) + (0 : Nat)) = plus (0 : Nat) (257 : Nat) ∧ True) ∧
    True ∧
    True ∧
    True ∧
    True ∧
    True ∧
    ((1 : Nat) + ((256 : Nat) + ((1 : Nat) + (0 : Nat))) = plus (0 : Nat) (258 : Nat) ∧ True) ∧
    True ∧
    True ∧
    True ∧
    True ∧
    True ∧
    True ∧
    True ∧
    ((True ∧
    Sub (AV.sc (Value.int IntKind.i64 most)) (AV.sc (Value.int IntKind.i64 most)) ∧
    True ∧
    Sub (AV.pt (1000 : Nat) [] (0 : Nat)) (AV.pt (1000 : Nat) [] (0 : Nat)) ∧
    True ∧
    Sub
    (AV.sc
    (Value.int IntKind.i64
    (IntKind.i64.wrap
    ((if false = true then
    if IntKind.i64.wrap (most + (1 : Int)) > (↑dbban : Int) then IntKind.i64.wrap (most + (1 : Int))
    else (↑dbban : Int)
    else
    if IntKind.i64.wrap (most + (1 : Int)) < (↑dbban : Int) then IntKind.i64.wrap (most + (1 : Int))
    else (↑dbban : Int)) +
    if false = true then
    if IntKind.i64.wrap (most + (1 : Int)) > (↑dbbban : Int) then IntKind.i64.wrap (most + (1 : Int))
    else (↑dbbban : Int)
    else
    if IntKind.i64.wrap (most + (1 : Int)) < (↑dbbban : Int) then IntKind.i64.wrap (most + (1 : Int))
    else (↑dbbban : Int)))))
    (AV.sc
    (Value.int IntKind.i64
    (IntKind.i64.wrap
    ((if false = true then
    if IntKind.i64.wrap (most + (1 : Int)) > (↑dbban : Int) then IntKind.i64.wrap (most + (1 : Int))
    else (↑dbban : Int)
    else
    if IntKind.i64.wrap (most + (1 : Int)) < (↑dbban : Int) then IntKind.i64.wrap (most + (1 : Int))
    else (↑dbban : Int)) +
    if false = true then
    if IntKind.i64.wrap (most + (1 : Int)) > (↑dbbban : Int) then IntKind.i64.wrap (most + (1 : Int))
    else (↑dbbban : Int)
    else
    if IntKind.i64.wrap (most + (1 : Int)) < (↑dbbban : Int) then IntKind.i64.wrap (most + (1 : Int))
    else (↑dbbban : Int))))) ∧
    True ∧ Sub (AV.sc (Value.int IntKind.i64 (0 : Int))) (AV.sc (Value.int IntKind.i64 (0 : Int))) ∧ True) ∧
    (True ∧ True ∧ True ∧ True ∧ True) ∧
    SubB
    (AV.cons (1 : Nat) (AV.sc (Value.int IntKind.i64 da))
    (AV.cons (256 : Nat) (AV.ar (256 : Nat) (1 : Nat) fun (i0 : Nat) => AV.sc (Value.int IntKind.u8 (dbaf i0)))
    (AV.cons (1 : Nat)
    (AV.vec true (1 : Nat) dbban dbban fun (i0 : Nat) =>
    AV.vec true (1 : Nat) (dbbafn i0) (dbbafn i0) fun (i1 : Nat) =>
    AV.sc (Value.int IntKind.i64 (dbbaff i0 i1)))
    (AV.cons (1 : Nat)
    (AV.vec true (1 : Nat) dbbban dbbban fun (i0 : Nat) => AV.sc (Value.int IntKind.i64 (dbbbaf i0))) AV.nil))))
    (AV.cons (1 : Nat) (AV.sc (Value.int IntKind.i64 da))
    (AV.cons (256 : Nat) (AV.ar (256 : Nat) (1 : Nat) fun (i0 : Nat) => AV.sc (Value.int IntKind.u8 (dbaf i0)))
    (AV.cons (1 : Nat)
    (AV.vec true (1 : Nat) dbban dbban fun (i0 : Nat) =>
    AV.vec true (1 : Nat) (dbbafn i0) (dbbafn i0) fun (i1 : Nat) =>
    AV.sc (Value.int IntKind.i64 (dbbaff i0 i1)))
    (AV.cons (1 : Nat)
    (AV.vec true (1 : Nat) dbbban dbbban fun (i0 : Nat) => AV.sc (Value.int IntKind.i64 (dbbbaf i0)))
    AV.nil)))) ∧
    True) ∧
    L15_0 most
    (IntKind.i64.wrap
    ((if false = true then
    if IntKind.i64.wrap (most + (1 : Int)) > (↑dbban : Int) then IntKind.i64.wrap (most + (1 : Int)) else (↑dbban : Int)
    else
    if IntKind.i64.wrap (most + (1 : Int)) < (↑dbban : Int) then IntKind.i64.wrap (most + (1 : Int))
    else (↑dbban : Int)) +
    if false = true then
    if IntKind.i64.wrap (most + (1 : Int)) > (↑dbbban : Int) then IntKind.i64.wrap (most + (1 : Int))
    else (↑dbbban : Int)
    else
    if IntKind.i64.wrap (most + (1 : Int)) < (↑dbbban : Int) then IntKind.i64.wrap (most + (1 : Int))
    else (↑dbbban : Int)))
    (0 : Int) da dbaf dbban dbbafn dbbaff dbbban dbbbaf res from
    ⟨trivial, ⟨trivial, ⟨trivial, ⟨⟨rfl, trivial⟩, ⟨trivial, ⟨trivial, ⟨trivial, ⟨trivial, ⟨trivial, ⟨⟨rfl, trivial⟩, ⟨trivial, ⟨trivial, ⟨trivial, ⟨trivial, ⟨trivial, ⟨trivial, ⟨trivial, ⟨⟨⟨trivial, ⟨Sub.refl _, ⟨trivial, ⟨Sub.refl _, ⟨trivial, ⟨Sub.refl _, ⟨trivial, ⟨Sub.refl _, trivial⟩⟩⟩⟩⟩⟩⟩⟩, ⟨⟨trivial, ⟨trivial, ⟨trivial, ⟨trivial, trivial⟩⟩⟩⟩, ⟨SubB.refl _, trivial⟩⟩⟩, h⟩⟩⟩⟩⟩⟩⟩⟩⟩⟩⟩⟩⟩⟩⟩⟩⟩⟩)
theorem r15_0 (most : Int) (k : Int) (i : Int) (b0a : Int) (b0baf : Nat → Int) (b0bban : Nat) (b0bbafn : Nat → Nat) (b0bbaff : Nat → Nat → Int) (b0bbban : Nat) (b0bbbaf : Nat → Int) (res : AV)
    (h : (decide (i < (↑b0bban : Int)) = true →
    (decide (k ≤ most) = true →
    ((0 : Int) ≤ i ∧ i < (↑b0bban : Int)) ∧
    L15_0 most
    (IntKind.i64.wrap
    (k +
    if false = true then
    if IntKind.i64.wrap (most + (1 : Int)) > (↑(b0bbafn i.toNat) : Int) then IntKind.i64.wrap (most + (1 : Int)) else (↑(b0bbafn i.toNat) : Int)
    else
    if IntKind.i64.wrap (most + (1 : Int)) < (↑(b0bbafn i.toNat) : Int) then IntKind.i64.wrap (most + (1 : Int)) else (↑(b0bbafn i.toNat) : Int)))
    (IntKind.i64.wrap (i + (1 : Int))) b0a b0baf b0bban b0bbafn b0bbaff b0bbban b0bbbaf res) ∧
    (decide (k ≤ most) = false → Sub (AV.sc (Value.bool (decide (k > most)))) res)) ∧
  (decide (i < (↑b0bban : Int)) = !true → Sub (AV.sc (Value.bool (decide (k > most)))) res)) :
    L15_0 most k i b0a b0baf b0bban b0bbafn b0bbaff b0bbban b0bbbaf res :=
  rule Go.Am.Seat.tabOk 15 [] Go.Proofs.Try.f15 hf15 [1, 1, 0, 1, 0, 0] (s15_0 most k i b0a b0baf b0bban b0bbafn b0bbaff b0bbban b0bbbaf) (m15_0 most k i b0a b0baf b0bban b0bbafn b0bbaff b0bbban b0bbbaf) res [] 400
    (((Orc.cut (nat_lit 7)
    (s15_0 most
    (IntKind.i64.wrap
    (k +
    if false = true then
    if IntKind.i64.wrap (most + (1 : Int)) > (↑(b0bbafn i.toNat) : Int) then IntKind.i64.wrap (most + (1 : Int))
    else (↑(b0bbafn i.toNat) : Int)
    else
    if IntKind.i64.wrap (most + (1 : Int)) < (↑(b0bbafn i.toNat) : Int) then IntKind.i64.wrap (most + (1 : Int))
    else (↑(b0bbafn i.toNat) : Int)))
    (IntKind.i64.wrap (i + (1 : Int))) b0a b0baf b0bban b0bbafn b0bbaff b0bbban b0bbbaf)
    (m15_0 most
    (IntKind.i64.wrap
    (k +
    if false = true then
    if IntKind.i64.wrap (most + (1 : Int)) > (↑(b0bbafn i.toNat) : Int) then IntKind.i64.wrap (most + (1 : Int))
    else (↑(b0bbafn i.toNat) : Int)
    else
    if IntKind.i64.wrap (most + (1 : Int)) < (↑(b0bbafn i.toNat) : Int) then IntKind.i64.wrap (most + (1 : Int))
    else (↑(b0bbafn i.toNat) : Int)))
    (IntKind.i64.wrap (i + (1 : Int))) b0a b0baf b0bban b0bbafn b0bbaff b0bbban b0bbbaf)
    [((1000 : Nat), some (1000 : Nat))]).br
    (Orc.fin (AV.sc (Value.bool (decide (k > most)))) [] [])).yes.yes.br
  (Orc.fin (AV.sc (Value.bool (decide (k > most)))) [] []).no.no.no) _ _ (by kernel_rfl) (by kernel_rfl) (show True ∧
  True ∧
    ((1 : Nat) + ((256 : Nat) + (0 : Nat)) = plus (0 : Nat) (257 : Nat) ∧ True) ∧
    True ∧
    True ∧
    True ∧
    (decide (i < (↑b0bban : Int)) = true →
    True ∧
    true = true ∧
    True ∧
    true = true ∧
    True ∧
    True ∧
    (decide (k ≤ most) = true →
    True ∧
    True ∧
    ((1 : Nat) + ((256 : Nat) + (0 : Nat)) = plus (0 : Nat) (257 : Nat) ∧ True) ∧
    True ∧
    ((0 : Int) ≤ i ∧ i < (↑b0bban : Int)) ∧
    True ∧
    True ∧
    True ∧
    True ∧
    True ∧
    True ∧
    True ∧
    True ∧
    True ∧
    True ∧
    ((True ∧
    Sub (AV.sc (Value.int IntKind.i64 most)) (AV.sc (Value.int IntKind.i64 most)) ∧
    True ∧
    Sub (AV.pt (1000 : Nat) [] (0 : Nat)) (AV.pt (1000 : Nat) [] (0 : Nat)) ∧
    True ∧
    Sub
    (AV.sc
    (Value.int IntKind.i64
    (IntKind.i64.wrap
    (k +
    if false = true then
    if
    IntKind.i64.wrap (most + (1 : Int)) >
    (↑(b0bbafn i.toNat) : Int) then
    IntKind.i64.wrap (most + (1 : Int))
    else (↑(b0bbafn i.toNat) : Int)
    else
    if
    IntKind.i64.wrap (most + (1 : Int)) <
    (↑(b0bbafn i.toNat) : Int) then
    IntKind.i64.wrap (most + (1 : Int))
    else (↑(b0bbafn i.toNat) : Int)))))
    (AV.sc
    (Value.int IntKind.i64
    (IntKind.i64.wrap
    (k +
    if false = true then
    if
    IntKind.i64.wrap (most + (1 : Int)) >
    (↑(b0bbafn i.toNat) : Int) then
    IntKind.i64.wrap (most + (1 : Int))
    else (↑(b0bbafn i.toNat) : Int)
    else
    if
    IntKind.i64.wrap (most + (1 : Int)) <
    (↑(b0bbafn i.toNat) : Int) then
    IntKind.i64.wrap (most + (1 : Int))
    else (↑(b0bbafn i.toNat) : Int))))) ∧
    True ∧
    Sub (AV.sc (Value.int IntKind.i64 (IntKind.i64.wrap (i + (1 : Int)))))
    (AV.sc (Value.int IntKind.i64 (IntKind.i64.wrap (i + (1 : Int))))) ∧
    True) ∧
    (True ∧ True ∧ True ∧ True ∧ True) ∧
    SubB
    (AV.cons (1 : Nat) (AV.sc (Value.int IntKind.i64 b0a))
    (AV.cons (256 : Nat)
    (AV.ar (256 : Nat) (1 : Nat) fun (i0 : Nat) =>
    AV.sc (Value.int IntKind.u8 (b0baf i0)))
    (AV.cons (1 : Nat)
    (AV.vec true (1 : Nat) b0bban b0bban fun (i0 : Nat) =>
    AV.vec true (1 : Nat) (b0bbafn i0) (b0bbafn i0) fun (i1 : Nat) =>
    AV.sc (Value.int IntKind.i64 (b0bbaff i0 i1)))
    (AV.cons (1 : Nat)
    (AV.vec true (1 : Nat) b0bbban b0bbban fun (i0 : Nat) =>
    AV.sc (Value.int IntKind.i64 (b0bbbaf i0)))
    AV.nil))))
    (AV.cons (1 : Nat) (AV.sc (Value.int IntKind.i64 b0a))
    (AV.cons (256 : Nat)
    (AV.ar (256 : Nat) (1 : Nat) fun (i0 : Nat) =>
    AV.sc (Value.int IntKind.u8 (b0baf i0)))
    (AV.cons (1 : Nat)
    (AV.vec true (1 : Nat) b0bban b0bban fun (i0 : Nat) =>
    AV.vec true (1 : Nat) (b0bbafn i0) (b0bbafn i0) fun (i1 : Nat) =>
    AV.sc (Value.int IntKind.i64 (b0bbaff i0 i1)))
    (AV.cons (1 : Nat)
    (AV.vec true (1 : Nat) b0bbban b0bbban fun (i0 : Nat) =>
    AV.sc (Value.int IntKind.i64 (b0bbbaf i0)))
    AV.nil)))) ∧
    True) ∧
    L15_0 most
    (IntKind.i64.wrap
    (k +
    if false = true then
    if IntKind.i64.wrap (most + (1 : Int)) > (↑(b0bbafn i.toNat) : Int) then
    IntKind.i64.wrap (most + (1 : Int))
    else (↑(b0bbafn i.toNat) : Int)
    else
    if IntKind.i64.wrap (most + (1 : Int)) < (↑(b0bbafn i.toNat) : Int) then
    IntKind.i64.wrap (most + (1 : Int))
    else (↑(b0bbafn i.toNat) : Int)))
    (IntKind.i64.wrap (i + (1 : Int))) b0a b0baf b0bban b0bbafn b0bbaff b0bbban b0bbbaf res) ∧
    (decide (k ≤ most) = false →
    True ∧
    True ∧
    True ∧
    True ∧
    True ∧
    ((True ∧ Sub (AV.sc (Value.bool (decide (k > most)))) (AV.sc (Value.bool (decide (k > most)))) ∧ True) ∧ True) ∧
    Sub (AV.sc (Value.bool (decide (k > most)))) res ∧ SubOut [] [])) ∧
    (decide (i < (↑b0bban : Int)) = !true →
    true = true ∧
    (!true) = !true ∧
    true = true ∧
    (!true) = !true ∧
    true = true ∧
    True ∧
    false = false ∧
    True ∧
    True ∧
    True ∧
    True ∧
    True ∧
    ((True ∧ Sub (AV.sc (Value.bool (decide (k > most)))) (AV.sc (Value.bool (decide (k > most)))) ∧ True) ∧ True) ∧
    Sub (AV.sc (Value.bool (decide (k > most)))) res ∧ SubOut [] []) from
    ⟨trivial, ⟨trivial, ⟨⟨rfl, trivial⟩, ⟨trivial, ⟨trivial, ⟨trivial, (And.elim (fun h6 k6 => ⟨(fun x7 => (fun h7 => ⟨trivial, ⟨rfl, ⟨trivial, ⟨rfl, ⟨trivial, ⟨trivial, (And.elim (fun h14 k14 => ⟨(fun x15 => (fun h15 => ⟨trivial, ⟨trivial, ⟨⟨rfl, trivial⟩, ⟨trivial, (And.elim (fun h20 k20 => ⟨(And.elim (fun h21 k21 => ⟨h21, k21⟩) h20), ⟨trivial, ⟨trivial, ⟨trivial, ⟨trivial, ⟨trivial, ⟨trivial, ⟨trivial, ⟨trivial, ⟨trivial, ⟨trivial, ⟨⟨⟨trivial, ⟨Sub.refl _, ⟨trivial, ⟨Sub.refl _, ⟨trivial, ⟨Sub.refl _, ⟨trivial, ⟨Sub.refl _, trivial⟩⟩⟩⟩⟩⟩⟩⟩, ⟨⟨trivial, ⟨trivial, ⟨trivial, ⟨trivial, trivial⟩⟩⟩⟩, ⟨SubB.refl _, trivial⟩⟩⟩, k20⟩⟩⟩⟩⟩⟩⟩⟩⟩⟩⟩⟩) h15)⟩⟩⟩⟩) (h14 x15)), (fun x15 => (fun h15 => ⟨trivial, ⟨trivial, ⟨trivial, ⟨trivial, ⟨trivial, ⟨⟨⟨trivial, ⟨Sub.refl _, trivial⟩⟩, trivial⟩, ((fun h22 => ⟨h22, trivial⟩) h15)⟩⟩⟩⟩⟩⟩) (k14 x15))⟩) h7)⟩⟩⟩⟩⟩⟩) (h6 x7)), (fun x7 => (fun h7 => ⟨rfl, ⟨rfl, ⟨rfl, ⟨rfl, ⟨rfl, ⟨trivial, ⟨rfl, ⟨trivial, ⟨trivial, ⟨trivial, ⟨trivial, ⟨trivial, ⟨⟨⟨trivial, ⟨Sub.refl _, trivial⟩⟩, trivial⟩, ((fun h21 => ⟨h21, trivial⟩) h7)⟩⟩⟩⟩⟩⟩⟩⟩⟩⟩⟩⟩⟩) (k6 x7))⟩) h)⟩⟩⟩⟩⟩⟩)
theorem hf16 : Go.Proofs.Try.prog.funcs[16]? = some Go.Proofs.Try.f16 := by kernel_rfl
abbrev s16_e (da : Int) (dbaf : Nat → Int) (dbban : Nat) (dbbafn : Nat → Nat) (dbbaff : Nat → Nat → Int) (dbbban : Nat) (dbbbaf : Nat → Int) : List (Nat × AV) := [(0, (.cons 1 (.sc (.int .i64 da)) (.cons 256 (.ar 256 1 (fun i0 => (.sc (.int .u8 (dbaf i0))))) (.cons 1 (.vec true 1 dbban dbban (fun i0 => (.vec true 1 (dbbafn i0) (dbbafn i0) (fun i1 => (.sc (.int .i64 (dbbaff i0 i1))))))) (.cons 1 (.vec true 1 dbbban dbbban (fun i0 => (.sc (.int .i64 (dbbbaf i0))))) .nil)))))]
abbrev m16_e (da : Int) (dbaf : Nat → Int) (dbban : Nat) (dbbafn : Nat → Nat) (dbbaff : Nat → Nat → Int) (dbbban : Nat) (dbbbaf : Nat → Int) : List (Nat × Nat × AV) := []
def L16_e (da : Int) (dbaf : Nat → Int) (dbban : Nat) (dbbafn : Nat → Nat) (dbbaff : Nat → Nat → Int) (dbbban : Nat) (dbbbaf : Nat → Int) (res : AV) : Prop := Goes ⟨Go.Proofs.Try.prog, 16, [], res, []⟩ (place Go.Proofs.Try.f16 []) (s16_e da dbaf dbban dbbafn dbbaff dbbban dbbbaf) (m16_e da dbaf dbban dbbafn dbbaff dbbban dbbbaf)
theorem a16_e (da : Int) (dbaf : Nat → Int) (dbban : Nat) (dbbafn : Nat → Nat) (dbbaff : Nat → Nat → Int) (dbbban : Nat) (dbbbaf : Nat → Int) (res : AV) (h : (∀ slot, fact (look .undef (s16_e da dbaf dbban dbbafn dbbaff dbbban dbbbaf) slot)) → L16_e da dbaf dbban dbbafn dbbaff dbbban dbbbaf res) : L16_e da dbaf dbban dbbafn dbbaff dbbban dbbbaf res :=
  assumeRule 16 [] Go.Proofs.Try.f16 hf16 [] (s16_e da dbaf dbban dbbafn dbbaff dbbban dbbbaf) (m16_e da dbaf dbban dbbafn dbbaff dbbban dbbbaf) res [] _ (by kernel_rfl) h
abbrev s16_0 (nextn : Nat) (i : Int) (b0a : Int) (b0baf : Nat → Int) (b0bban : Nat) (b0bbafn : Nat → Nat) (b0bbaff : Nat → Nat → Int) (b0bbban : Nat) (b0bbbaf : Nat → Int) (b1a : Int) (b1baf : Nat → Int) (b2n : Nat) (b2fn : Nat → Nat) (b2fm : Nat → Nat) (b2ff : Nat → Nat → Int) : List (Nat × AV) := [(1, (.pt 1000 [] 0)), (2, (.pt 1001 [] 0)), (3, (.rf 1002 1 0 nextn)), (4, (.sc (.int .i64 i)))]
abbrev m16_0 (nextn : Nat) (i : Int) (b0a : Int) (b0baf : Nat → Int) (b0bban : Nat) (b0bbafn : Nat → Nat) (b0bbaff : Nat → Nat → Int) (b0bbban : Nat) (b0bbbaf : Nat → Int) (b1a : Int) (b1baf : Nat → Int) (b2n : Nat) (b2fn : Nat → Nat) (b2fm : Nat → Nat) (b2ff : Nat → Nat → Int) : List (Nat × Nat × AV) := [(1000, 26, (.cons 1 (.sc (.int .i64 b0a)) (.cons 256 (.ar 256 1 (fun i0 => (.sc (.int .u8 (b0baf i0))))) (.cons 1 (.vec true 1 b0bban b0bban (fun i0 => (.vec true 1 (b0bbafn i0) (b0bbafn i0) (fun i1 => (.sc (.int .i64 (b0bbaff i0 i1))))))) (.cons 1 (.vec true 1 b0bbban b0bbban (fun i0 => (.sc (.int .i64 (b0bbbaf i0))))) .nil))))), (1001, 26, (.cons 1 (.sc (.int .i64 b1a)) (.cons 256 (.ar 256 1 (fun i0 => (.sc (.int .u8 (b1baf i0))))) (.cons 1 (.sc (.slice none 0 0)) (.cons 1 (.sc (.slice none 0 0)) .nil))))), (1002, 24, (.ar b2n 1 (fun i0 => (.vec false 1 (b2fn i0) (b2fm i0) (fun i1 => (.sc (.int .i64 (b2ff i0 i1))))))))]
def L16_0 (nextn : Nat) (i : Int) (b0a : Int) (b0baf : Nat → Int) (b0bban : Nat) (b0bbafn : Nat → Nat) (b0bbaff : Nat → Nat → Int) (b0bbban : Nat) (b0bbbaf : Nat → Int) (b1a : Int) (b1baf : Nat → Int) (b2n : Nat) (b2fn : Nat → Nat) (b2fm : Nat → Nat) (b2ff : Nat → Nat → Int) (res : AV) : Prop := Goes ⟨Go.Proofs.Try.prog, 16, [], res, []⟩ (place Go.Proofs.Try.f16 [1, 1, 0, 1, 0, 0]) (s16_0 nextn i b0a b0baf b0bban b0bbafn b0bbaff b0bbban b0bbbaf b1a b1baf b2n b2fn b2fm b2ff) (m16_0 nextn i b0a b0baf b0bban b0bbafn b0bbaff b0bbban b0bbbaf b1a b1baf b2n b2fn b2fm b2ff)
theorem a16_0 (nextn : Nat) (i : Int) (b0a : Int) (b0baf : Nat → Int) (b0bban : Nat) (b0bbafn : Nat → Nat) (b0bbaff : Nat → Nat → Int) (b0bbban : Nat) (b0bbbaf : Nat → Int) (b1a : Int) (b1baf : Nat → Int) (b2n : Nat) (b2fn : Nat → Nat) (b2fm : Nat → Nat) (b2ff : Nat → Nat → Int) (res : AV) (h : (∀ slot, fact (look .undef (s16_0 nextn i b0a b0baf b0bban b0bbafn b0bbaff b0bbban b0bbbaf b1a b1baf b2n b2fn b2fm b2ff) slot)) → L16_0 nextn i b0a b0baf b0bban b0bbafn b0bbaff b0bbban b0bbbaf b1a b1baf b2n b2fn b2fm b2ff res) : L16_0 nextn i b0a b0baf b0bban b0bbafn b0bbaff b0bbban b0bbbaf b1a b1baf b2n b2fn b2fm b2ff res :=
  assumeRule 16 [] Go.Proofs.Try.f16 hf16 [1, 1, 0, 1, 0, 0] (s16_0 nextn i b0a b0baf b0bban b0bbafn b0bbaff b0bbban b0bbbaf b1a b1baf b2n b2fn b2fm b2ff) (m16_0 nextn i b0a b0baf b0bban b0bbafn b0bbaff b0bbban b0bbbaf b1a b1baf b2n b2fn b2fm b2ff) res [] _ (by kernel_rfl) h
abbrev s16_1 (nextn : Nat) (i : Int) (b0a : Int) (b0baf : Nat → Int) (b0bban : Nat) (b0bbafn : Nat → Nat) (b0bbaff : Nat → Nat → Int) (b0bbban : Nat) (b0bbbaf : Nat → Int) (b1a : Int) (b1baf : Nat → Int) (b2n : Nat) (b2fn : Nat → Nat) (b2fm : Nat → Nat) (b2ff : Nat → Nat → Int) : List (Nat × AV) := [(1, (.pt 1000 [] 0)), (2, (.pt 1001 [] 0)), (3, (.rf 1002 1 0 nextn)), (5, (.sc (.int .i64 i)))]
abbrev m16_1 (nextn : Nat) (i : Int) (b0a : Int) (b0baf : Nat → Int) (b0bban : Nat) (b0bbafn : Nat → Nat) (b0bbaff : Nat → Nat → Int) (b0bbban : Nat) (b0bbbaf : Nat → Int) (b1a : Int) (b1baf : Nat → Int) (b2n : Nat) (b2fn : Nat → Nat) (b2fm : Nat → Nat) (b2ff : Nat → Nat → Int) : List (Nat × Nat × AV) := [(1000, 26, (.cons 1 (.sc (.int .i64 b0a)) (.cons 256 (.ar 256 1 (fun i0 => (.sc (.int .u8 (b0baf i0))))) (.cons 1 (.vec true 1 b0bban b0bban (fun i0 => (.vec true 1 (b0bbafn i0) (b0bbafn i0) (fun i1 => (.sc (.int .i64 (b0bbaff i0 i1))))))) (.cons 1 (.vec true 1 b0bbban b0bbban (fun i0 => (.sc (.int .i64 (b0bbbaf i0))))) .nil))))), (1001, 26, (.cons 1 (.sc (.int .i64 b1a)) (.cons 256 (.ar 256 1 (fun i0 => (.sc (.int .u8 (b1baf i0))))) (.cons 1 (.sc (.slice none 0 0)) (.cons 1 (.sc (.slice none 0 0)) .nil))))), (1002, 24, (.ar b2n 1 (fun i0 => (.vec false 1 (b2fn i0) (b2fm i0) (fun i1 => (.sc (.int .i64 (b2ff i0 i1))))))))]
def L16_1 (nextn : Nat) (i : Int) (b0a : Int) (b0baf : Nat → Int) (b0bban : Nat) (b0bbafn : Nat → Nat) (b0bbaff : Nat → Nat → Int) (b0bbban : Nat) (b0bbbaf : Nat → Int) (b1a : Int) (b1baf : Nat → Int) (b2n : Nat) (b2fn : Nat → Nat) (b2fm : Nat → Nat) (b2ff : Nat → Nat → Int) (res : AV) : Prop := Goes ⟨Go.Proofs.Try.prog, 16, [], res, []⟩ (place Go.Proofs.Try.f16 [1, 1, 1, 0, 1, 0, 0]) (s16_1 nextn i b0a b0baf b0bban b0bbafn b0bbaff b0bbban b0bbbaf b1a b1baf b2n b2fn b2fm b2ff) (m16_1 nextn i b0a b0baf b0bban b0bbafn b0bbaff b0bbban b0bbbaf b1a b1baf b2n b2fn b2fm b2ff)
theorem a16_1 (nextn : Nat) (i : Int) (b0a : Int) (b0baf : Nat → Int) (b0bban : Nat) (b0bbafn : Nat → Nat) (b0bbaff : Nat → Nat → Int) (b0bbban : Nat) (b0bbbaf : Nat → Int) (b1a : Int) (b1baf : Nat → Int) (b2n : Nat) (b2fn : Nat → Nat) (b2fm : Nat → Nat) (b2ff : Nat → Nat → Int) (res : AV) (h : (∀ slot, fact (look .undef (s16_1 nextn i b0a b0baf b0bban b0bbafn b0bbaff b0bbban b0bbbaf b1a b1baf b2n b2fn b2fm b2ff) slot)) → L16_1 nextn i b0a b0baf b0bban b0bbafn b0bbaff b0bbban b0bbbaf b1a b1baf b2n b2fn b2fm b2ff res) : L16_1 nextn i b0a b0baf b0bban b0bbafn b0bbaff b0bbban b0bbbaf b1a b1baf b2n b2fn b2fm b2ff res :=
  assumeRule 16 [] Go.Proofs.Try.f16 hf16 [1, 1, 1, 0, 1, 0, 0] (s16_1 nextn i b0a b0baf b0bban b0bbafn b0bbaff b0bbban b0bbbaf b1a b1baf b2n b2fn b2fm b2ff) (m16_1 nextn i b0a b0baf b0bban b0bbafn b0bbaff b0bbban b0bbbaf b1a b1baf b2n b2fn b2fm b2ff) res [] _ (by kernel_rfl) h
theorem o16 (da : Int) (dbaf : Nat → Int) (dbban : Nat) (dbbafn : Nat → Nat) (dbbaff : Nat → Nat → Int) (dbbban : Nat) (dbbbaf : Nat → Int) (res : AV) (hnew : newOnly res) (h : L16_e da dbaf dbban dbbafn dbbaff dbbban dbbbaf res) : Ok Go.Proofs.Try.prog 16 [(.cons 1 (.sc (.int .i64 da)) (.cons 256 (.ar 256 1 (fun i0 => (.sc (.int .u8 (dbaf i0))))) (.cons 1 (.vec true 1 dbban dbban (fun i0 => (.vec true 1 (dbbafn i0) (dbbafn i0) (fun i1 => (.sc (.int .i64 (dbbaff i0 i1))))))) (.cons 1 (.vec true 1 dbbban dbbban (fun i0 => (.sc (.int .i64 (dbbbaf i0))))) .nil))))] [] res [] :=
  okRule2 16 Go.Proofs.Try.f16 hf16 [(.cons 1 (.sc (.int .i64 da)) (.cons 256 (.ar 256 1 (fun i0 => (.sc (.int .u8 (dbaf i0))))) (.cons 1 (.vec true 1 dbban dbban (fun i0 => (.vec true 1 (dbbafn i0) (dbbafn i0) (fun i1 => (.sc (.int .i64 (dbbaff i0 i1))))))) (.cons 1 (.vec true 1 dbbban dbbban (fun i0 => (.sc (.int .i64 (dbbbaf i0))))) .nil))))] [] res [] [] rfl (by kernel_rfl) (by kernel_rfl) (by kernel_rfl) ⟨hnew, by simp⟩ (L16_e da dbaf dbban dbbafn dbbaff dbbban dbbbaf res) (by kernel_rfl) h
theorem r16_e (da : Int) (dbaf : Nat → Int) (dbban : Nat) (dbbafn : Nat → Nat) (dbbaff : Nat → Nat → Int) (dbbban : Nat) (dbbbaf : Nat → Int) (res : AV)
    (h : L16_0 (0 : Nat) (0 : Int) da dbaf dbban dbbafn dbbaff dbbban dbbbaf (0 : Int) (fun (x : Nat) => (0 : Int)) (0 : Nat) (fun (i : Nat) => (0 : Nat))
  (fun (i : Nat) => (0 : Nat)) (fun (i j : Nat) => Int.ofNat (0 : Nat)) res) :
    L16_e da dbaf dbban dbbafn dbbaff dbbban dbbbaf res :=
  rule Go.Am.Seat.tabOk 16 [] Go.Proofs.Try.f16 hf16 [] (s16_e da dbaf dbban dbbafn dbbaff dbbban dbbbaf) (m16_e da dbaf dbban dbbafn dbbaff dbbban dbbbaf) res [] 400
    (Orc.cut (nat_lit 9)
  (s16_0 (0 : Nat) (0 : Int) da dbaf dbban dbbafn dbbaff dbbban dbbbaf (0 : Int) (fun (x : Nat) => (0 : Int)) (0 : Nat) (fun (i : Nat) => (0 : Nat))
    (fun (i : Nat) => (0 : Nat)) fun (i j : Nat) => Int.ofNat (0 : Nat))
  (m16_0 (0 : Nat) (0 : Int) da dbaf dbban dbbafn dbbaff dbbban dbbbaf (0 : Int) (fun (x : Nat) => (0 : Int)) (0 : Nat) (fun (i : Nat) => (0 : Nat))
    (fun (i : Nat) => (0 : Nat)) fun (i j : Nat) => Int.ofNat (0 : Nat))
  [((1000 : Nat), some (1 : Nat)), ((1001 : Nat), some (2 : Nat)), ((1002 : Nat), none)]) _ _ (by kernel_rfl) (by kernel_rfl) (show True ∧
  True ∧
    True ∧
    True ∧
    ((True ∧
    Sub (AV.pt (1000 : Nat) [] (0 : Nat)) (AV.pt (1000 : Nat) [] (0 : Nat)) ∧
    True ∧
    Sub (AV.pt (1001 : Nat) [] (0 : Nat)) (AV.pt (1001 : Nat) [] (0 : Nat)) ∧
    True ∧ Sub (AV.sc (Value.int IntKind.i64 (0 : Int))) (AV.sc (Value.int IntKind.i64 (0 : Int))) ∧ True) ∧
    (True ∧ True ∧ True ∧ True ∧ True) ∧
    SubB
    (AV.cons (1 : Nat) (AV.sc (Value.int IntKind.i64 da))
    (AV.cons (256 : Nat) (AV.ar (256 : Nat) (1 : Nat) fun (i0 : Nat) => AV.sc (Value.int IntKind.u8 (dbaf i0)))
    (AV.cons (1 : Nat)
    (AV.vec true (1 : Nat) dbban dbban fun (i0 : Nat) =>
    AV.vec true (1 : Nat) (dbbafn i0) (dbbafn i0) fun (i1 : Nat) => AV.sc (Value.int IntKind.i64 (dbbaff i0 i1)))
    (AV.cons (1 : Nat) (AV.vec true (1 : Nat) dbbban dbbban fun (i0 : Nat) => AV.sc (Value.int IntKind.i64 (dbbbaf i0))) AV.nil))))
    (AV.cons (1 : Nat) (AV.sc (Value.int IntKind.i64 da))
    (AV.cons (256 : Nat) (AV.ar (256 : Nat) (1 : Nat) fun (i0 : Nat) => AV.sc (Value.int IntKind.u8 (dbaf i0)))
    (AV.cons (1 : Nat)
    (AV.vec true (1 : Nat) dbban dbban fun (i0 : Nat) =>
    AV.vec true (1 : Nat) (dbbafn i0) (dbbafn i0) fun (i1 : Nat) => AV.sc (Value.int IntKind.i64 (dbbaff i0 i1)))
    (AV.cons (1 : Nat) (AV.vec true (1 : Nat) dbbban dbbban fun (i0 : Nat) => AV.sc (Value.int IntKind.i64 (dbbbaf i0))) AV.nil)))) ∧
    (True ∧ True ∧ True ∧ True ∧ True) ∧
    SubB
    (AV.cons (1 : Nat) (AV.sc (Value.int IntKind.i64 (0 : Int)))
    (AV.cons (256 : Nat) (AV.ar (256 : Nat) (1 : Nat) fun (x : Nat) => AV.sc (Value.int IntKind.u8 (0 : Int)))
    (AV.cons (1 : Nat) (AV.sc (Value.slice none (0 : Nat) (0 : Nat)))
    (AV.cons (1 : Nat) (AV.sc (Value.slice none (0 : Nat) (0 : Nat))) AV.nil))))
    (AV.cons (1 : Nat) (AV.sc (Value.int IntKind.i64 (0 : Int)))
    (AV.cons (256 : Nat) (AV.ar (256 : Nat) (1 : Nat) fun (i0 : Nat) => AV.sc (Value.int IntKind.u8 (0 : Int)))
    (AV.cons (1 : Nat) (AV.sc (Value.slice none (0 : Nat) (0 : Nat)))
    (AV.cons (1 : Nat) (AV.sc (Value.slice none (0 : Nat) (0 : Nat))) AV.nil)))) ∧
    True) ∧
    L16_0 (0 : Nat) (0 : Int) da dbaf dbban dbbafn dbbaff dbbban dbbbaf (0 : Int) (fun (x : Nat) => (0 : Int)) (0 : Nat) (fun (i : Nat) => (0 : Nat))
    (fun (i : Nat) => (0 : Nat)) (fun (i j : Nat) => Int.ofNat (0 : Nat)) res from
    ⟨trivial, ⟨trivial, ⟨trivial, ⟨trivial, ⟨⟨⟨trivial, ⟨Sub.refl _, ⟨trivial, ⟨Sub.refl _, ⟨trivial, ⟨Sub.refl _, trivial⟩⟩⟩⟩⟩⟩, ⟨⟨trivial, ⟨trivial, ⟨trivial, ⟨trivial, trivial⟩⟩⟩⟩, ⟨SubB.refl _, ⟨⟨trivial, ⟨trivial, ⟨trivial, ⟨trivial, trivial⟩⟩⟩⟩, ⟨SubB.refl _, trivial⟩⟩⟩⟩⟩, h⟩⟩⟩⟩⟩)
theorem r16_0 (nextn : Nat) (i : Int) (b0a : Int) (b0baf : Nat → Int) (b0bban : Nat) (b0bbafn : Nat → Nat) (b0bbaff : Nat → Nat → Int) (b0bbban : Nat) (b0bbbaf : Nat → Int) (b1a : Int) (b1baf : Nat → Int) (b2n : Nat) (b2fn : Nat → Nat) (b2fm : Nat → Nat) (b2ff : Nat → Nat → Int) (res : AV)
    (h : (decide (i < (↑b0bban : Int)) = true →
    ((0 : Int) ≤ i ∧ i < (↑b0bban : Int)) ∧
    ∃ (r : Nat × Nat × (Nat → Int)),
    Ok Proofs.Try.prog (53 : Nat)
    [AV.vec true (1 : Nat) (b0bbafn i.toNat) (b0bbafn i.toNat) fun (i_1 : Nat) => AV.sc (Value.int IntKind.i64 (b0bbaff i.toNat i_1))] []
    (AV.vec false (1 : Nat) r.fst r.snd.fst fun (i0 : Nat) => AV.sc (Value.int IntKind.i64 (r.snd.snd i0))) [] ∧
    (nextn ≤ b2n ∧ (0 : Nat) + (1 : Nat) ≤ (1 : Nat) ∧ (nextn + (1 : Nat)) * (24 : Nat) ≤ (140737488355328 : Nat) ∧ nextn + (1 : Nat) ≤ maxLen) ∧
    L16_0 (nextn + (1 : Nat)) (IntKind.i64.wrap (i + (1 : Int))) b0a b0baf b0bban b0bbafn b0bbaff b0bbban b0bbbaf b1a b1baf (nextn + (1 : Nat))
    (fun (i : Nat) => bif i.blt nextn then b2fn i else r.fst) (fun (i : Nat) => bif i.blt nextn then b2fm i else r.snd.fst)
    (fun (i i_1 : Nat) => bif i.blt nextn then b2ff i i_1 else r.snd.snd i_1) res) ∧
  (decide (i < (↑b0bban : Int)) = false → L16_1 nextn (0 : Int) b0a b0baf b0bban b0bbafn b0bbaff b0bbban b0bbbaf b1a b1baf b2n b2fn b2fm b2ff res)) :
    L16_0 nextn i b0a b0baf b0bban b0bbafn b0bbaff b0bbban b0bbbaf b1a b1baf b2n b2fn b2fm b2ff res :=
  rule Go.Am.Seat.tabOk 16 [] Go.Proofs.Try.f16 hf16 [1, 1, 0, 1, 0, 0] (s16_0 nextn i b0a b0baf b0bban b0bbafn b0bbaff b0bbban b0bbbaf b1a b1baf b2n b2fn b2fm b2ff) (m16_0 nextn i b0a b0baf b0bban b0bbafn b0bbaff b0bbban b0bbbaf b1a b1baf b2n b2fn b2fm b2ff) res [] 400
    ((Orc.call [] []
    (fun (r53 : Nat × Nat × (Nat → Int)) => AV.vec false (1 : Nat) r53.fst r53.snd.fst fun (i0 : Nat) => AV.sc (Value.int IntKind.i64 (r53.snd.snd i0)))
    (fun (r53 : Nat × Nat × (Nat → Int)) => []) fun (r53 : Nat × Nat × (Nat → Int)) =>
    Orc.cut (nat_lit 3)
    (s16_0 (nextn + (1 : Nat)) (IntKind.i64.wrap (i + (1 : Int))) b0a b0baf b0bban b0bbafn b0bbaff b0bbban b0bbbaf b1a b1baf (nextn + (1 : Nat))
    (fun (i : Nat) => bif i.blt nextn then b2fn i else r53.fst) (fun (i : Nat) => bif i.blt nextn then b2fm i else r53.snd.fst) fun (i i_1 : Nat) =>
    bif i.blt nextn then b2ff i i_1 else r53.snd.snd i_1)
    (m16_0 (nextn + (1 : Nat)) (IntKind.i64.wrap (i + (1 : Int))) b0a b0baf b0bban b0bbafn b0bbaff b0bbban b0bbbaf b1a b1baf (nextn + (1 : Nat))
    (fun (i : Nat) => bif i.blt nextn then b2fn i else r53.fst) (fun (i : Nat) => bif i.blt nextn then b2fm i else r53.snd.fst) fun (i i_1 : Nat) =>
    bif i.blt nextn then b2ff i i_1 else r53.snd.snd i_1)
    [((1000 : Nat), some (1000 : Nat)), ((1001 : Nat), some (1001 : Nat)), ((1002 : Nat), some (21 : Nat))]).br
  (Orc.cut (nat_lit 6) (s16_1 nextn (0 : Int) b0a b0baf b0bban b0bbafn b0bbaff b0bbban b0bbbaf b1a b1baf b2n b2fn b2fm b2ff)
    (m16_1 nextn (0 : Int) b0a b0baf b0bban b0bbafn b0bbaff b0bbban b0bbbaf b1a b1baf b2n b2fn b2fm b2ff)
    [((1000 : Nat), some (1000 : Nat)), ((1001 : Nat), some (1001 : Nat)), ((1002 : Nat), some (1002 : Nat))])) _ _ (by kernel_rfl) (by kernel_rfl) (show True ∧
  True ∧
    ((1 : Nat) + ((256 : Nat) + (0 : Nat)) = plus (0 : Nat) (257 : Nat) ∧ True) ∧
    True ∧
    True ∧
    (decide (i < (↑b0bban : Int)) = true →
    True ∧
    True ∧
    ((1 : Nat) + ((256 : Nat) + (0 : Nat)) = plus (0 : Nat) (257 : Nat) ∧ True) ∧
    True ∧
    ((0 : Int) ≤ i ∧ i < (↑b0bban : Int)) ∧
    True ∧
    ∃ (r : Nat × Nat × (Nat → Int)),
    ((True ∧ True) ∧
    True ∧
    Ok Proofs.Try.prog (53 : Nat)
    [AV.vec true (1 : Nat) (b0bbafn i.toNat) (b0bbafn i.toNat) fun (i_1 : Nat) =>
    AV.sc (Value.int IntKind.i64 (b0bbaff i.toNat i_1))]
    [] (AV.vec false (1 : Nat) r.fst r.snd.fst fun (i0 : Nat) => AV.sc (Value.int IntKind.i64 (r.snd.snd i0))) []) ∧
    ((True ∧ True) ∧ True) ∧
    (nextn ≤ b2n ∧
    ((0 : Nat) + (1 : Nat) ≤ (1 : Nat) ∧ (1 : Nat) = (1 : Nat)) ∧
    (nextn + (1 : Nat)) * (24 : Nat) ≤ (140737488355328 : Nat) ∧ nextn + (1 : Nat) ≤ maxLen) ∧
    True ∧
    True ∧
    True ∧
    True ∧
    ((True ∧
    Sub (AV.pt (1000 : Nat) [] (0 : Nat)) (AV.pt (1000 : Nat) [] (0 : Nat)) ∧
    True ∧
    Sub (AV.pt (1001 : Nat) [] (0 : Nat)) (AV.pt (1001 : Nat) [] (0 : Nat)) ∧
    True ∧
    Sub (AV.rf (1002 : Nat) (1 : Nat) (0 : Nat) (nextn + (1 : Nat)))
    (AV.rf (1002 : Nat) (1 : Nat) (0 : Nat) (nextn + (1 : Nat))) ∧
    True ∧
    Sub (AV.sc (Value.int IntKind.i64 (IntKind.i64.wrap (i + (1 : Int)))))
    (AV.sc (Value.int IntKind.i64 (IntKind.i64.wrap (i + (1 : Int))))) ∧
    True) ∧
    (True ∧ True ∧ True ∧ True ∧ True) ∧
    SubB
    (AV.cons (1 : Nat) (AV.sc (Value.int IntKind.i64 b0a))
    (AV.cons (256 : Nat)
    (AV.ar (256 : Nat) (1 : Nat) fun (i0 : Nat) => AV.sc (Value.int IntKind.u8 (b0baf i0)))
    (AV.cons (1 : Nat)
    (AV.vec true (1 : Nat) b0bban b0bban fun (i0 : Nat) =>
    AV.vec true (1 : Nat) (b0bbafn i0) (b0bbafn i0) fun (i1 : Nat) =>
    AV.sc (Value.int IntKind.i64 (b0bbaff i0 i1)))
    (AV.cons (1 : Nat)
    (AV.vec true (1 : Nat) b0bbban b0bbban fun (i0 : Nat) => AV.sc (Value.int IntKind.i64 (b0bbbaf i0)))
    AV.nil))))
    (AV.cons (1 : Nat) (AV.sc (Value.int IntKind.i64 b0a))
    (AV.cons (256 : Nat)
    (AV.ar (256 : Nat) (1 : Nat) fun (i0 : Nat) => AV.sc (Value.int IntKind.u8 (b0baf i0)))
    (AV.cons (1 : Nat)
    (AV.vec true (1 : Nat) b0bban b0bban fun (i0 : Nat) =>
    AV.vec true (1 : Nat) (b0bbafn i0) (b0bbafn i0) fun (i1 : Nat) =>
    AV.sc (Value.int IntKind.i64 (b0bbaff i0 i1)))
    (AV.cons (1 : Nat)
    (AV.vec true (1 : Nat) b0bbban b0bbban fun (i0 : Nat) => AV.sc (Value.int IntKind.i64 (b0bbbaf i0)))
    AV.nil)))) ∧
    (True ∧ True ∧ True ∧ True ∧ True) ∧
    SubB
    (AV.cons (1 : Nat) (AV.sc (Value.int IntKind.i64 b1a))
    (AV.cons (256 : Nat)
    (AV.ar (256 : Nat) (1 : Nat) fun (i0 : Nat) => AV.sc (Value.int IntKind.u8 (b1baf i0)))
    (AV.cons (1 : Nat) (AV.sc (Value.slice none (0 : Nat) (0 : Nat)))
    (AV.cons (1 : Nat) (AV.sc (Value.slice none (0 : Nat) (0 : Nat))) AV.nil))))
    (AV.cons (1 : Nat) (AV.sc (Value.int IntKind.i64 b1a))
    (AV.cons (256 : Nat)
    (AV.ar (256 : Nat) (1 : Nat) fun (i0 : Nat) => AV.sc (Value.int IntKind.u8 (b1baf i0)))
    (AV.cons (1 : Nat) (AV.sc (Value.slice none (0 : Nat) (0 : Nat)))
    (AV.cons (1 : Nat) (AV.sc (Value.slice none (0 : Nat) (0 : Nat))) AV.nil)))) ∧
    True ∧
    SubB
    (AV.ar (nextn + (1 : Nat)) (1 : Nat) fun (i : Nat) =>
    AV.vec false (1 : Nat) (bif i.blt nextn then b2fn i else r.fst)
    (bif i.blt nextn then b2fm i else r.snd.fst) fun (i_1 : Nat) =>
    AV.sc (Value.int IntKind.i64 (bif i.blt nextn then b2ff i i_1 else r.snd.snd i_1)))
    (AV.ar (nextn + (1 : Nat)) (1 : Nat) fun (i0 : Nat) =>
    AV.vec false (1 : Nat) (bif i0.blt nextn then b2fn i0 else r.fst)
    (bif i0.blt nextn then b2fm i0 else r.snd.fst) fun (i1 : Nat) =>
    AV.sc (Value.int IntKind.i64 (bif i0.blt nextn then b2ff i0 i1 else r.snd.snd i1))) ∧
    True) ∧
    L16_0 (nextn + (1 : Nat)) (IntKind.i64.wrap (i + (1 : Int))) b0a b0baf b0bban b0bbafn b0bbaff b0bbban b0bbbaf b1a
    b1baf (nextn + (1 : Nat)) (fun (i : Nat) => bif i.blt nextn then b2fn i else r.fst)
    (fun (i : Nat) => bif i.blt nextn then b2fm i else r.snd.fst)
    (fun (i i_1 : Nat) => bif i.blt nextn then b2ff i i_1 else r.snd.snd i_1) res) ∧
    (decide (i < (↑b0bban : Int)) = false →
    True ∧
    ((True ∧
    Sub (AV.pt (1000 : Nat) [] (0 : Nat)) (AV.pt (1000 : Nat) [] (0 : Nat)) ∧
    True ∧
    Sub (AV.pt (1001 : Nat) [] (0 : Nat)) (AV.pt (1001 : Nat) [] (0 : Nat)) ∧
    True ∧
    Sub (AV.rf (1002 : Nat) (1 : Nat) (0 : Nat) nextn) (AV.rf (1002 : Nat) (1 : Nat) (0 : Nat) nextn) ∧
    True ∧ Sub (AV.sc (Value.int IntKind.i64 (0 : Int))) (AV.sc (Value.int IntKind.i64 (0 : Int))) ∧ True) ∧
    (True ∧ True ∧ True ∧ True ∧ True) ∧
    SubB
    (AV.cons (1 : Nat) (AV.sc (Value.int IntKind.i64 b0a))
    (AV.cons (256 : Nat) (AV.ar (256 : Nat) (1 : Nat) fun (i0 : Nat) => AV.sc (Value.int IntKind.u8 (b0baf i0)))
    (AV.cons (1 : Nat)
    (AV.vec true (1 : Nat) b0bban b0bban fun (i0 : Nat) =>
    AV.vec true (1 : Nat) (b0bbafn i0) (b0bbafn i0) fun (i1 : Nat) => AV.sc (Value.int IntKind.i64 (b0bbaff i0 i1)))
    (AV.cons (1 : Nat) (AV.vec true (1 : Nat) b0bbban b0bbban fun (i0 : Nat) => AV.sc (Value.int IntKind.i64 (b0bbbaf i0)))
    AV.nil))))
    (AV.cons (1 : Nat) (AV.sc (Value.int IntKind.i64 b0a))
    (AV.cons (256 : Nat) (AV.ar (256 : Nat) (1 : Nat) fun (i0 : Nat) => AV.sc (Value.int IntKind.u8 (b0baf i0)))
    (AV.cons (1 : Nat)
    (AV.vec true (1 : Nat) b0bban b0bban fun (i0 : Nat) =>
    AV.vec true (1 : Nat) (b0bbafn i0) (b0bbafn i0) fun (i1 : Nat) => AV.sc (Value.int IntKind.i64 (b0bbaff i0 i1)))
    (AV.cons (1 : Nat) (AV.vec true (1 : Nat) b0bbban b0bbban fun (i0 : Nat) => AV.sc (Value.int IntKind.i64 (b0bbbaf i0)))
    AV.nil)))) ∧
    (True ∧ True ∧ True ∧ True ∧ True) ∧
    SubB
    (AV.cons (1 : Nat) (AV.sc (Value.int IntKind.i64 b1a))
    (AV.cons (256 : Nat) (AV.ar (256 : Nat) (1 : Nat) fun (i0 : Nat) => AV.sc (Value.int IntKind.u8 (b1baf i0)))
    (AV.cons (1 : Nat) (AV.sc (Value.slice none (0 : Nat) (0 : Nat)))
    (AV.cons (1 : Nat) (AV.sc (Value.slice none (0 : Nat) (0 : Nat))) AV.nil))))
    (AV.cons (1 : Nat) (AV.sc (Value.int IntKind.i64 b1a))
    (AV.cons (256 : Nat) (AV.ar (256 : Nat) (1 : Nat) fun (i0 : Nat) => AV.sc (Value.int IntKind.u8 (b1baf i0)))
    (AV.cons (1 : Nat) (AV.sc (Value.slice none (0 : Nat) (0 : Nat)))
    (AV.cons (1 : Nat) (AV.sc (Value.slice none (0 : Nat) (0 : Nat))) AV.nil)))) ∧
    True ∧
    SubB
    (AV.ar b2n (1 : Nat) fun (i0 : Nat) =>
    AV.vec false (1 : Nat) (b2fn i0) (b2fm i0) fun (i1 : Nat) => AV.sc (Value.int IntKind.i64 (b2ff i0 i1)))
    (AV.ar b2n (1 : Nat) fun (i0 : Nat) =>
    AV.vec false (1 : Nat) (b2fn i0) (b2fm i0) fun (i1 : Nat) => AV.sc (Value.int IntKind.i64 (b2ff i0 i1))) ∧
    True) ∧
    L16_1 nextn (0 : Int) b0a b0baf b0bban b0bbafn b0bbaff b0bbban b0bbbaf b1a b1baf b2n b2fn b2fm b2ff res) from
    ⟨trivial, ⟨trivial, ⟨⟨rfl, trivial⟩, ⟨trivial, ⟨trivial, (And.elim (fun h5 k5 => ⟨(fun x6 => (fun h6 => ⟨trivial, ⟨trivial, ⟨⟨rfl, trivial⟩, ⟨trivial, (And.elim (fun h11 k11 => ⟨(And.elim (fun h12 k12 => ⟨h12, k12⟩) h11), ⟨trivial, (Exists.elim k11 fun x13 h13 => ⟨x13, (And.elim (fun h14 k14 => ⟨⟨⟨trivial, trivial⟩, ⟨trivial, h14⟩⟩, ⟨⟨⟨trivial, trivial⟩, trivial⟩, (And.elim (fun h16 k16 => ⟨(And.elim (fun h17 k17 => ⟨h17, (And.elim (fun h18 k18 => ⟨((fun h19 => ⟨h19, rfl⟩) h18), (And.elim (fun h19 k19 => ⟨h19, k19⟩) k18)⟩) k17)⟩) h16), ⟨trivial, ⟨trivial, ⟨trivial, ⟨trivial, ⟨⟨⟨trivial, ⟨Sub.refl _, ⟨trivial, ⟨Sub.refl _, ⟨trivial, ⟨Sub.refl _, ⟨trivial, ⟨Sub.refl _, trivial⟩⟩⟩⟩⟩⟩⟩⟩, ⟨⟨trivial, ⟨trivial, ⟨trivial, ⟨trivial, trivial⟩⟩⟩⟩, ⟨SubB.refl _, ⟨⟨trivial, ⟨trivial, ⟨trivial, ⟨trivial, trivial⟩⟩⟩⟩, ⟨SubB.refl _, ⟨trivial, ⟨SubB.refl _, trivial⟩⟩⟩⟩⟩⟩⟩, k16⟩⟩⟩⟩⟩⟩) k14)⟩⟩) h13)⟩)⟩⟩) h6)⟩⟩⟩⟩) (h5 x6)), (fun x6 => (fun h6 => ⟨trivial, ⟨⟨⟨trivial, ⟨Sub.refl _, ⟨trivial, ⟨Sub.refl _, ⟨trivial, ⟨Sub.refl _, ⟨trivial, ⟨Sub.refl _, trivial⟩⟩⟩⟩⟩⟩⟩⟩, ⟨⟨trivial, ⟨trivial, ⟨trivial, ⟨trivial, trivial⟩⟩⟩⟩, ⟨SubB.refl _, ⟨⟨trivial, ⟨trivial, ⟨trivial, ⟨trivial, trivial⟩⟩⟩⟩, ⟨SubB.refl _, ⟨trivial, ⟨SubB.refl _, trivial⟩⟩⟩⟩⟩⟩⟩, h6⟩⟩) (k5 x6))⟩) h)⟩⟩⟩⟩⟩)
theorem r16_1 (nextn : Nat) (i : Int) (b0a : Int) (b0baf : Nat → Int) (b0bban : Nat) (b0bbafn : Nat → Nat) (b0bbaff : Nat → Nat → Int) (b0bbban : Nat) (b0bbbaf : Nat → Int) (b1a : Int) (b1baf : Nat → Int) (b2n : Nat) (b2fn : Nat → Nat) (b2fm : Nat → Nat) (b2ff : Nat → Nat → Int) (res : AV)
    (h : (decide (i < (3 : Int)) = true →
    (0 : Nat) + (1 : Nat) ≤ (1 : Nat) ∧
    (nextn ≤ b2n ∧ (nextn + (1 : Nat)) * (24 : Nat) ≤ (140737488355328 : Nat) ∧ nextn + (1 : Nat) ≤ maxLen) ∧
    SubB
    (AV.ar (nextn + (1 : Nat)) (1 : Nat) fun (i_1 : Nat) =>
    AV.vec false (1 : Nat) (bif i_1.blt nextn then b2fn i_1 else (1 : Nat)) (bif i_1.blt nextn then b2fm i_1 else (1 : Nat) - (0 : Nat))
    fun (i_2 : Nat) => AV.sc (Value.int IntKind.i64 (bif i_1.blt nextn then b2ff i_1 i_2 else IntKind.i64.wrap ((-7000 : Int) - i))))
    (AV.ar (nextn + (1 : Nat)) (1 : Nat) fun (i0 : Nat) =>
    AV.vec false (1 : Nat) (bif i0.blt nextn then b2fn i0 else (1 : Nat)) (bif i0.blt nextn then b2fm i0 else (1 : Nat)) fun (i1 : Nat) =>
    AV.sc (Value.int IntKind.i64 (bif i0.blt nextn then b2ff i0 i1 else IntKind.i64.wrap ((-7000 : Int) - i)))) ∧
    L16_1 (nextn + (1 : Nat)) (IntKind.i64.wrap (i + (1 : Int))) b0a b0baf b0bban b0bbafn b0bbaff b0bbban b0bbbaf b1a b1baf (nextn + (1 : Nat))
    (fun (i : Nat) => bif i.blt nextn then b2fn i else (1 : Nat)) (fun (i : Nat) => bif i.blt nextn then b2fm i else (1 : Nat))
    (fun (i_1 i_2 : Nat) => bif i_1.blt nextn then b2ff i_1 i_2 else IntKind.i64.wrap ((-7000 : Int) - i)) res) ∧
  (decide (i < (3 : Int)) = false →
    ((0 : Int) ≤ (0 : Int) ∧
    (0 : Int) ≤ (↑b0bban : Int) ∧ (0 : Nat) + (↑b0bban : Int).toNat ≤ b2n ∧ ((0 : Int) = (0 : Int) ∨ (0 : Nat) + Int.toNat (0 : Int) < b2n)) ∧
    ∃ (r : Nat × Nat × (Nat → Int)),
    Ok Proofs.Try.prog (53 : Nat) [AV.vec true (1 : Nat) b0bbban b0bbban fun (i : Nat) => AV.sc (Value.int IntKind.i64 (b0bbbaf i))] []
    (AV.vec false (1 : Nat) r.fst r.snd.fst fun (i0 : Nat) => AV.sc (Value.int IntKind.i64 (r.snd.snd i0))) [] ∧
    plus (0 : Nat) (Int.toNat (0 : Int)) + ((↑b0bban : Int) - (0 : Int)).toNat ≤ b2n ∧
    Sub
    (AV.cons (1 : Nat) (AV.sc (Value.int IntKind.i64 b0a))
    (AV.cons (256 : Nat) (AV.ar (256 : Nat) (1 : Nat) fun (i0 : Nat) => AV.sc (Value.int IntKind.u8 (b0baf i0)))
    (AV.cons (1 : Nat)
    (AV.vec false (1 : Nat) ((↑b0bban : Int) - (0 : Int)).toNat (b2n - plus (0 : Nat) (Int.toNat (0 : Int))) fun (i : Nat) =>
    AV.vec false (1 : Nat) (b2fn (plus (plus (0 : Nat) (Int.toNat (0 : Int))) i)) (b2fm (plus (plus (0 : Nat) (Int.toNat (0 : Int))) i))
    fun (i1 : Nat) => AV.sc (Value.int IntKind.i64 (b2ff (plus (plus (0 : Nat) (Int.toNat (0 : Int))) i) i1)))
    (AV.cons (1 : Nat) (AV.vec false (1 : Nat) r.fst r.snd.fst fun (i0 : Nat) => AV.sc (Value.int IntKind.i64 (r.snd.snd i0))) AV.nil))))
    res)) :
    L16_1 nextn i b0a b0baf b0bban b0bbafn b0bbaff b0bbban b0bbbaf b1a b1baf b2n b2fn b2fm b2ff res :=
  rule Go.Am.Seat.tabOk 16 [] Go.Proofs.Try.f16 hf16 [1, 1, 1, 0, 1, 0, 0] (s16_1 nextn i b0a b0baf b0bban b0bbafn b0bbaff b0bbban b0bbbaf b1a b1baf b2n b2fn b2fm b2ff) (m16_1 nextn i b0a b0baf b0bban b0bbafn b0bbaff b0bbban b0bbbaf b1a b1baf b2n b2fn b2fm b2ff) res [] 400
    ((Orc.cut (nat_lit 7)
    (s16_1 (nextn + (1 : Nat)) (IntKind.i64.wrap (i + (1 : Int))) b0a b0baf b0bban b0bbafn b0bbaff b0bbban b0bbbaf b1a b1baf (nextn + (1 : Nat))
    (fun (i : Nat) => bif i.blt nextn then b2fn i else (1 : Nat)) (fun (i : Nat) => bif i.blt nextn then b2fm i else (1 : Nat)) fun (i_1 i_2 : Nat) =>
    bif i_1.blt nextn then b2ff i_1 i_2 else IntKind.i64.wrap ((-7000 : Int) - i))
    (m16_1 (nextn + (1 : Nat)) (IntKind.i64.wrap (i + (1 : Int))) b0a b0baf b0bban b0bbafn b0bbaff b0bbban b0bbbaf b1a b1baf (nextn + (1 : Nat))
    (fun (i : Nat) => bif i.blt nextn then b2fn i else (1 : Nat)) (fun (i : Nat) => bif i.blt nextn then b2fm i else (1 : Nat)) fun (i_1 i_2 : Nat) =>
    bif i_1.blt nextn then b2ff i_1 i_2 else IntKind.i64.wrap ((-7000 : Int) - i))
    [((1000 : Nat), some (1000 : Nat)), ((1001 : Nat), some (1001 : Nat)), ((1002 : Nat), some (31 : Nat))]).br
  (Orc.call [] []
    (fun (r53 : Nat × Nat × (Nat → Int)) => AV.vec false (1 : Nat) r53.fst r53.snd.fst fun (i0 : Nat) => AV.sc (Value.int IntKind.i64 (r53.snd.snd i0)))
    (fun (r53 : Nat × Nat × (Nat → Int)) => []) fun (r53 : Nat × Nat × (Nat → Int)) =>
    Orc.fin
    (AV.cons (1 : Nat) (AV.sc (Value.int IntKind.i64 b0a))
    (AV.cons (256 : Nat) (AV.ar (256 : Nat) (1 : Nat) fun (i0 : Nat) => AV.sc (Value.int IntKind.u8 (b0baf i0)))
    (AV.cons (1 : Nat)
    (AV.vec false (1 : Nat) ((IntKind.i64, (↑b0bban : Int)).snd - (0 : Int)).toNat (b2n - plus (0 : Nat) (Int.toNat (0 : Int))) fun (i : Nat) =>
    AV.vec false (1 : Nat) (b2fn (plus (plus (0 : Nat) (Int.toNat (0 : Int))) i)) (b2fm (plus (plus (0 : Nat) (Int.toNat (0 : Int))) i))
    fun (i1 : Nat) => AV.sc (Value.int IntKind.i64 (b2ff (plus (plus (0 : Nat) (Int.toNat (0 : Int))) i) i1)))
    (AV.cons (1 : Nat) (AV.vec false (1 : Nat) r53.fst r53.snd.fst fun (i0 : Nat) => AV.sc (Value.int IntKind.i64 (r53.snd.snd i0))) AV.nil))))
    [] [])) _ _ (by kernel_rfl) (by kernel_rfl) (show True ∧
  True ∧
    (decide (i < (3 : Int)) = true →
    True ∧
    True ∧
    True ∧
    ((True ∧ True) ∧ True) ∧
    (((0 : Nat) + (1 : Nat) ≤ (1 : Nat) ∧ True) ∧ True) ∧
    (nextn ≤ b2n ∧
    ((0 : Nat) + (1 : Nat) ≤ (1 : Nat) ∧ (1 : Nat) = (1 : Nat)) ∧
    (nextn + (1 : Nat)) * (24 : Nat) ≤ (140737488355328 : Nat) ∧ nextn + (1 : Nat) ≤ maxLen) ∧
    True ∧
    True ∧
    True ∧
    True ∧
    ((True ∧
    Sub (AV.pt (1000 : Nat) [] (0 : Nat)) (AV.pt (1000 : Nat) [] (0 : Nat)) ∧
    True ∧
    Sub (AV.pt (1001 : Nat) [] (0 : Nat)) (AV.pt (1001 : Nat) [] (0 : Nat)) ∧
    True ∧
    Sub (AV.rf (1002 : Nat) (1 : Nat) (0 : Nat) (nextn + (1 : Nat)))
    (AV.rf (1002 : Nat) (1 : Nat) (0 : Nat) (nextn + (1 : Nat))) ∧
    True ∧
    Sub (AV.sc (Value.int IntKind.i64 (IntKind.i64.wrap (i + (1 : Int)))))
    (AV.sc (Value.int IntKind.i64 (IntKind.i64.wrap (i + (1 : Int))))) ∧
    True) ∧
    (True ∧ True ∧ True ∧ True ∧ True) ∧
    SubB
    (AV.cons (1 : Nat) (AV.sc (Value.int IntKind.i64 b0a))
    (AV.cons (256 : Nat) (AV.ar (256 : Nat) (1 : Nat) fun (i0 : Nat) => AV.sc (Value.int IntKind.u8 (b0baf i0)))
    (AV.cons (1 : Nat)
    (AV.vec true (1 : Nat) b0bban b0bban fun (i0 : Nat) =>
    AV.vec true (1 : Nat) (b0bbafn i0) (b0bbafn i0) fun (i1 : Nat) => AV.sc (Value.int IntKind.i64 (b0bbaff i0 i1)))
    (AV.cons (1 : Nat)
    (AV.vec true (1 : Nat) b0bbban b0bbban fun (i0 : Nat) => AV.sc (Value.int IntKind.i64 (b0bbbaf i0))) AV.nil))))
    (AV.cons (1 : Nat) (AV.sc (Value.int IntKind.i64 b0a))
    (AV.cons (256 : Nat) (AV.ar (256 : Nat) (1 : Nat) fun (i0 : Nat) => AV.sc (Value.int IntKind.u8 (b0baf i0)))
    (AV.cons (1 : Nat)
    (AV.vec true (1 : Nat) b0bban b0bban fun (i0 : Nat) =>
    AV.vec true (1 : Nat) (b0bbafn i0) (b0bbafn i0) fun (i1 : Nat) => AV.sc (Value.int IntKind.i64 (b0bbaff i0 i1)))
    (AV.cons (1 : Nat)
    (AV.vec true (1 : Nat) b0bbban b0bbban fun (i0 : Nat) => AV.sc (Value.int IntKind.i64 (b0bbbaf i0))) AV.nil)))) ∧
    (True ∧ True ∧ True ∧ True ∧ True) ∧
    SubB
    (AV.cons (1 : Nat) (AV.sc (Value.int IntKind.i64 b1a))
    (AV.cons (256 : Nat) (AV.ar (256 : Nat) (1 : Nat) fun (i0 : Nat) => AV.sc (Value.int IntKind.u8 (b1baf i0)))
    (AV.cons (1 : Nat) (AV.sc (Value.slice none (0 : Nat) (0 : Nat)))
    (AV.cons (1 : Nat) (AV.sc (Value.slice none (0 : Nat) (0 : Nat))) AV.nil))))
    (AV.cons (1 : Nat) (AV.sc (Value.int IntKind.i64 b1a))
    (AV.cons (256 : Nat) (AV.ar (256 : Nat) (1 : Nat) fun (i0 : Nat) => AV.sc (Value.int IntKind.u8 (b1baf i0)))
    (AV.cons (1 : Nat) (AV.sc (Value.slice none (0 : Nat) (0 : Nat)))
    (AV.cons (1 : Nat) (AV.sc (Value.slice none (0 : Nat) (0 : Nat))) AV.nil)))) ∧
    True ∧
    SubB
    (AV.ar (nextn + (1 : Nat)) (1 : Nat) fun (i_1 : Nat) =>
    AV.vec false (1 : Nat) (bif i_1.blt nextn then b2fn i_1 else (1 : Nat))
    (bif i_1.blt nextn then b2fm i_1 else (1 : Nat) - (0 : Nat)) fun (i_2 : Nat) =>
    AV.sc (Value.int IntKind.i64 (bif i_1.blt nextn then b2ff i_1 i_2 else IntKind.i64.wrap ((-7000 : Int) - i))))
    (AV.ar (nextn + (1 : Nat)) (1 : Nat) fun (i0 : Nat) =>
    AV.vec false (1 : Nat) (bif i0.blt nextn then b2fn i0 else (1 : Nat))
    (bif i0.blt nextn then b2fm i0 else (1 : Nat)) fun (i1 : Nat) =>
    AV.sc (Value.int IntKind.i64 (bif i0.blt nextn then b2ff i0 i1 else IntKind.i64.wrap ((-7000 : Int) - i)))) ∧
    True) ∧
    L16_1 (nextn + (1 : Nat)) (IntKind.i64.wrap (i + (1 : Int))) b0a b0baf b0bban b0bbafn b0bbaff b0bbban b0bbbaf b1a b1baf
    (nextn + (1 : Nat)) (fun (i : Nat) => bif i.blt nextn then b2fn i else (1 : Nat))
    (fun (i : Nat) => bif i.blt nextn then b2fm i else (1 : Nat))
    (fun (i_1 i_2 : Nat) => bif i_1.blt nextn then b2ff i_1 i_2 else IntKind.i64.wrap ((-7000 : Int) - i)) res) ∧
    (decide (i < (3 : Int)) = false →
    True ∧
    True ∧
    ((1 : Nat) + ((256 : Nat) + (0 : Nat)) = plus (0 : Nat) (257 : Nat) ∧ True) ∧
    True ∧
    ((0 : Int) ≤ (0 : Int) ∧
    (0 : Int) ≤ (↑b0bban : Int) ∧ (0 : Nat) + (↑b0bban : Int).toNat ≤ b2n ∧ ((0 : Int) = (0 : Int) ∨ (0 : Nat) + Int.toNat (0 : Int) < b2n)) ∧
    True ∧
    ((1 : Nat) + ((256 : Nat) + (0 : Nat)) = plus (0 : Nat) (257 : Nat) ∧ True) ∧
    True ∧
    ((1 : Nat) + ((256 : Nat) + ((1 : Nat) + (0 : Nat))) = plus (0 : Nat) (258 : Nat) ∧ True) ∧
    ∃ (r : Nat × Nat × (Nat → Int)),
    ((True ∧ True) ∧
    True ∧
    Ok Proofs.Try.prog (53 : Nat)
    [AV.vec true (1 : Nat) b0bbban b0bbban fun (i : Nat) => AV.sc (Value.int IntKind.i64 (b0bbbaf i))] []
    (AV.vec false (1 : Nat) r.fst r.snd.fst fun (i0 : Nat) => AV.sc (Value.int IntKind.i64 (r.snd.snd i0))) []) ∧
    True ∧
    ((1 : Nat) + ((256 : Nat) + ((1 : Nat) + (0 : Nat))) = plus (0 : Nat) (258 : Nat) ∧ True) ∧
    ((0 : Nat) = (0 : Nat) ∧ True) ∧
    ((0 : Nat) = (0 : Nat) ∧ True) ∧
    ((0 : Nat) = (0 : Nat) ∧ True) ∧
    (((True ∧ True ∧ plus (0 : Nat) (Int.toNat (0 : Int)) + ((↑b0bban : Int) - (0 : Int)).toNat ≤ b2n ∧ True ∧ True) ∧
    Sub
    (AV.cons (1 : Nat) (AV.sc (Value.int IntKind.i64 b0a))
    (AV.cons (256 : Nat) (AV.ar (256 : Nat) (1 : Nat) fun (i0 : Nat) => AV.sc (Value.int IntKind.u8 (b0baf i0)))
    (AV.cons (1 : Nat)
    (AV.vec false (1 : Nat) ((↑b0bban : Int) - (0 : Int)).toNat (b2n - plus (0 : Nat) (Int.toNat (0 : Int)))
    fun (i : Nat) =>
    AV.vec false (1 : Nat) (b2fn (plus (plus (0 : Nat) (Int.toNat (0 : Int))) i))
    (b2fm (plus (plus (0 : Nat) (Int.toNat (0 : Int))) i)) fun (i1 : Nat) =>
    AV.sc (Value.int IntKind.i64 (b2ff (plus (plus (0 : Nat) (Int.toNat (0 : Int))) i) i1)))
    (AV.cons (1 : Nat)
    (AV.vec false (1 : Nat) r.fst r.snd.fst fun (i0 : Nat) =>
    AV.sc (Value.int IntKind.i64 (r.snd.snd i0)))
    AV.nil))))
    (AV.cons (1 : Nat) (AV.sc (Value.int IntKind.i64 b0a))
    (AV.cons (256 : Nat) (AV.ar (256 : Nat) (1 : Nat) fun (i0 : Nat) => AV.sc (Value.int IntKind.u8 (b0baf i0)))
    (AV.cons (1 : Nat)
    (AV.vec false (1 : Nat) ((↑b0bban : Int) - (0 : Int)).toNat (b2n - plus (0 : Nat) (Int.toNat (0 : Int)))
    fun (i : Nat) =>
    AV.vec false (1 : Nat) (b2fn (plus (plus (0 : Nat) (Int.toNat (0 : Int))) i))
    (b2fm (plus (plus (0 : Nat) (Int.toNat (0 : Int))) i)) fun (i1 : Nat) =>
    AV.sc (Value.int IntKind.i64 (b2ff (plus (plus (0 : Nat) (Int.toNat (0 : Int))) i) i1)))
    (AV.cons (1 : Nat)
    (AV.vec false (1 : Nat) r.fst r.snd.fst fun (i0 : Nat) =>
    AV.sc (Value.int IntKind.i64 (r.snd.snd i0)))
    AV.nil)))) ∧
    True) ∧
    True) ∧
    Sub
    (AV.cons (1 : Nat) (AV.sc (Value.int IntKind.i64 b0a))
    (AV.cons (256 : Nat) (AV.ar (256 : Nat) (1 : Nat) fun (i0 : Nat) => AV.sc (Value.int IntKind.u8 (b0baf i0)))
    (AV.cons (1 : Nat)
    (AV.vec false (1 : Nat) ((↑b0bban : Int) - (0 : Int)).toNat (b2n - plus (0 : Nat) (Int.toNat (0 : Int)))
    fun (i : Nat) =>
    AV.vec false (1 : Nat) (b2fn (plus (plus (0 : Nat) (Int.toNat (0 : Int))) i))
    (b2fm (plus (plus (0 : Nat) (Int.toNat (0 : Int))) i)) fun (i1 : Nat) =>
    AV.sc (Value.int IntKind.i64 (b2ff (plus (plus (0 : Nat) (Int.toNat (0 : Int))) i) i1)))
    (AV.cons (1 : Nat)
    (AV.vec false (1 : Nat) r.fst r.snd.fst fun (i0 : Nat) => AV.sc (Value.int IntKind.i64 (r.snd.snd i0)))
    AV.nil))))
    res ∧
    SubOut [] []) from
    ⟨trivial, ⟨trivial, (And.elim (fun h2 k2 => ⟨(fun x3 => (fun h3 => ⟨trivial, ⟨trivial, ⟨trivial, ⟨⟨⟨trivial, trivial⟩, trivial⟩, (And.elim (fun h8 k8 => ⟨((fun h9 => ⟨((fun h10 => ⟨h10, trivial⟩) h9), trivial⟩) h8), (And.elim (fun h9 k9 => ⟨(And.elim (fun h10 k10 => ⟨h10, ⟨⟨h8, rfl⟩, (And.elim (fun h12 k12 => ⟨h12, k12⟩) k10)⟩⟩) h9), ⟨trivial, ⟨trivial, ⟨trivial, ⟨trivial, (And.elim (fun h14 k14 => ⟨⟨⟨trivial, ⟨Sub.refl _, ⟨trivial, ⟨Sub.refl _, ⟨trivial, ⟨Sub.refl _, ⟨trivial, ⟨Sub.refl _, trivial⟩⟩⟩⟩⟩⟩⟩⟩, ⟨⟨trivial, ⟨trivial, ⟨trivial, ⟨trivial, trivial⟩⟩⟩⟩, ⟨SubB.refl _, ⟨⟨trivial, ⟨trivial, ⟨trivial, ⟨trivial, trivial⟩⟩⟩⟩, ⟨SubB.refl _, ⟨trivial, ((fun h21 => ⟨h21, trivial⟩) h14)⟩⟩⟩⟩⟩⟩, k14⟩) k9)⟩⟩⟩⟩⟩) k8)⟩) h3)⟩⟩⟩⟩) (h2 x3)), (fun x3 => (fun h3 => ⟨trivial, ⟨trivial, ⟨⟨rfl, trivial⟩, ⟨trivial, (And.elim (fun h8 k8 => ⟨(And.elim (fun h9 k9 => ⟨h9, (And.elim (fun h10 k10 => ⟨h10, (And.elim (fun h11 k11 => ⟨h11, k11⟩) k10)⟩) k9)⟩) h8), ⟨trivial, ⟨⟨rfl, trivial⟩, ⟨trivial, ⟨⟨rfl, trivial⟩, (Exists.elim k8 fun x13 h13 => ⟨x13, (And.elim (fun h14 k14 => ⟨⟨⟨trivial, trivial⟩, ⟨trivial, h14⟩⟩, ⟨trivial, ⟨⟨rfl, trivial⟩, ⟨⟨rfl, trivial⟩, ⟨⟨rfl, trivial⟩, ⟨⟨rfl, trivial⟩, (And.elim (fun h20 k20 => ⟨((fun h21 => ⟨((fun h22 => ⟨⟨trivial, ⟨trivial, ((fun h25 => ⟨h25, ⟨trivial, trivial⟩⟩) h22)⟩⟩, ⟨Sub.refl _, trivial⟩⟩) h21), trivial⟩) h20), ((fun h21 => ⟨h21, trivial⟩) k20)⟩) k14)⟩⟩⟩⟩⟩⟩) h13)⟩)⟩⟩⟩⟩⟩) h3)⟩⟩⟩⟩) (k2 x3))⟩) h)⟩⟩)
theorem hf17 : Go.Proofs.Try.prog.funcs[17]? = some Go.Proofs.Try.f17 := by kernel_rfl
abbrev s17_e (da : Int) (dbaf : Nat → Int) (dbban : Nat) (dbbafn : Nat → Nat) (dbbaff : Nat → Nat → Int) (dbbban : Nat) (dbbbaf : Nat → Int) (text : ByteArray) (at_ : Int) : List (Nat × AV) := [(0, (.cons 1 (.sc (.int .i64 da)) (.cons 256 (.ar 256 1 (fun i0 => (.sc (.int .u8 (dbaf i0))))) (.cons 1 (.vec true 1 dbban dbban (fun i0 => (.vec true 1 (dbbafn i0) (dbbafn i0) (fun i1 => (.sc (.int .i64 (dbbaff i0 i1))))))) (.cons 1 (.vec true 1 dbbban dbbban (fun i0 => (.sc (.int .i64 (dbbbaf i0))))) .nil))))), (1, (.sc (.string text))), (2, (.sc (.int .i64 at_)))]
abbrev m17_e (da : Int) (dbaf : Nat → Int) (dbban : Nat) (dbbafn : Nat → Nat) (dbbaff : Nat → Nat → Int) (dbbban : Nat) (dbbbaf : Nat → Int) (text : ByteArray) (at_ : Int) : List (Nat × Nat × AV) := []
def L17_e (da : Int) (dbaf : Nat → Int) (dbban : Nat) (dbbafn : Nat → Nat) (dbbaff : Nat → Nat → Int) (dbbban : Nat) (dbbbaf : Nat → Int) (text : ByteArray) (at_ : Int) (res : AV) : Prop := Goes ⟨Go.Proofs.Try.prog, 17, [], res, []⟩ (place Go.Proofs.Try.f17 []) (s17_e da dbaf dbban dbbafn dbbaff dbbban dbbbaf text at_) (m17_e da dbaf dbban dbbafn dbbaff dbbban dbbbaf text at_)
theorem a17_e (da : Int) (dbaf : Nat → Int) (dbban : Nat) (dbbafn : Nat → Nat) (dbbaff : Nat → Nat → Int) (dbbban : Nat) (dbbbaf : Nat → Int) (text : ByteArray) (at_ : Int) (res : AV) (h : (∀ slot, fact (look .undef (s17_e da dbaf dbban dbbafn dbbaff dbbban dbbbaf text at_) slot)) → L17_e da dbaf dbban dbbafn dbbaff dbbban dbbbaf text at_ res) : L17_e da dbaf dbban dbbafn dbbaff dbbban dbbbaf text at_ res :=
  assumeRule 17 [] Go.Proofs.Try.f17 hf17 [] (s17_e da dbaf dbban dbbafn dbbaff dbbban dbbbaf text at_) (m17_e da dbaf dbban dbbafn dbbaff dbbban dbbbaf text at_) res [] _ (by kernel_rfl) h
theorem o17 (da : Int) (dbaf : Nat → Int) (dbban : Nat) (dbbafn : Nat → Nat) (dbbaff : Nat → Nat → Int) (dbbban : Nat) (dbbbaf : Nat → Int) (text : ByteArray) (at_ : Int) (res : AV) (hnew : newOnly res) (h : L17_e da dbaf dbban dbbafn dbbaff dbbban dbbbaf text at_ res) : Ok Go.Proofs.Try.prog 17 [(.cons 1 (.sc (.int .i64 da)) (.cons 256 (.ar 256 1 (fun i0 => (.sc (.int .u8 (dbaf i0))))) (.cons 1 (.vec true 1 dbban dbban (fun i0 => (.vec true 1 (dbbafn i0) (dbbafn i0) (fun i1 => (.sc (.int .i64 (dbbaff i0 i1))))))) (.cons 1 (.vec true 1 dbbban dbbban (fun i0 => (.sc (.int .i64 (dbbbaf i0))))) .nil)))), (.sc (.string text)), (.sc (.int .i64 at_))] [] res [] :=
  okRule2 17 Go.Proofs.Try.f17 hf17 [(.cons 1 (.sc (.int .i64 da)) (.cons 256 (.ar 256 1 (fun i0 => (.sc (.int .u8 (dbaf i0))))) (.cons 1 (.vec true 1 dbban dbban (fun i0 => (.vec true 1 (dbbafn i0) (dbbafn i0) (fun i1 => (.sc (.int .i64 (dbbaff i0 i1))))))) (.cons 1 (.vec true 1 dbbban dbbban (fun i0 => (.sc (.int .i64 (dbbbaf i0))))) .nil)))), (.sc (.string text)), (.sc (.int .i64 at_))] [] res [] [] rfl (by kernel_rfl) (by kernel_rfl) (by kernel_rfl) ⟨hnew, by simp⟩ (L17_e da dbaf dbban dbbafn dbbaff dbbban dbbbaf text at_ res) (by kernel_rfl) h
theorem r17_e (da : Int) (dbaf : Nat → Int) (dbban : Nat) (dbbafn : Nat → Nat) (dbbaff : Nat → Nat → Int) (dbbban : Nat) (dbbbaf : Nat → Int) (text : ByteArray) (at_ : Int) (res : AV)
    (h : ∃ (r : Int),
  Ok Proofs.Try.prog (54 : Nat)
    [AV.cons (1 : Nat) (AV.sc (Value.int IntKind.i64 da))
    (AV.cons (256 : Nat) (AV.ar (256 : Nat) (1 : Nat) fun (i : Nat) => AV.sc (Value.int IntKind.u8 (dbaf i)))
    (AV.cons (1 : Nat)
    (AV.vec true (1 : Nat) dbban dbban fun (i : Nat) =>
    AV.vec true (1 : Nat) (dbbafn i) (dbbafn i) fun (i_1 : Nat) => AV.sc (Value.int IntKind.i64 (dbbaff i i_1)))
    (AV.cons (1 : Nat) (AV.vec true (1 : Nat) dbbban dbbban fun (i : Nat) => AV.sc (Value.int IntKind.i64 (dbbbaf i))) AV.nil)))]
    [] (AV.sc (Value.int IntKind.i64 r)) [] ∧
    ((r != (0 : Int)) = true →
    Sub
    (AV.cons (1 : Nat)
    (AV.cons (1 : Nat) (AV.sc (Value.int IntKind.i64 (0 : Int)))
    (AV.cons (1 : Nat) (AV.sc (Value.int IntKind.i64 (0 : Int))) (AV.cons (1 : Nat) (AV.sc (Value.int IntKind.i64 (0 : Int))) AV.nil)))
    (AV.cons (1 : Nat) (AV.sc (Value.int IntKind.i64 r)) AV.nil)).tup
    res) ∧
    ((r != (0 : Int)) = false →
    (decide (at_ < (0 : Int)) = false →
    (decide (at_ ≥ (↑text.size : Int)) = true →
    Sub
    (AV.cons (1 : Nat)
    (AV.cons (1 : Nat) (AV.sc (Value.int IntKind.i64 (0 : Int)))
    (AV.cons (1 : Nat) (AV.sc (Value.int IntKind.i64 (0 : Int))) (AV.cons (1 : Nat) (AV.sc (Value.int IntKind.i64 (0 : Int))) AV.nil)))
    (AV.cons (1 : Nat) (AV.sc (Value.int IntKind.i64 (4 : Int))) AV.nil)).tup
    res) ∧
    (decide (at_ ≥ (↑text.size : Int)) = false →
    ∃ (r : Int × Int × Int),
    Ok Proofs.Try.prog (55 : Nat)
    [AV.cons (1 : Nat) (AV.sc (Value.int IntKind.i64 da))
    (AV.cons (256 : Nat) (AV.ar (256 : Nat) (1 : Nat) fun (i : Nat) => AV.sc (Value.int IntKind.u8 (dbaf i)))
    (AV.cons (1 : Nat)
    (AV.vec true (1 : Nat) dbban dbban fun (i : Nat) =>
    AV.vec true (1 : Nat) (dbbafn i) (dbbafn i) fun (i_1 : Nat) => AV.sc (Value.int IntKind.i64 (dbbaff i i_1)))
    (AV.cons (1 : Nat) (AV.vec true (1 : Nat) dbbban dbbban fun (i : Nat) => AV.sc (Value.int IntKind.i64 (dbbbaf i))) AV.nil))),
    AV.sc (Value.string text), AV.sc (Value.int IntKind.i64 at_)]
    []
    (AV.cons (1 : Nat) (AV.sc (Value.int IntKind.i64 r.fst))
    (AV.cons (1 : Nat) (AV.sc (Value.int IntKind.i64 r.snd.fst)) (AV.cons (1 : Nat) (AV.sc (Value.int IntKind.i64 r.snd.snd)) AV.nil)))
    [] ∧
    Sub
    (AV.cons (1 : Nat)
    (AV.cons (1 : Nat) (AV.sc (Value.int IntKind.i64 r.fst))
    (AV.cons (1 : Nat) (AV.sc (Value.int IntKind.i64 r.snd.fst)) (AV.cons (1 : Nat) (AV.sc (Value.int IntKind.i64 r.snd.snd)) AV.nil)))
    (AV.cons (1 : Nat) (AV.sc (Value.int IntKind.i64 (0 : Int))) AV.nil)).tup
    res)) ∧
    (decide (at_ < (0 : Int)) = !false →
    Sub
    (AV.cons (1 : Nat)
    (AV.cons (1 : Nat) (AV.sc (Value.int IntKind.i64 (0 : Int)))
    (AV.cons (1 : Nat) (AV.sc (Value.int IntKind.i64 (0 : Int))) (AV.cons (1 : Nat) (AV.sc (Value.int IntKind.i64 (0 : Int))) AV.nil)))
    (AV.cons (1 : Nat) (AV.sc (Value.int IntKind.i64 (4 : Int))) AV.nil)).tup
    res))) :
    L17_e da dbaf dbban dbbafn dbbaff dbbban dbbbaf text at_ res :=
  rule Go.Am.Seat.tabOk 17 [] Go.Proofs.Try.f17 hf17 [] (s17_e da dbaf dbban dbbafn dbbaff dbbban dbbbaf text at_) (m17_e da dbaf dbban dbbafn dbbaff dbbban dbbbaf text at_) res [] 400
    (Orc.call [] [] (fun (r54 : Int) => AV.sc (Value.int IntKind.i64 r54)) (fun (r54 : Int) => []) fun (r54 : Int) =>
  (Orc.fin
    (AV.cons (1 : Nat)
    (AV.cons (1 : Nat) (AV.sc (Value.int IntKind.i64 (0 : Int)))
    (AV.cons (1 : Nat) (AV.sc (Value.int IntKind.i64 (0 : Int))) (AV.cons (1 : Nat) (AV.sc (Value.int IntKind.i64 (0 : Int))) AV.nil)))
    (AV.cons (1 : Nat) (AV.sc (Value.int IntKind.i64 r54)) AV.nil)).tup
    [] []).br
    (((Orc.fin
    (AV.cons (1 : Nat)
    (AV.cons (1 : Nat) (AV.sc (Value.int IntKind.i64 (0 : Int)))
    (AV.cons (1 : Nat) (AV.sc (Value.int IntKind.i64 (0 : Int))) (AV.cons (1 : Nat) (AV.sc (Value.int IntKind.i64 (0 : Int))) AV.nil)))
    (AV.cons (1 : Nat) (AV.sc (Value.int IntKind.i64 (4 : Int))) AV.nil)).tup
    [] []).br
    (Orc.call [] []
    (fun (r55 : Int × Int × Int) =>
    AV.cons (1 : Nat) (AV.sc (Value.int IntKind.i64 r55.fst))
    (AV.cons (1 : Nat) (AV.sc (Value.int IntKind.i64 r55.snd.fst)) (AV.cons (1 : Nat) (AV.sc (Value.int IntKind.i64 r55.snd.snd)) AV.nil)))
    (fun (r55 : Int × Int × Int) => []) fun (r55 : Int × Int × Int) =>
    Orc.fin
    (AV.cons (1 : Nat)
    (AV.cons (1 : Nat) (AV.sc (Value.int IntKind.i64 r55.fst))
    (AV.cons (1 : Nat) (AV.sc (Value.int IntKind.i64 r55.snd.fst))
    (AV.cons (1 : Nat) (AV.sc (Value.int IntKind.i64 r55.snd.snd)) AV.nil)))
    (AV.cons (1 : Nat) (AV.sc (Value.int IntKind.i64 (0 : Int))) AV.nil)).tup
    [] [])).yes.yes.yes.br
    (Orc.fin
    (AV.cons (1 : Nat)
    (AV.cons (1 : Nat) (AV.sc (Value.int IntKind.i64 (0 : Int)))
    (AV.cons (1 : Nat) (AV.sc (Value.int IntKind.i64 (0 : Int))) (AV.cons (1 : Nat) (AV.sc (Value.int IntKind.i64 (0 : Int))) AV.nil)))
    (AV.cons (1 : Nat) (AV.sc (Value.int IntKind.i64 (4 : Int))) AV.nil)).tup
    [] []).yes.no.no.no)) _ _ (by kernel_rfl) (by kernel_rfl) (show True ∧
  True ∧
    True ∧
    ((0 : Nat) = (0 : Nat) ∧ True) ∧
    ∃ (r : Int),
    (((True ∧ True ∧ True ∧ True ∧ True) ∧ True) ∧
    True ∧
    Ok Proofs.Try.prog (54 : Nat)
    [AV.cons (1 : Nat) (AV.sc (Value.int IntKind.i64 da))
    (AV.cons (256 : Nat) (AV.ar (256 : Nat) (1 : Nat) fun (i : Nat) => AV.sc (Value.int IntKind.u8 (dbaf i)))
    (AV.cons (1 : Nat)
    (AV.vec true (1 : Nat) dbban dbban fun (i : Nat) =>
    AV.vec true (1 : Nat) (dbbafn i) (dbbafn i) fun (i_1 : Nat) => AV.sc (Value.int IntKind.i64 (dbbaff i i_1)))
    (AV.cons (1 : Nat) (AV.vec true (1 : Nat) dbbban dbbban fun (i : Nat) => AV.sc (Value.int IntKind.i64 (dbbbaf i))) AV.nil)))]
    [] (AV.sc (Value.int IntKind.i64 r)) []) ∧
    True ∧
    True ∧
    True ∧
    ((r != (0 : Int)) = true →
    True ∧
    True ∧
    ((0 : Nat) = (0 : Nat) ∧ True) ∧
    True ∧
    (((0 : Nat) = (0 : Nat) ∧ True) ∧ True ∧ True) ∧
    ((((True ∧ True ∧ True ∧ True) ∧ True ∧ True) ∧
    Sub
    (AV.cons (1 : Nat)
    (AV.cons (1 : Nat) (AV.sc (Value.int IntKind.i64 (0 : Int)))
    (AV.cons (1 : Nat) (AV.sc (Value.int IntKind.i64 (0 : Int)))
    (AV.cons (1 : Nat) (AV.sc (Value.int IntKind.i64 (0 : Int))) AV.nil)))
    (AV.cons (1 : Nat) (AV.sc (Value.int IntKind.i64 r)) AV.nil)).tup
    (AV.cons (1 : Nat)
    (AV.cons (1 : Nat) (AV.sc (Value.int IntKind.i64 (0 : Int)))
    (AV.cons (1 : Nat) (AV.sc (Value.int IntKind.i64 (0 : Int)))
    (AV.cons (1 : Nat) (AV.sc (Value.int IntKind.i64 (0 : Int))) AV.nil)))
    (AV.cons (1 : Nat) (AV.sc (Value.int IntKind.i64 r)) AV.nil)).tup ∧
    True) ∧
    True) ∧
    Sub
    (AV.cons (1 : Nat)
    (AV.cons (1 : Nat) (AV.sc (Value.int IntKind.i64 (0 : Int)))
    (AV.cons (1 : Nat) (AV.sc (Value.int IntKind.i64 (0 : Int)))
    (AV.cons (1 : Nat) (AV.sc (Value.int IntKind.i64 (0 : Int))) AV.nil)))
    (AV.cons (1 : Nat) (AV.sc (Value.int IntKind.i64 r)) AV.nil)).tup
    res ∧
    SubOut [] []) ∧
    ((r != (0 : Int)) = false →
    True ∧
    True ∧
    True ∧
    (decide (at_ < (0 : Int)) = false →
    True ∧
    false = false ∧
    True ∧
    false = false ∧
    True ∧
    false = false ∧
    True ∧
    True ∧
    (decide (at_ ≥ (↑text.size : Int)) = true →
    True ∧
    ((0 : Nat) = (0 : Nat) ∧ True) ∧
    True ∧
    (((0 : Nat) = (0 : Nat) ∧ True) ∧ True ∧ True) ∧
    ((((True ∧ True ∧ True ∧ True) ∧ True ∧ True) ∧
    Sub
    (AV.cons (1 : Nat)
    (AV.cons (1 : Nat) (AV.sc (Value.int IntKind.i64 (0 : Int)))
    (AV.cons (1 : Nat) (AV.sc (Value.int IntKind.i64 (0 : Int)))
    (AV.cons (1 : Nat) (AV.sc (Value.int IntKind.i64 (0 : Int))) AV.nil)))
    (AV.cons (1 : Nat) (AV.sc (Value.int IntKind.i64 (4 : Int))) AV.nil)).tup
    (AV.cons (1 : Nat)
    (AV.cons (1 : Nat) (AV.sc (Value.int IntKind.i64 (0 : Int)))
    (AV.cons (1 : Nat) (AV.sc (Value.int IntKind.i64 (0 : Int)))
    (AV.cons (1 : Nat) (AV.sc (Value.int IntKind.i64 (0 : Int))) AV.nil)))
    (AV.cons (1 : Nat) (AV.sc (Value.int IntKind.i64 (4 : Int))) AV.nil)).tup ∧
    True) ∧
    True) ∧
    Sub
    (AV.cons (1 : Nat)
    (AV.cons (1 : Nat) (AV.sc (Value.int IntKind.i64 (0 : Int)))
    (AV.cons (1 : Nat) (AV.sc (Value.int IntKind.i64 (0 : Int)))
    (AV.cons (1 : Nat) (AV.sc (Value.int IntKind.i64 (0 : Int))) AV.nil)))
    (AV.cons (1 : Nat) (AV.sc (Value.int IntKind.i64 (4 : Int))) AV.nil)).tup
    res ∧
    SubOut [] []) ∧
    (decide (at_ ≥ (↑text.size : Int)) = false →
    ((0 : Nat) = (0 : Nat) ∧ True) ∧
    True ∧
    True ∧
    ∃ (r : Int × Int × Int),
    (((True ∧ True ∧ True ∧ True ∧ True) ∧ True ∧ True ∧ True) ∧
    True ∧
    Ok Proofs.Try.prog (55 : Nat)
    [AV.cons (1 : Nat) (AV.sc (Value.int IntKind.i64 da))
    (AV.cons (256 : Nat)
    (AV.ar (256 : Nat) (1 : Nat) fun (i : Nat) => AV.sc (Value.int IntKind.u8 (dbaf i)))
    (AV.cons (1 : Nat)
    (AV.vec true (1 : Nat) dbban dbban fun (i : Nat) =>
    AV.vec true (1 : Nat) (dbbafn i) (dbbafn i) fun (i_1 : Nat) =>
    AV.sc (Value.int IntKind.i64 (dbbaff i i_1)))
    (AV.cons (1 : Nat)
    (AV.vec true (1 : Nat) dbbban dbbban fun (i : Nat) =>
    AV.sc (Value.int IntKind.i64 (dbbbaf i)))
    AV.nil))),
    AV.sc (Value.string text), AV.sc (Value.int IntKind.i64 at_)]
    []
    (AV.cons (1 : Nat) (AV.sc (Value.int IntKind.i64 r.fst))
    (AV.cons (1 : Nat) (AV.sc (Value.int IntKind.i64 r.snd.fst))
    (AV.cons (1 : Nat) (AV.sc (Value.int IntKind.i64 r.snd.snd)) AV.nil)))
    []) ∧
    ((0 : Nat) = (0 : Nat) ∧ True) ∧
    True ∧
    (((0 : Nat) = (0 : Nat) ∧ True) ∧ True ∧ True) ∧
    ((((True ∧ True ∧ True ∧ True) ∧ True ∧ True) ∧
    Sub
    (AV.cons (1 : Nat)
    (AV.cons (1 : Nat) (AV.sc (Value.int IntKind.i64 r.fst))
    (AV.cons (1 : Nat) (AV.sc (Value.int IntKind.i64 r.snd.fst))
    (AV.cons (1 : Nat) (AV.sc (Value.int IntKind.i64 r.snd.snd)) AV.nil)))
    (AV.cons (1 : Nat) (AV.sc (Value.int IntKind.i64 (0 : Int))) AV.nil)).tup
    (AV.cons (1 : Nat)
    (AV.cons (1 : Nat) (AV.sc (Value.int IntKind.i64 r.fst))
    (AV.cons (1 : Nat) (AV.sc (Value.int IntKind.i64 r.snd.fst))
    (AV.cons (1 : Nat) (AV.sc (Value.int IntKind.i64 r.snd.snd)) AV.nil)))
    (AV.cons (1 : Nat) (AV.sc (Value.int IntKind.i64 (0 : Int))) AV.nil)).tup ∧
    True) ∧
    True) ∧
    Sub
    (AV.cons (1 : Nat)
    (AV.cons (1 : Nat) (AV.sc (Value.int IntKind.i64 r.fst))
    (AV.cons (1 : Nat) (AV.sc (Value.int IntKind.i64 r.snd.fst))
    (AV.cons (1 : Nat) (AV.sc (Value.int IntKind.i64 r.snd.snd)) AV.nil)))
    (AV.cons (1 : Nat) (AV.sc (Value.int IntKind.i64 (0 : Int))) AV.nil)).tup
    res ∧
    SubOut [] [])) ∧
    (decide (at_ < (0 : Int)) = !false →
    true = true ∧
    (!false) = !false ∧
    true = true ∧
    (!false) = !false ∧
    true = true ∧
    (!false) = !false ∧
    true = true ∧
    True ∧
    true = true ∧
    True ∧
    ((0 : Nat) = (0 : Nat) ∧ True) ∧
    True ∧
    (((0 : Nat) = (0 : Nat) ∧ True) ∧ True ∧ True) ∧
    ((((True ∧ True ∧ True ∧ True) ∧ True ∧ True) ∧
    Sub
    (AV.cons (1 : Nat)
    (AV.cons (1 : Nat) (AV.sc (Value.int IntKind.i64 (0 : Int)))
    (AV.cons (1 : Nat) (AV.sc (Value.int IntKind.i64 (0 : Int)))
    (AV.cons (1 : Nat) (AV.sc (Value.int IntKind.i64 (0 : Int))) AV.nil)))
    (AV.cons (1 : Nat) (AV.sc (Value.int IntKind.i64 (4 : Int))) AV.nil)).tup
    (AV.cons (1 : Nat)
    (AV.cons (1 : Nat) (AV.sc (Value.int IntKind.i64 (0 : Int)))
    (AV.cons (1 : Nat) (AV.sc (Value.int IntKind.i64 (0 : Int)))
    (AV.cons (1 : Nat) (AV.sc (Value.int IntKind.i64 (0 : Int))) AV.nil)))
    (AV.cons (1 : Nat) (AV.sc (Value.int IntKind.i64 (4 : Int))) AV.nil)).tup ∧
    True) ∧
    True) ∧
    Sub
    (AV.cons (1 : Nat)
    (AV.cons (1 : Nat) (AV.sc (Value.int IntKind.i64 (0 : Int)))
    (AV.cons (1 : Nat) (AV.sc (Value.int IntKind.i64 (0 : Int)))
    (AV.cons (1 : Nat) (AV.sc (Value.int IntKind.i64 (0 : Int))) AV.nil)))
    (AV.cons (1 : Nat) (AV.sc (Value.int IntKind.i64 (4 : Int))) AV.nil)).tup
    res ∧
    SubOut [] [])) from
    ⟨trivial, ⟨trivial, ⟨trivial, ⟨⟨rfl, trivial⟩, (Exists.elim h fun x4 h4 => ⟨x4, (And.elim (fun h5 k5 => ⟨⟨⟨⟨trivial, ⟨trivial, ⟨trivial, ⟨trivial, trivial⟩⟩⟩⟩, trivial⟩, ⟨trivial, h5⟩⟩, ⟨trivial, ⟨trivial, ⟨trivial, (And.elim (fun h9 k9 => ⟨(fun x10 => (fun h10 => ⟨trivial, ⟨trivial, ⟨⟨rfl, trivial⟩, ⟨trivial, ⟨⟨⟨rfl, trivial⟩, ⟨trivial, trivial⟩⟩, ⟨⟨⟨⟨⟨trivial, ⟨trivial, ⟨trivial, trivial⟩⟩⟩, ⟨trivial, trivial⟩⟩, ⟨Sub.refl _, trivial⟩⟩, trivial⟩, ((fun h17 => ⟨h17, trivial⟩) h10)⟩⟩⟩⟩⟩⟩) (h9 x10)), (fun x10 => (fun h10 => ⟨trivial, ⟨trivial, ⟨trivial, (And.elim (fun h14 k14 => ⟨(fun x15 => (fun h15 => ⟨trivial, ⟨rfl, ⟨trivial, ⟨rfl, ⟨trivial, ⟨rfl, ⟨trivial, ⟨trivial, (And.elim (fun h24 k24 => ⟨(fun x25 => (fun h25 => ⟨trivial, ⟨⟨rfl, trivial⟩, ⟨trivial, ⟨⟨⟨rfl, trivial⟩, ⟨trivial, trivial⟩⟩, ⟨⟨⟨⟨⟨trivial, ⟨trivial, ⟨trivial, trivial⟩⟩⟩, ⟨trivial, trivial⟩⟩, ⟨Sub.refl _, trivial⟩⟩, trivial⟩, ((fun h31 => ⟨h31, trivial⟩) h25)⟩⟩⟩⟩⟩) (h24 x25)), (fun x25 => (fun h25 => ⟨⟨rfl, trivial⟩, ⟨trivial, ⟨trivial, (Exists.elim h25 fun x29 h29 => ⟨x29, (And.elim (fun h30 k30 => ⟨⟨⟨⟨trivial, ⟨trivial, ⟨trivial, ⟨trivial, trivial⟩⟩⟩⟩, ⟨trivial, ⟨trivial, trivial⟩⟩⟩, ⟨trivial, h30⟩⟩, ⟨⟨rfl, trivial⟩, ⟨trivial, ⟨⟨⟨rfl, trivial⟩, ⟨trivial, trivial⟩⟩, ⟨⟨⟨⟨⟨trivial, ⟨trivial, ⟨trivial, trivial⟩⟩⟩, ⟨trivial, trivial⟩⟩, ⟨Sub.refl _, trivial⟩⟩, trivial⟩, ((fun h35 => ⟨h35, trivial⟩) k30)⟩⟩⟩⟩⟩) h29)⟩)⟩⟩⟩) (k24 x25))⟩) h15)⟩⟩⟩⟩⟩⟩⟩⟩) (h14 x15)), (fun x15 => (fun h15 => ⟨rfl, ⟨rfl, ⟨rfl, ⟨rfl, ⟨rfl, ⟨rfl, ⟨rfl, ⟨trivial, ⟨rfl, ⟨trivial, ⟨⟨rfl, trivial⟩, ⟨trivial, ⟨⟨⟨rfl, trivial⟩, ⟨trivial, trivial⟩⟩, ⟨⟨⟨⟨⟨trivial, ⟨trivial, ⟨trivial, trivial⟩⟩⟩, ⟨trivial, trivial⟩⟩, ⟨Sub.refl _, trivial⟩⟩, trivial⟩, ((fun h30 => ⟨h30, trivial⟩) h15)⟩⟩⟩⟩⟩⟩⟩⟩⟩⟩⟩⟩⟩⟩) (k14 x15))⟩) h10)⟩⟩⟩) (k9 x10))⟩) k5)⟩⟩⟩⟩) h4)⟩)⟩⟩⟩⟩)
theorem hf18 : Go.Proofs.Try.prog.funcs[18]? = some Go.Proofs.Try.f18 := by kernel_rfl
abbrev s18_e (da : Int) (dbaf : Nat → Int) (dbban : Nat) (dbbafn : Nat → Nat) (dbbaff : Nat → Nat → Int) (dbbban : Nat) (dbbbaf : Nat → Int) (text : ByteArray) (at_ : Int) : List (Nat × AV) := [(0, (.cons 1 (.sc (.int .i64 da)) (.cons 256 (.ar 256 1 (fun i0 => (.sc (.int .u8 (dbaf i0))))) (.cons 1 (.vec true 1 dbban dbban (fun i0 => (.vec true 1 (dbbafn i0) (dbbafn i0) (fun i1 => (.sc (.int .i64 (dbbaff i0 i1))))))) (.cons 1 (.vec true 1 dbbban dbbban (fun i0 => (.sc (.int .i64 (dbbbaf i0))))) .nil))))), (1, (.sc (.string text))), (2, (.sc (.int .i64 at_)))]
abbrev m18_e (da : Int) (dbaf : Nat → Int) (dbban : Nat) (dbbafn : Nat → Nat) (dbbaff : Nat → Nat → Int) (dbbban : Nat) (dbbbaf : Nat → Int) (text : ByteArray) (at_ : Int) : List (Nat × Nat × AV) := []
def L18_e (da : Int) (dbaf : Nat → Int) (dbban : Nat) (dbbafn : Nat → Nat) (dbbaff : Nat → Nat → Int) (dbbban : Nat) (dbbbaf : Nat → Int) (text : ByteArray) (at_ : Int) (res : AV) : Prop := Goes ⟨Go.Proofs.Try.prog, 18, [], res, []⟩ (place Go.Proofs.Try.f18 []) (s18_e da dbaf dbban dbbafn dbbaff dbbban dbbbaf text at_) (m18_e da dbaf dbban dbbafn dbbaff dbbban dbbbaf text at_)
theorem a18_e (da : Int) (dbaf : Nat → Int) (dbban : Nat) (dbbafn : Nat → Nat) (dbbaff : Nat → Nat → Int) (dbbban : Nat) (dbbbaf : Nat → Int) (text : ByteArray) (at_ : Int) (res : AV) (h : (∀ slot, fact (look .undef (s18_e da dbaf dbban dbbafn dbbaff dbbban dbbbaf text at_) slot)) → L18_e da dbaf dbban dbbafn dbbaff dbbban dbbbaf text at_ res) : L18_e da dbaf dbban dbbafn dbbaff dbbban dbbbaf text at_ res :=
  assumeRule 18 [] Go.Proofs.Try.f18 hf18 [] (s18_e da dbaf dbban dbbafn dbbaff dbbban dbbbaf text at_) (m18_e da dbaf dbban dbbafn dbbaff dbbban dbbbaf text at_) res [] _ (by kernel_rfl) h
theorem o18 (da : Int) (dbaf : Nat → Int) (dbban : Nat) (dbbafn : Nat → Nat) (dbbaff : Nat → Nat → Int) (dbbban : Nat) (dbbbaf : Nat → Int) (text : ByteArray) (at_ : Int) (res : AV) (hnew : newOnly res) (h : L18_e da dbaf dbban dbbafn dbbaff dbbban dbbbaf text at_ res) : Ok Go.Proofs.Try.prog 18 [(.cons 1 (.sc (.int .i64 da)) (.cons 256 (.ar 256 1 (fun i0 => (.sc (.int .u8 (dbaf i0))))) (.cons 1 (.vec true 1 dbban dbban (fun i0 => (.vec true 1 (dbbafn i0) (dbbafn i0) (fun i1 => (.sc (.int .i64 (dbbaff i0 i1))))))) (.cons 1 (.vec true 1 dbbban dbbban (fun i0 => (.sc (.int .i64 (dbbbaf i0))))) .nil)))), (.sc (.string text)), (.sc (.int .i64 at_))] [] res [] :=
  okRule2 18 Go.Proofs.Try.f18 hf18 [(.cons 1 (.sc (.int .i64 da)) (.cons 256 (.ar 256 1 (fun i0 => (.sc (.int .u8 (dbaf i0))))) (.cons 1 (.vec true 1 dbban dbban (fun i0 => (.vec true 1 (dbbafn i0) (dbbafn i0) (fun i1 => (.sc (.int .i64 (dbbaff i0 i1))))))) (.cons 1 (.vec true 1 dbbban dbbban (fun i0 => (.sc (.int .i64 (dbbbaf i0))))) .nil)))), (.sc (.string text)), (.sc (.int .i64 at_))] [] res [] [] rfl (by kernel_rfl) (by kernel_rfl) (by kernel_rfl) ⟨hnew, by simp⟩ (L18_e da dbaf dbban dbbafn dbbaff dbbban dbbbaf text at_ res) (by kernel_rfl) h
theorem r18_e (da : Int) (dbaf : Nat → Int) (dbban : Nat) (dbbafn : Nat → Nat) (dbbaff : Nat → Nat → Int) (dbbban : Nat) (dbbbaf : Nat → Int) (text : ByteArray) (at_ : Int) (res : AV)
    (h : ∃ (r : Int),
  Ok Proofs.Try.prog (56 : Nat)
    [AV.cons (1 : Nat) (AV.sc (Value.int IntKind.i64 da))
    (AV.cons (256 : Nat) (AV.ar (256 : Nat) (1 : Nat) fun (i : Nat) => AV.sc (Value.int IntKind.u8 (dbaf i)))
    (AV.cons (1 : Nat)
    (AV.vec true (1 : Nat) dbban dbban fun (i : Nat) =>
    AV.vec true (1 : Nat) (dbbafn i) (dbbafn i) fun (i_1 : Nat) => AV.sc (Value.int IntKind.i64 (dbbaff i i_1)))
    (AV.cons (1 : Nat) (AV.vec true (1 : Nat) dbbban dbbban fun (i : Nat) => AV.sc (Value.int IntKind.i64 (dbbbaf i))) AV.nil)))]
    [] (AV.sc (Value.int IntKind.i64 r)) [] ∧
    ((r != (0 : Int)) = true →
    Sub
    (AV.cons (1 : Nat)
    (AV.cons (1 : Nat) (AV.sc (Value.int IntKind.i64 (0 : Int)))
    (AV.cons (1 : Nat) (AV.sc (Value.int IntKind.i64 (0 : Int))) (AV.cons (1 : Nat) (AV.sc (Value.int IntKind.i64 (0 : Int))) AV.nil)))
    (AV.cons (1 : Nat) (AV.sc (Value.int IntKind.i64 r)) AV.nil)).tup
    res) ∧
    ((r != (0 : Int)) = false →
    (decide (at_ < (0 : Int)) = false →
    (decide (at_ ≥ (↑text.size : Int)) = true →
    Sub
    (AV.cons (1 : Nat)
    (AV.cons (1 : Nat) (AV.sc (Value.int IntKind.i64 (0 : Int)))
    (AV.cons (1 : Nat) (AV.sc (Value.int IntKind.i64 (0 : Int))) (AV.cons (1 : Nat) (AV.sc (Value.int IntKind.i64 (0 : Int))) AV.nil)))
    (AV.cons (1 : Nat) (AV.sc (Value.int IntKind.i64 (4 : Int))) AV.nil)).tup
    res) ∧
    (decide (at_ ≥ (↑text.size : Int)) = false →
    ((0 : Int) ≤ at_ ∧ at_ ≤ (↑text.size : Int) ∧ (↑text.size : Int) ≤ (↑text.size : Int)) ∧
    ∃ (r : Int × Int × Int),
    Ok Proofs.Try.prog (57 : Nat)
    [AV.cons (1 : Nat) (AV.sc (Value.int IntKind.i64 da))
    (AV.cons (256 : Nat) (AV.ar (256 : Nat) (1 : Nat) fun (i : Nat) => AV.sc (Value.int IntKind.u8 (dbaf i)))
    (AV.cons (1 : Nat)
    (AV.vec true (1 : Nat) dbban dbban fun (i : Nat) =>
    AV.vec true (1 : Nat) (dbbafn i) (dbbafn i) fun (i_1 : Nat) => AV.sc (Value.int IntKind.i64 (dbbaff i i_1)))
    (AV.cons (1 : Nat) (AV.vec true (1 : Nat) dbbban dbbban fun (i : Nat) => AV.sc (Value.int IntKind.i64 (dbbbaf i))) AV.nil))),
    AV.sc (Value.string (text.extract at_.toNat (↑text.size : Int).toNat))]
    []
    (AV.cons (1 : Nat) (AV.sc (Value.int IntKind.i64 r.fst))
    (AV.cons (1 : Nat) (AV.sc (Value.int IntKind.i64 r.snd.fst)) (AV.cons (1 : Nat) (AV.sc (Value.int IntKind.i64 r.snd.snd)) AV.nil)))
    [] ∧
    Sub
    (AV.cons (1 : Nat)
    (AV.cons (1 : Nat) (AV.sc (Value.int IntKind.i64 r.fst))
    (AV.cons (1 : Nat) (AV.sc (Value.int IntKind.i64 r.snd.fst))
    (AV.cons (1 : Nat) (AV.sc (Value.int IntKind.i64 r.snd.snd)) AV.nil)))
    (AV.cons (1 : Nat) (AV.sc (Value.int IntKind.i64 (0 : Int))) AV.nil)).tup
    res)) ∧
    (decide (at_ < (0 : Int)) = !false →
    Sub
    (AV.cons (1 : Nat)
    (AV.cons (1 : Nat) (AV.sc (Value.int IntKind.i64 (0 : Int)))
    (AV.cons (1 : Nat) (AV.sc (Value.int IntKind.i64 (0 : Int))) (AV.cons (1 : Nat) (AV.sc (Value.int IntKind.i64 (0 : Int))) AV.nil)))
    (AV.cons (1 : Nat) (AV.sc (Value.int IntKind.i64 (4 : Int))) AV.nil)).tup
    res))) :
    L18_e da dbaf dbban dbbafn dbbaff dbbban dbbbaf text at_ res :=
  rule Go.Am.Seat.tabOk 18 [] Go.Proofs.Try.f18 hf18 [] (s18_e da dbaf dbban dbbafn dbbaff dbbban dbbbaf text at_) (m18_e da dbaf dbban dbbafn dbbaff dbbban dbbbaf text at_) res [] 400
    (Orc.call [] [] (fun (r56 : Int) => AV.sc (Value.int IntKind.i64 r56)) (fun (r56 : Int) => []) fun (r56 : Int) =>
  (Orc.fin
    (AV.cons (1 : Nat)
    (AV.cons (1 : Nat) (AV.sc (Value.int IntKind.i64 (0 : Int)))
    (AV.cons (1 : Nat) (AV.sc (Value.int IntKind.i64 (0 : Int))) (AV.cons (1 : Nat) (AV.sc (Value.int IntKind.i64 (0 : Int))) AV.nil)))
    (AV.cons (1 : Nat) (AV.sc (Value.int IntKind.i64 r56)) AV.nil)).tup
    [] []).br
    (((Orc.fin
    (AV.cons (1 : Nat)
    (AV.cons (1 : Nat) (AV.sc (Value.int IntKind.i64 (0 : Int)))
    (AV.cons (1 : Nat) (AV.sc (Value.int IntKind.i64 (0 : Int))) (AV.cons (1 : Nat) (AV.sc (Value.int IntKind.i64 (0 : Int))) AV.nil)))
    (AV.cons (1 : Nat) (AV.sc (Value.int IntKind.i64 (4 : Int))) AV.nil)).tup
    [] []).br
    (Orc.call [] []
    (fun (r57 : Int × Int × Int) =>
    AV.cons (1 : Nat) (AV.sc (Value.int IntKind.i64 r57.fst))
    (AV.cons (1 : Nat) (AV.sc (Value.int IntKind.i64 r57.snd.fst)) (AV.cons (1 : Nat) (AV.sc (Value.int IntKind.i64 r57.snd.snd)) AV.nil)))
    (fun (r57 : Int × Int × Int) => []) fun (r57 : Int × Int × Int) =>
    Orc.fin
    (AV.cons (1 : Nat)
    (AV.cons (1 : Nat) (AV.sc (Value.int IntKind.i64 r57.fst))
    (AV.cons (1 : Nat) (AV.sc (Value.int IntKind.i64 r57.snd.fst))
    (AV.cons (1 : Nat) (AV.sc (Value.int IntKind.i64 r57.snd.snd)) AV.nil)))
    (AV.cons (1 : Nat) (AV.sc (Value.int IntKind.i64 (0 : Int))) AV.nil)).tup
    [] [])).yes.yes.yes.br
    (Orc.fin
    (AV.cons (1 : Nat)
    (AV.cons (1 : Nat) (AV.sc (Value.int IntKind.i64 (0 : Int)))
    (AV.cons (1 : Nat) (AV.sc (Value.int IntKind.i64 (0 : Int))) (AV.cons (1 : Nat) (AV.sc (Value.int IntKind.i64 (0 : Int))) AV.nil)))
    (AV.cons (1 : Nat) (AV.sc (Value.int IntKind.i64 (4 : Int))) AV.nil)).tup
    [] []).yes.no.no.no)) _ _ (by kernel_rfl) (by kernel_rfl) (show True ∧
  True ∧
    True ∧
    ((0 : Nat) = (0 : Nat) ∧ True) ∧
    ∃ (r : Int),
    (((True ∧ True ∧ True ∧ True ∧ True) ∧ True) ∧
    True ∧
    Ok Proofs.Try.prog (56 : Nat)
    [AV.cons (1 : Nat) (AV.sc (Value.int IntKind.i64 da))
    (AV.cons (256 : Nat) (AV.ar (256 : Nat) (1 : Nat) fun (i : Nat) => AV.sc (Value.int IntKind.u8 (dbaf i)))
    (AV.cons (1 : Nat)
    (AV.vec true (1 : Nat) dbban dbban fun (i : Nat) =>
    AV.vec true (1 : Nat) (dbbafn i) (dbbafn i) fun (i_1 : Nat) => AV.sc (Value.int IntKind.i64 (dbbaff i i_1)))
    (AV.cons (1 : Nat) (AV.vec true (1 : Nat) dbbban dbbban fun (i : Nat) => AV.sc (Value.int IntKind.i64 (dbbbaf i))) AV.nil)))]
    [] (AV.sc (Value.int IntKind.i64 r)) []) ∧
    True ∧
    True ∧
    True ∧
    ((r != (0 : Int)) = true →
    True ∧
    True ∧
    ((0 : Nat) = (0 : Nat) ∧ True) ∧
    True ∧
    (((0 : Nat) = (0 : Nat) ∧ True) ∧ True ∧ True) ∧
    ((((True ∧ True ∧ True ∧ True) ∧ True ∧ True) ∧
    Sub
    (AV.cons (1 : Nat)
    (AV.cons (1 : Nat) (AV.sc (Value.int IntKind.i64 (0 : Int)))
    (AV.cons (1 : Nat) (AV.sc (Value.int IntKind.i64 (0 : Int)))
    (AV.cons (1 : Nat) (AV.sc (Value.int IntKind.i64 (0 : Int))) AV.nil)))
    (AV.cons (1 : Nat) (AV.sc (Value.int IntKind.i64 r)) AV.nil)).tup
    (AV.cons (1 : Nat)
    (AV.cons (1 : Nat) (AV.sc (Value.int IntKind.i64 (0 : Int)))
    (AV.cons (1 : Nat) (AV.sc (Value.int IntKind.i64 (0 : Int)))
    (AV.cons (1 : Nat) (AV.sc (Value.int IntKind.i64 (0 : Int))) AV.nil)))
    (AV.cons (1 : Nat) (AV.sc (Value.int IntKind.i64 r)) AV.nil)).tup ∧
    True) ∧
    True) ∧
    Sub
    (AV.cons (1 : Nat)
    (AV.cons (1 : Nat) (AV.sc (Value.int IntKind.i64 (0 : Int)))
    (AV.cons (1 : Nat) (AV.sc (Value.int IntKind.i64 (0 : Int)))
    (AV.cons (1 : Nat) (AV.sc (Value.int IntKind.i64 (0 : Int))) AV.nil)))
    (AV.cons (1 : Nat) (AV.sc (Value.int IntKind.i64 r)) AV.nil)).tup
    res ∧
    SubOut [] []) ∧
    ((r != (0 : Int)) = false →
    True ∧
    True ∧
    True ∧
    (decide (at_ < (0 : Int)) = false →
    True ∧
    false = false ∧
    True ∧
    false = false ∧
    True ∧
    false = false ∧
    True ∧
    True ∧
    (decide (at_ ≥ (↑text.size : Int)) = true →
    True ∧
    ((0 : Nat) = (0 : Nat) ∧ True) ∧
    True ∧
    (((0 : Nat) = (0 : Nat) ∧ True) ∧ True ∧ True) ∧
    ((((True ∧ True ∧ True ∧ True) ∧ True ∧ True) ∧
    Sub
    (AV.cons (1 : Nat)
    (AV.cons (1 : Nat) (AV.sc (Value.int IntKind.i64 (0 : Int)))
    (AV.cons (1 : Nat) (AV.sc (Value.int IntKind.i64 (0 : Int)))
    (AV.cons (1 : Nat) (AV.sc (Value.int IntKind.i64 (0 : Int))) AV.nil)))
    (AV.cons (1 : Nat) (AV.sc (Value.int IntKind.i64 (4 : Int))) AV.nil)).tup
    (AV.cons (1 : Nat)
    (AV.cons (1 : Nat) (AV.sc (Value.int IntKind.i64 (0 : Int)))
    (AV.cons (1 : Nat) (AV.sc (Value.int IntKind.i64 (0 : Int)))
    (AV.cons (1 : Nat) (AV.sc (Value.int IntKind.i64 (0 : Int))) AV.nil)))
    (AV.cons (1 : Nat) (AV.sc (Value.int IntKind.i64 (4 : Int))) AV.nil)).tup ∧
    True) ∧
    True) ∧
    Sub
    (AV.cons (1 : Nat)
    (AV.cons (1 : Nat) (AV.sc (Value.int IntKind.i64 (0 : Int)))
    (AV.cons (1 : Nat) (AV.sc (Value.int IntKind.i64 (0 : Int)))
    (AV.cons (1 : Nat) (AV.sc (Value.int IntKind.i64 (0 : Int))) AV.nil)))
    (AV.cons (1 : Nat) (AV.sc (Value.int IntKind.i64 (4 : Int))) AV.nil)).tup
    res ∧
    SubOut [] []) ∧
    (decide (at_ ≥ (↑text.size : Int)) = false →
    ((0 : Nat) = (0 : Nat) ∧ True) ∧
    True ∧
    True ∧
    ((0 : Int) ≤ at_ ∧ at_ ≤ (↑text.size : Int) ∧ (↑text.size : Int) ≤ (↑text.size : Int)) ∧
    ∃ (r : Int × Int × Int),
    (((True ∧ True ∧ True ∧ True ∧ True) ∧ True ∧ True) ∧
    True ∧
    Ok Proofs.Try.prog (57 : Nat)
    [AV.cons (1 : Nat) (AV.sc (Value.int IntKind.i64 da))
    (AV.cons (256 : Nat)
    (AV.ar (256 : Nat) (1 : Nat) fun (i : Nat) => AV.sc (Value.int IntKind.u8 (dbaf i)))
    (AV.cons (1 : Nat)
    (AV.vec true (1 : Nat) dbban dbban fun (i : Nat) =>
    AV.vec true (1 : Nat) (dbbafn i) (dbbafn i) fun (i_1 : Nat) =>
    AV.sc (Value.int IntKind.i64 (dbbaff i i_1)))
    (AV.cons (1 : Nat)
    (AV.vec true (1 : Nat) dbbban dbbban fun (i : Nat) =>
    AV.sc (Value.int IntKind.i64 (dbbbaf i)))
    AV.nil))),
    AV.sc (Value.string (text.extract at_.toNat (↑text.size : Int).toNat))]
    []
    (AV.cons (1 : Nat) (AV.sc (Value.int IntKind.i64 r.fst))
    (AV.cons (1 : Nat) (AV.sc (Value.int IntKind.i64 r.snd.fst))
    (AV.cons (1 : Nat) (AV.sc (Value.int IntKind.i64 r.snd.snd)) AV.nil)))
    []) ∧
    ((0 : Nat) = (0 : Nat) ∧ True) ∧
    True ∧
    (((0 : Nat) = (0 : Nat) ∧ True) ∧ True ∧ True) ∧
    ((((True ∧ True ∧ True ∧ True) ∧ True ∧ True) ∧
    Sub
    (AV.cons (1 : Nat)
    (AV.cons (1 : Nat) (AV.sc (Value.int IntKind.i64 r.fst))
    (AV.cons (1 : Nat) (AV.sc (Value.int IntKind.i64 r.snd.fst))
    (AV.cons (1 : Nat) (AV.sc (Value.int IntKind.i64 r.snd.snd)) AV.nil)))
    (AV.cons (1 : Nat) (AV.sc (Value.int IntKind.i64 (0 : Int))) AV.nil)).tup
    (AV.cons (1 : Nat)
    (AV.cons (1 : Nat) (AV.sc (Value.int IntKind.i64 r.fst))
    (AV.cons (1 : Nat) (AV.sc (Value.int IntKind.i64 r.snd.fst))
    (AV.cons (1 : Nat) (AV.sc (Value.int IntKind.i64 r.snd.snd)) AV.nil)))
    (AV.cons (1 : Nat) (AV.sc (Value.int IntKind.i64 (0 : Int))) AV.nil)).tup ∧
    True) ∧
    True) ∧
    Sub
    (AV.cons (1 : Nat)
    (AV.cons (1 : Nat) (AV.sc (Value.int IntKind.i64 r.fst))
    (AV.cons (1 : Nat) (AV.sc (Value.int IntKind.i64 r.snd.fst))
    (AV.cons (1 : Nat) (AV.sc (Value.int IntKind.i64 r.snd.snd)) AV.nil)))
    (AV.cons (1 : Nat) (AV.sc (Value.int IntKind.i64 (0 : Int))) AV.nil)).tup
    res ∧
    SubOut [] [])) ∧
    (decide (at_ < (0 : Int)) = !false →
    true = true ∧
    (!false) = !false ∧
    true = true ∧
    (!false) = !false ∧
    true = true ∧
    (!false) = !false ∧
    true = true ∧
    True ∧
    true = true ∧
    True ∧
    ((0 : Nat) = (0 : Nat) ∧ True) ∧
    True ∧
    (((0 : Nat) = (0 : Nat) ∧ True) ∧ True ∧ True) ∧
    ((((True ∧ True ∧ True ∧ True) ∧ True ∧ True) ∧
    Sub
    (AV.cons (1 : Nat)
    (AV.cons (1 : Nat) (AV.sc (Value.int IntKind.i64 (0 : Int)))
    (AV.cons (1 : Nat) (AV.sc (Value.int IntKind.i64 (0 : Int)))
    (AV.cons (1 : Nat) (AV.sc (Value.int IntKind.i64 (0 : Int))) AV.nil)))
    (AV.cons (1 : Nat) (AV.sc (Value.int IntKind.i64 (4 : Int))) AV.nil)).tup
    (AV.cons (1 : Nat)
    (AV.cons (1 : Nat) (AV.sc (Value.int IntKind.i64 (0 : Int)))
    (AV.cons (1 : Nat) (AV.sc (Value.int IntKind.i64 (0 : Int)))
    (AV.cons (1 : Nat) (AV.sc (Value.int IntKind.i64 (0 : Int))) AV.nil)))
    (AV.cons (1 : Nat) (AV.sc (Value.int IntKind.i64 (4 : Int))) AV.nil)).tup ∧
    True) ∧
    True) ∧
    Sub
    (AV.cons (1 : Nat)
    (AV.cons (1 : Nat) (AV.sc (Value.int IntKind.i64 (0 : Int)))
    (AV.cons (1 : Nat) (AV.sc (Value.int IntKind.i64 (0 : Int)))
    (AV.cons (1 : Nat) (AV.sc (Value.int IntKind.i64 (0 : Int))) AV.nil)))
    (AV.cons (1 : Nat) (AV.sc (Value.int IntKind.i64 (4 : Int))) AV.nil)).tup
    res ∧
    SubOut [] [])) from
    ⟨trivial, ⟨trivial, ⟨trivial, ⟨⟨rfl, trivial⟩, (Exists.elim h fun x4 h4 => ⟨x4, (And.elim (fun h5 k5 => ⟨⟨⟨⟨trivial, ⟨trivial, ⟨trivial, ⟨trivial, trivial⟩⟩⟩⟩, trivial⟩, ⟨trivial, h5⟩⟩, ⟨trivial, ⟨trivial, ⟨trivial, (And.elim (fun h9 k9 => ⟨(fun x10 => (fun h10 => ⟨trivial, ⟨trivial, ⟨⟨rfl, trivial⟩, ⟨trivial, ⟨⟨⟨rfl, trivial⟩, ⟨trivial, trivial⟩⟩, ⟨⟨⟨⟨⟨trivial, ⟨trivial, ⟨trivial, trivial⟩⟩⟩, ⟨trivial, trivial⟩⟩, ⟨Sub.refl _, trivial⟩⟩, trivial⟩, ((fun h17 => ⟨h17, trivial⟩) h10)⟩⟩⟩⟩⟩⟩) (h9 x10)), (fun x10 => (fun h10 => ⟨trivial, ⟨trivial, ⟨trivial, (And.elim (fun h14 k14 => ⟨(fun x15 => (fun h15 => ⟨trivial, ⟨rfl, ⟨trivial, ⟨rfl, ⟨trivial, ⟨rfl, ⟨trivial, ⟨trivial, (And.elim (fun h24 k24 => ⟨(fun x25 => (fun h25 => ⟨trivial, ⟨⟨rfl, trivial⟩, ⟨trivial, ⟨⟨⟨rfl, trivial⟩, ⟨trivial, trivial⟩⟩, ⟨⟨⟨⟨⟨trivial, ⟨trivial, ⟨trivial, trivial⟩⟩⟩, ⟨trivial, trivial⟩⟩, ⟨Sub.refl _, trivial⟩⟩, trivial⟩, ((fun h31 => ⟨h31, trivial⟩) h25)⟩⟩⟩⟩⟩) (h24 x25)), (fun x25 => (fun h25 => ⟨⟨rfl, trivial⟩, ⟨trivial, ⟨trivial, (And.elim (fun h29 k29 => ⟨(And.elim (fun h30 k30 => ⟨h30, (And.elim (fun h31 k31 => ⟨h31, k31⟩) k30)⟩) h29), (Exists.elim k29 fun x30 h30 => ⟨x30, (And.elim (fun h31 k31 => ⟨⟨⟨⟨trivial, ⟨trivial, ⟨trivial, ⟨trivial, trivial⟩⟩⟩⟩, ⟨trivial, trivial⟩⟩, ⟨trivial, h31⟩⟩, ⟨⟨rfl, trivial⟩, ⟨trivial, ⟨⟨⟨rfl, trivial⟩, ⟨trivial, trivial⟩⟩, ⟨⟨⟨⟨⟨trivial, ⟨trivial, ⟨trivial, trivial⟩⟩⟩, ⟨trivial, trivial⟩⟩, ⟨Sub.refl _, trivial⟩⟩, trivial⟩, ((fun h36 => ⟨h36, trivial⟩) k31)⟩⟩⟩⟩⟩) h30)⟩)⟩) h25)⟩⟩⟩) (k24 x25))⟩) h15)⟩⟩⟩⟩⟩⟩⟩⟩) (h14 x15)), (fun x15 => (fun h15 => ⟨rfl, ⟨rfl, ⟨rfl, ⟨rfl, ⟨rfl, ⟨rfl, ⟨rfl, ⟨trivial, ⟨rfl, ⟨trivial, ⟨⟨rfl, trivial⟩, ⟨trivial, ⟨⟨⟨rfl, trivial⟩, ⟨trivial, trivial⟩⟩, ⟨⟨⟨⟨⟨trivial, ⟨trivial, ⟨trivial, trivial⟩⟩⟩, ⟨trivial, trivial⟩⟩, ⟨Sub.refl _, trivial⟩⟩, trivial⟩, ((fun h30 => ⟨h30, trivial⟩) h15)⟩⟩⟩⟩⟩⟩⟩⟩⟩⟩⟩⟩⟩⟩) (k14 x15))⟩) h10)⟩⟩⟩) (k9 x10))⟩) k5)⟩⟩⟩⟩) h4)⟩)⟩⟩⟩⟩)
theorem hf19 : Go.Proofs.Try.prog.funcs[19]? = some Go.Proofs.Try.f19 := by kernel_rfl
abbrev s19_e (ta : Int) (tbaf : Nat → Int) (tbban : Nat) (tbbam : Nat) (tbbafn : Nat → Nat) (tbbafm : Nat → Nat) (tbbaff : Nat → Nat → Int) (tbbban : Nat) (tbbbam : Nat) (tbbbaf : Nat → Int) (da : Int) (dbaf : Nat → Int) (dbban : Nat) (dbbafn : Nat → Nat) (dbbaff : Nat → Nat → Int) (dbbban : Nat) (dbbbaf : Nat → Int) : List (Nat × AV) := [(0, (.cons 1 (.sc (.int .i64 ta)) (.cons 256 (.ar 256 1 (fun i0 => (.sc (.int .u8 (tbaf i0))))) (.cons 1 (.vec true 1 tbban tbbam (fun i0 => (.vec true 1 (tbbafn i0) (tbbafm i0) (fun i1 => (.sc (.int .i64 (tbbaff i0 i1))))))) (.cons 1 (.vec true 1 tbbban tbbbam (fun i0 => (.sc (.int .i64 (tbbbaf i0))))) .nil))))), (1, (.cons 1 (.sc (.int .i64 da)) (.cons 256 (.ar 256 1 (fun i0 => (.sc (.int .u8 (dbaf i0))))) (.cons 1 (.vec true 1 dbban dbban (fun i0 => (.vec true 1 (dbbafn i0) (dbbafn i0) (fun i1 => (.sc (.int .i64 (dbbaff i0 i1))))))) (.cons 1 (.vec true 1 dbbban dbbban (fun i0 => (.sc (.int .i64 (dbbbaf i0))))) .nil)))))]
abbrev m19_e (ta : Int) (tbaf : Nat → Int) (tbban : Nat) (tbbam : Nat) (tbbafn : Nat → Nat) (tbbafm : Nat → Nat) (tbbaff : Nat → Nat → Int) (tbbban : Nat) (tbbbam : Nat) (tbbbaf : Nat → Int) (da : Int) (dbaf : Nat → Int) (dbban : Nat) (dbbafn : Nat → Nat) (dbbaff : Nat → Nat → Int) (dbbban : Nat) (dbbbaf : Nat → Int) : List (Nat × Nat × AV) := []
def L19_e (ta : Int) (tbaf : Nat → Int) (tbban : Nat) (tbbam : Nat) (tbbafn : Nat → Nat) (tbbafm : Nat → Nat) (tbbaff : Nat → Nat → Int) (tbbban : Nat) (tbbbam : Nat) (tbbbaf : Nat → Int) (da : Int) (dbaf : Nat → Int) (dbban : Nat) (dbbafn : Nat → Nat) (dbbaff : Nat → Nat → Int) (dbbban : Nat) (dbbbaf : Nat → Int) (res : AV) : Prop := Goes ⟨Go.Proofs.Try.prog, 19, [], res, []⟩ (place Go.Proofs.Try.f19 []) (s19_e ta tbaf tbban tbbam tbbafn tbbafm tbbaff tbbban tbbbam tbbbaf da dbaf dbban dbbafn dbbaff dbbban dbbbaf) (m19_e ta tbaf tbban tbbam tbbafn tbbafm tbbaff tbbban tbbbam tbbbaf da dbaf dbban dbbafn dbbaff dbbban dbbbaf)
theorem a19_e (ta : Int) (tbaf : Nat → Int) (tbban : Nat) (tbbam : Nat) (tbbafn : Nat → Nat) (tbbafm : Nat → Nat) (tbbaff : Nat → Nat → Int) (tbbban : Nat) (tbbbam : Nat) (tbbbaf : Nat → Int) (da : Int) (dbaf : Nat → Int) (dbban : Nat) (dbbafn : Nat → Nat) (dbbaff : Nat → Nat → Int) (dbbban : Nat) (dbbbaf : Nat → Int) (res : AV) (h : (∀ slot, fact (look .undef (s19_e ta tbaf tbban tbbam tbbafn tbbafm tbbaff tbbban tbbbam tbbbaf da dbaf dbban dbbafn dbbaff dbbban dbbbaf) slot)) → L19_e ta tbaf tbban tbbam tbbafn tbbafm tbbaff tbbban tbbbam tbbbaf da dbaf dbban dbbafn dbbaff dbbban dbbbaf res) : L19_e ta tbaf tbban tbbam tbbafn tbbafm tbbaff tbbban tbbbam tbbbaf da dbaf dbban dbbafn dbbaff dbbban dbbbaf res :=
  assumeRule 19 [] Go.Proofs.Try.f19 hf19 [] (s19_e ta tbaf tbban tbbam tbbafn tbbafm tbbaff tbbban tbbbam tbbbaf da dbaf dbban dbbafn dbbaff dbbban dbbbaf) (m19_e ta tbaf tbban tbbam tbbafn tbbafm tbbaff tbbban tbbbam tbbbaf da dbaf dbban dbbafn dbbaff dbbban dbbbaf) res [] _ (by kernel_rfl) h
abbrev s19_0 (alln : Nat) (allm : Nat) (allfn : Nat → Nat) (allfm : Nat → Nat) (allff : Nat → Nat → Int) (i : Int) (b0a : Int) (b0baf : Nat → Int) (b0bban : Nat) (b0bbam : Nat) (b0bbafn : Nat → Nat) (b0bbafm : Nat → Nat) (b0bbaff : Nat → Nat → Int) (b0bbban : Nat) (b0bbbam : Nat) (b0bbbaf : Nat → Int) (b1a : Int) (b1baf : Nat → Int) (b1bban : Nat) (b1bbafn : Nat → Nat) (b1bbaff : Nat → Nat → Int) (b1bbban : Nat) (b1bbbaf : Nat → Int) : List (Nat × AV) := [(2, (.pt 1000 [] 0)), (3, (.pt 1001 [] 0)), (5, (.vec true 1 alln allm (fun i0 => (.vec true 1 (allfn i0) (allfm i0) (fun i1 => (.sc (.int .i64 (allff i0 i1)))))))), (6, (.sc (.int .i64 i)))]
abbrev m19_0 (alln : Nat) (allm : Nat) (allfn : Nat → Nat) (allfm : Nat → Nat) (allff : Nat → Nat → Int) (i : Int) (b0a : Int) (b0baf : Nat → Int) (b0bban : Nat) (b0bbam : Nat) (b0bbafn : Nat → Nat) (b0bbafm : Nat → Nat) (b0bbaff : Nat → Nat → Int) (b0bbban : Nat) (b0bbbam : Nat) (b0bbbaf : Nat → Int) (b1a : Int) (b1baf : Nat → Int) (b1bban : Nat) (b1bbafn : Nat → Nat) (b1bbaff : Nat → Nat → Int) (b1bbban : Nat) (b1bbbaf : Nat → Int) : List (Nat × Nat × AV) := [(1000, 26, (.cons 1 (.sc (.int .i64 b0a)) (.cons 256 (.ar 256 1 (fun i0 => (.sc (.int .u8 (b0baf i0))))) (.cons 1 (.vec true 1 b0bban b0bbam (fun i0 => (.vec true 1 (b0bbafn i0) (b0bbafm i0) (fun i1 => (.sc (.int .i64 (b0bbaff i0 i1))))))) (.cons 1 (.vec true 1 b0bbban b0bbbam (fun i0 => (.sc (.int .i64 (b0bbbaf i0))))) .nil))))), (1001, 26, (.cons 1 (.sc (.int .i64 b1a)) (.cons 256 (.ar 256 1 (fun i0 => (.sc (.int .u8 (b1baf i0))))) (.cons 1 (.vec true 1 b1bban b1bban (fun i0 => (.vec true 1 (b1bbafn i0) (b1bbafn i0) (fun i1 => (.sc (.int .i64 (b1bbaff i0 i1))))))) (.cons 1 (.vec true 1 b1bbban b1bbban (fun i0 => (.sc (.int .i64 (b1bbbaf i0))))) .nil)))))]
def L19_0 (alln : Nat) (allm : Nat) (allfn : Nat → Nat) (allfm : Nat → Nat) (allff : Nat → Nat → Int) (i : Int) (b0a : Int) (b0baf : Nat → Int) (b0bban : Nat) (b0bbam : Nat) (b0bbafn : Nat → Nat) (b0bbafm : Nat → Nat) (b0bbaff : Nat → Nat → Int) (b0bbban : Nat) (b0bbbam : Nat) (b0bbbaf : Nat → Int) (b1a : Int) (b1baf : Nat → Int) (b1bban : Nat) (b1bbafn : Nat → Nat) (b1bbaff : Nat → Nat → Int) (b1bbban : Nat) (b1bbbaf : Nat → Int) (res : AV) : Prop := Goes ⟨Go.Proofs.Try.prog, 19, [], res, []⟩ (place Go.Proofs.Try.f19 [1, 1, 1, 0, 1, 0, 0]) (s19_0 alln allm allfn allfm allff i b0a b0baf b0bban b0bbam b0bbafn b0bbafm b0bbaff b0bbban b0bbbam b0bbbaf b1a b1baf b1bban b1bbafn b1bbaff b1bbban b1bbbaf) (m19_0 alln allm allfn allfm allff i b0a b0baf b0bban b0bbam b0bbafn b0bbafm b0bbaff b0bbban b0bbbam b0bbbaf b1a b1baf b1bban b1bbafn b1bbaff b1bbban b1bbbaf)
theorem a19_0 (alln : Nat) (allm : Nat) (allfn : Nat → Nat) (allfm : Nat → Nat) (allff : Nat → Nat → Int) (i : Int) (b0a : Int) (b0baf : Nat → Int) (b0bban : Nat) (b0bbam : Nat) (b0bbafn : Nat → Nat) (b0bbafm : Nat → Nat) (b0bbaff : Nat → Nat → Int) (b0bbban : Nat) (b0bbbam : Nat) (b0bbbaf : Nat → Int) (b1a : Int) (b1baf : Nat → Int) (b1bban : Nat) (b1bbafn : Nat → Nat) (b1bbaff : Nat → Nat → Int) (b1bbban : Nat) (b1bbbaf : Nat → Int) (res : AV) (h : (∀ slot, fact (look .undef (s19_0 alln allm allfn allfm allff i b0a b0baf b0bban b0bbam b0bbafn b0bbafm b0bbaff b0bbban b0bbbam b0bbbaf b1a b1baf b1bban b1bbafn b1bbaff b1bbban b1bbbaf) slot)) → L19_0 alln allm allfn allfm allff i b0a b0baf b0bban b0bbam b0bbafn b0bbafm b0bbaff b0bbban b0bbbam b0bbbaf b1a b1baf b1bban b1bbafn b1bbaff b1bbban b1bbbaf res) : L19_0 alln allm allfn allfm allff i b0a b0baf b0bban b0bbam b0bbafn b0bbafm b0bbaff b0bbban b0bbbam b0bbbaf b1a b1baf b1bban b1bbafn b1bbaff b1bbban b1bbbaf res :=
  assumeRule 19 [] Go.Proofs.Try.f19 hf19 [1, 1, 1, 0, 1, 0, 0] (s19_0 alln allm allfn allfm allff i b0a b0baf b0bban b0bbam b0bbafn b0bbafm b0bbaff b0bbban b0bbbam b0bbbaf b1a b1baf b1bban b1bbafn b1bbaff b1bbban b1bbbaf) (m19_0 alln allm allfn allfm allff i b0a b0baf b0bban b0bbam b0bbafn b0bbafm b0bbaff b0bbban b0bbbam b0bbbaf b1a b1baf b1bban b1bbafn b1bbaff b1bbban b1bbbaf) res [] _ (by kernel_rfl) h
abbrev s19_1 (i : Int) (b0a : Int) (b0baf : Nat → Int) (b0bban : Nat) (b0bbam : Nat) (b0bbafn : Nat → Nat) (b0bbafm : Nat → Nat) (b0bbaff : Nat → Nat → Int) (b0bbban : Nat) (b0bbbam : Nat) (b0bbbaf : Nat → Int) (b1a : Int) (b1baf : Nat → Int) (b1bban : Nat) (b1bbafn : Nat → Nat) (b1bbaff : Nat → Nat → Int) (b1bbban : Nat) (b1bbbaf : Nat → Int) : List (Nat × AV) := [(2, (.pt 1000 [] 0)), (3, (.pt 1001 [] 0)), (7, (.sc (.int .i64 i)))]
abbrev m19_1 (i : Int) (b0a : Int) (b0baf : Nat → Int) (b0bban : Nat) (b0bbam : Nat) (b0bbafn : Nat → Nat) (b0bbafm : Nat → Nat) (b0bbaff : Nat → Nat → Int) (b0bbban : Nat) (b0bbbam : Nat) (b0bbbaf : Nat → Int) (b1a : Int) (b1baf : Nat → Int) (b1bban : Nat) (b1bbafn : Nat → Nat) (b1bbaff : Nat → Nat → Int) (b1bbban : Nat) (b1bbbaf : Nat → Int) : List (Nat × Nat × AV) := [(1000, 26, (.cons 1 (.sc (.int .i64 b0a)) (.cons 256 (.ar 256 1 (fun i0 => (.sc (.int .u8 (b0baf i0))))) (.cons 1 (.vec true 1 b0bban b0bbam (fun i0 => (.vec true 1 (b0bbafn i0) (b0bbafm i0) (fun i1 => (.sc (.int .i64 (b0bbaff i0 i1))))))) (.cons 1 (.vec true 1 b0bbban b0bbbam (fun i0 => (.sc (.int .i64 (b0bbbaf i0))))) .nil))))), (1001, 26, (.cons 1 (.sc (.int .i64 b1a)) (.cons 256 (.ar 256 1 (fun i0 => (.sc (.int .u8 (b1baf i0))))) (.cons 1 (.vec true 1 b1bban b1bban (fun i0 => (.vec true 1 (b1bbafn i0) (b1bbafn i0) (fun i1 => (.sc (.int .i64 (b1bbaff i0 i1))))))) (.cons 1 (.vec true 1 b1bbban b1bbban (fun i0 => (.sc (.int .i64 (b1bbbaf i0))))) .nil)))))]
def L19_1 (i : Int) (b0a : Int) (b0baf : Nat → Int) (b0bban : Nat) (b0bbam : Nat) (b0bbafn : Nat → Nat) (b0bbafm : Nat → Nat) (b0bbaff : Nat → Nat → Int) (b0bbban : Nat) (b0bbbam : Nat) (b0bbbaf : Nat → Int) (b1a : Int) (b1baf : Nat → Int) (b1bban : Nat) (b1bbafn : Nat → Nat) (b1bbaff : Nat → Nat → Int) (b1bbban : Nat) (b1bbbaf : Nat → Int) (res : AV) : Prop := Goes ⟨Go.Proofs.Try.prog, 19, [], res, []⟩ (place Go.Proofs.Try.f19 [1, 1, 1, 1, 0, 1, 0, 0]) (s19_1 i b0a b0baf b0bban b0bbam b0bbafn b0bbafm b0bbaff b0bbban b0bbbam b0bbbaf b1a b1baf b1bban b1bbafn b1bbaff b1bbban b1bbbaf) (m19_1 i b0a b0baf b0bban b0bbam b0bbafn b0bbafm b0bbaff b0bbban b0bbbam b0bbbaf b1a b1baf b1bban b1bbafn b1bbaff b1bbban b1bbbaf)
theorem a19_1 (i : Int) (b0a : Int) (b0baf : Nat → Int) (b0bban : Nat) (b0bbam : Nat) (b0bbafn : Nat → Nat) (b0bbafm : Nat → Nat) (b0bbaff : Nat → Nat → Int) (b0bbban : Nat) (b0bbbam : Nat) (b0bbbaf : Nat → Int) (b1a : Int) (b1baf : Nat → Int) (b1bban : Nat) (b1bbafn : Nat → Nat) (b1bbaff : Nat → Nat → Int) (b1bbban : Nat) (b1bbbaf : Nat → Int) (res : AV) (h : (∀ slot, fact (look .undef (s19_1 i b0a b0baf b0bban b0bbam b0bbafn b0bbafm b0bbaff b0bbban b0bbbam b0bbbaf b1a b1baf b1bban b1bbafn b1bbaff b1bbban b1bbbaf) slot)) → L19_1 i b0a b0baf b0bban b0bbam b0bbafn b0bbafm b0bbaff b0bbban b0bbbam b0bbbaf b1a b1baf b1bban b1bbafn b1bbaff b1bbban b1bbbaf res) : L19_1 i b0a b0baf b0bban b0bbam b0bbafn b0bbafm b0bbaff b0bbban b0bbbam b0bbbaf b1a b1baf b1bban b1bbafn b1bbaff b1bbban b1bbbaf res :=
  assumeRule 19 [] Go.Proofs.Try.f19 hf19 [1, 1, 1, 1, 0, 1, 0, 0] (s19_1 i b0a b0baf b0bban b0bbam b0bbafn b0bbafm b0bbaff b0bbban b0bbbam b0bbbaf b1a b1baf b1bban b1bbafn b1bbaff b1bbban b1bbbaf) (m19_1 i b0a b0baf b0bban b0bbam b0bbafn b0bbafm b0bbaff b0bbban b0bbbam b0bbbaf b1a b1baf b1bban b1bbafn b1bbaff b1bbban b1bbbaf) res [] _ (by kernel_rfl) h
theorem o19 (ta : Int) (tbaf : Nat → Int) (tbban : Nat) (tbbam : Nat) (tbbafn : Nat → Nat) (tbbafm : Nat → Nat) (tbbaff : Nat → Nat → Int) (tbbban : Nat) (tbbbam : Nat) (tbbbaf : Nat → Int) (da : Int) (dbaf : Nat → Int) (dbban : Nat) (dbbafn : Nat → Nat) (dbbaff : Nat → Nat → Int) (dbbban : Nat) (dbbbaf : Nat → Int) (res : AV) (hnew : newOnly res) (h : L19_e ta tbaf tbban tbbam tbbafn tbbafm tbbaff tbbban tbbbam tbbbaf da dbaf dbban dbbafn dbbaff dbbban dbbbaf res) : Ok Go.Proofs.Try.prog 19 [(.cons 1 (.sc (.int .i64 ta)) (.cons 256 (.ar 256 1 (fun i0 => (.sc (.int .u8 (tbaf i0))))) (.cons 1 (.vec true 1 tbban tbbam (fun i0 => (.vec true 1 (tbbafn i0) (tbbafm i0) (fun i1 => (.sc (.int .i64 (tbbaff i0 i1))))))) (.cons 1 (.vec true 1 tbbban tbbbam (fun i0 => (.sc (.int .i64 (tbbbaf i0))))) .nil)))), (.cons 1 (.sc (.int .i64 da)) (.cons 256 (.ar 256 1 (fun i0 => (.sc (.int .u8 (dbaf i0))))) (.cons 1 (.vec true 1 dbban dbban (fun i0 => (.vec true 1 (dbbafn i0) (dbbafn i0) (fun i1 => (.sc (.int .i64 (dbbaff i0 i1))))))) (.cons 1 (.vec true 1 dbbban dbbban (fun i0 => (.sc (.int .i64 (dbbbaf i0))))) .nil))))] [] res [] :=
  okRule2 19 Go.Proofs.Try.f19 hf19 [(.cons 1 (.sc (.int .i64 ta)) (.cons 256 (.ar 256 1 (fun i0 => (.sc (.int .u8 (tbaf i0))))) (.cons 1 (.vec true 1 tbban tbbam (fun i0 => (.vec true 1 (tbbafn i0) (tbbafm i0) (fun i1 => (.sc (.int .i64 (tbbaff i0 i1))))))) (.cons 1 (.vec true 1 tbbban tbbbam (fun i0 => (.sc (.int .i64 (tbbbaf i0))))) .nil)))), (.cons 1 (.sc (.int .i64 da)) (.cons 256 (.ar 256 1 (fun i0 => (.sc (.int .u8 (dbaf i0))))) (.cons 1 (.vec true 1 dbban dbban (fun i0 => (.vec true 1 (dbbafn i0) (dbbafn i0) (fun i1 => (.sc (.int .i64 (dbbaff i0 i1))))))) (.cons 1 (.vec true 1 dbbban dbbban (fun i0 => (.sc (.int .i64 (dbbbaf i0))))) .nil))))] [] res [] [] rfl (by kernel_rfl) (by kernel_rfl) (by kernel_rfl) ⟨hnew, by simp⟩ (L19_e ta tbaf tbban tbbam tbbafn tbbafm tbbaff tbbban tbbbam tbbbaf da dbaf dbban dbbafn dbbaff dbbban dbbbaf res) (by kernel_rfl) h
theorem r19_e (ta : Int) (tbaf : Nat → Int) (tbban : Nat) (tbbam : Nat) (tbbafn : Nat → Nat) (tbbafm : Nat → Nat) (tbbaff : Nat → Nat → Int) (tbbban : Nat) (tbbbam : Nat) (tbbbaf : Nat → Int) (da : Int) (dbaf : Nat → Int) (dbban : Nat) (dbbafn : Nat → Nat) (dbbaff : Nat → Nat → Int) (dbbban : Nat) (dbbbaf : Nat → Int) (res : AV)
    (h : ∃ (r : Bool),
  Ok Proofs.Try.prog (58 : Nat)
    [AV.cons (1 : Nat) (AV.sc (Value.int IntKind.i64 ta))
    (AV.cons (256 : Nat) (AV.ar (256 : Nat) (1 : Nat) fun (i : Nat) => AV.sc (Value.int IntKind.u8 (tbaf i)))
    (AV.cons (1 : Nat)
    (AV.vec true (1 : Nat) tbban tbbam fun (i : Nat) =>
    AV.vec true (1 : Nat) (tbbafn i) (tbbafm i) fun (i_1 : Nat) => AV.sc (Value.int IntKind.i64 (tbbaff i i_1)))
    (AV.cons (1 : Nat) (AV.vec true (1 : Nat) tbbban tbbbam fun (i : Nat) => AV.sc (Value.int IntKind.i64 (tbbbaf i))) AV.nil))),
    AV.cons (1 : Nat) (AV.sc (Value.int IntKind.i64 da))
    (AV.cons (256 : Nat) (AV.ar (256 : Nat) (1 : Nat) fun (i : Nat) => AV.sc (Value.int IntKind.u8 (dbaf i)))
    (AV.cons (1 : Nat)
    (AV.vec true (1 : Nat) dbban dbban fun (i : Nat) =>
    AV.vec true (1 : Nat) (dbbafn i) (dbbafn i) fun (i_1 : Nat) => AV.sc (Value.int IntKind.i64 (dbbaff i i_1)))
    (AV.cons (1 : Nat) (AV.vec true (1 : Nat) dbbban dbbban fun (i : Nat) => AV.sc (Value.int IntKind.i64 (dbbbaf i))) AV.nil)))]
    [] (AV.sc (Value.bool r)) [] ∧
    ((!r) = false →
    IntKind.i64.wrap ((↑dbban : Int) + (3 : Int)) ≤ (↑tbbam : Int) ∧
    ∃ (r : Bool),
    Ok Proofs.Try.prog (59 : Nat)
    [AV.vec true (1 : Nat) tbbban tbbbam fun (i : Nat) => AV.sc (Value.int IntKind.i64 (tbbbaf i)),
    AV.vec true (1 : Nat) dbbban dbbban fun (i : Nat) => AV.sc (Value.int IntKind.i64 (dbbbaf i))]
    [] (AV.sc (Value.bool r)) [] ∧
    ((!r) = true → Sub (AV.sc (Value.bool false)) res) ∧
    ((!r) = false →
    ((0 : Int) ≤ (0 : Int) ∧ (0 : Int) ≤ IntKind.i64.wrap ((↑dbban : Int) + (3 : Int))) ∧
    L19_0 (IntKind.i64.wrap ((↑dbban : Int) + (3 : Int)) - (0 : Int)).toNat (tbbam - Int.toNat (0 : Int))
    (fun (i : Nat) => tbbafn (plus (Int.toNat (0 : Int)) i)) (fun (i : Nat) => tbbafm (plus (Int.toNat (0 : Int)) i))
    (fun (i : Nat) => tbbaff (plus (Int.toNat (0 : Int)) i)) (0 : Int) ta tbaf tbban tbbam tbbafn tbbafm tbbaff tbbban tbbbam tbbbaf da dbaf
    dbban dbbafn dbbaff dbbban dbbbaf res)) ∧
    ((!r) = !false → Sub (AV.sc (Value.bool false)) res)) :
    L19_e ta tbaf tbban tbbam tbbafn tbbafm tbbaff tbbban tbbbam tbbbaf da dbaf dbban dbbafn dbbaff dbbban dbbbaf res :=
  rule Go.Am.Seat.tabOk 19 [] Go.Proofs.Try.f19 hf19 [] (s19_e ta tbaf tbban tbbam tbbafn tbbafm tbbaff tbbban tbbbam tbbbaf da dbaf dbban dbbafn dbbaff dbbban dbbbaf) (m19_e ta tbaf tbban tbbam tbbafn tbbafm tbbaff tbbban tbbbam tbbbaf da dbaf dbban dbbafn dbbaff dbbban dbbbaf) res [] 400
    (Orc.call [] [] (fun (r58 : Bool) => AV.sc (Value.bool r58)) (fun (r58 : Bool) => []) fun (r58 : Bool) =>
  (Orc.call [] [] (fun (r59 : Bool) => AV.sc (Value.bool r59)) (fun (r59 : Bool) => []) fun (r59 : Bool) =>
    ((Orc.fin (AV.sc (Value.bool false)) [] []).br
    (Orc.cut (nat_lit 8)
    (s19_0 ((IntKind.i64, IntKind.i64.wrap ((↑dbban : Int) + (3 : Int))).snd - (0 : Int)).toNat (tbbam - Int.toNat (0 : Int))
    (fun (i : Nat) => tbbafn (plus (Int.toNat (0 : Int)) i)) (fun (i : Nat) => tbbafm (plus (Int.toNat (0 : Int)) i))
    (fun (i : Nat) => tbbaff (plus (Int.toNat (0 : Int)) i)) (0 : Int) ta tbaf tbban tbbam tbbafn tbbafm tbbaff tbbban
    tbbbam tbbbaf da dbaf dbban dbbafn dbbaff dbbban dbbbaf)
    (m19_0 ((IntKind.i64, IntKind.i64.wrap ((↑dbban : Int) + (3 : Int))).snd - (0 : Int)).toNat (tbbam - Int.toNat (0 : Int))
    (fun (i : Nat) => tbbafn (plus (Int.toNat (0 : Int)) i)) (fun (i : Nat) => tbbafm (plus (Int.toNat (0 : Int)) i))
    (fun (i : Nat) => tbbaff (plus (Int.toNat (0 : Int)) i)) (0 : Int) ta tbaf tbban tbbam tbbafn tbbafm tbbaff tbbban
    tbbbam tbbbaf da dbaf dbban dbbafn dbbaff dbbban dbbbaf)
    [((1000 : Nat), some (2 : Nat)), ((1001 : Nat), some (3 : Nat))])).yes).yes.yes.yes.yes.yes.yes.yes.yes.yes.yes.yes.yes.br
    (Orc.fin (AV.sc (Value.bool false)) [] []).yes.no.no.no.no.no.no.no.no.no.no.no.no.no) _ _ (by kernel_rfl) (by kernel_rfl) (show True ∧
  True ∧
    True ∧
    ((0 : Nat) = (0 : Nat) ∧ True) ∧
    ((0 : Nat) = (0 : Nat) ∧ True) ∧
    ∃ (r : Bool),
    (((True ∧ True ∧ True ∧ True ∧ True) ∧ (True ∧ True ∧ True ∧ True ∧ True) ∧ True) ∧
    True ∧
    Ok Proofs.Try.prog (58 : Nat)
    [AV.cons (1 : Nat) (AV.sc (Value.int IntKind.i64 ta))
    (AV.cons (256 : Nat) (AV.ar (256 : Nat) (1 : Nat) fun (i : Nat) => AV.sc (Value.int IntKind.u8 (tbaf i)))
    (AV.cons (1 : Nat)
    (AV.vec true (1 : Nat) tbban tbbam fun (i : Nat) =>
    AV.vec true (1 : Nat) (tbbafn i) (tbbafm i) fun (i_1 : Nat) => AV.sc (Value.int IntKind.i64 (tbbaff i i_1)))
    (AV.cons (1 : Nat) (AV.vec true (1 : Nat) tbbban tbbbam fun (i : Nat) => AV.sc (Value.int IntKind.i64 (tbbbaf i))) AV.nil))),
    AV.cons (1 : Nat) (AV.sc (Value.int IntKind.i64 da))
    (AV.cons (256 : Nat) (AV.ar (256 : Nat) (1 : Nat) fun (i : Nat) => AV.sc (Value.int IntKind.u8 (dbaf i)))
    (AV.cons (1 : Nat)
    (AV.vec true (1 : Nat) dbban dbban fun (i : Nat) =>
    AV.vec true (1 : Nat) (dbbafn i) (dbbafn i) fun (i_1 : Nat) => AV.sc (Value.int IntKind.i64 (dbbaff i i_1)))
    (AV.cons (1 : Nat) (AV.vec true (1 : Nat) dbbban dbbban fun (i : Nat) => AV.sc (Value.int IntKind.i64 (dbbbaf i))) AV.nil)))]
    [] (AV.sc (Value.bool r)) []) ∧
    True ∧
    True ∧
    ((!r) = false →
    True ∧
    false = false ∧
    ((1 : Nat) + ((256 : Nat) + (0 : Nat)) = plus (0 : Nat) (257 : Nat) ∧ True) ∧
    false = false ∧
    True ∧
    false = false ∧
    True ∧
    false = false ∧
    ((1 : Nat) + ((256 : Nat) + (0 : Nat)) = plus (0 : Nat) (257 : Nat) ∧ True) ∧
    false = false ∧
    True ∧
    false = false ∧
    True ∧
    false = false ∧
    IntKind.i64.wrap ((↑dbban : Int) + (3 : Int)) ≤ (↑tbbam : Int) ∧
    True ∧
    True ∧
    false = false ∧
    True ∧
    false = false ∧
    ((1 : Nat) + ((256 : Nat) + ((1 : Nat) + (0 : Nat))) = plus (0 : Nat) (258 : Nat) ∧ True) ∧
    false = false ∧
    True ∧
    false = false ∧
    ((1 : Nat) + ((256 : Nat) + ((1 : Nat) + (0 : Nat))) = plus (0 : Nat) (258 : Nat) ∧
    True) ∧
    false = false ∧
    ∃ (r : Bool),
    ((True ∧ True ∧ True) ∧
    True ∧
    Ok Proofs.Try.prog (59 : Nat)
    [AV.vec true (1 : Nat) tbbban tbbbam fun (i : Nat) =>
    AV.sc (Value.int IntKind.i64 (tbbbaf i)),
    AV.vec true (1 : Nat) dbbban dbbban fun (i : Nat) =>
    AV.sc (Value.int IntKind.i64 (dbbbaf i))]
    [] (AV.sc (Value.bool r)) []) ∧
    false = false ∧
    True ∧
    True ∧
    ((!r) = true →
    True ∧
    True ∧
    ((True ∧
    Sub (AV.sc (Value.bool false)) (AV.sc (Value.bool false)) ∧
    True) ∧
    True) ∧
    Sub (AV.sc (Value.bool false)) res ∧ SubOut [] []) ∧
    ((!r) = false →
    True ∧
    ((1 : Nat) + ((256 : Nat) + (0 : Nat)) = plus (0 : Nat) (257 : Nat) ∧
    True) ∧
    True ∧
    ((1 : Nat) + ((256 : Nat) + (0 : Nat)) =
    plus (0 : Nat) (257 : Nat) ∧
    True) ∧
    True ∧
    True ∧
    ((0 : Int) ≤ (0 : Int) ∧
    (0 : Int) ≤
    IntKind.i64.wrap ((↑dbban : Int) + (3 : Int)) ∧
    IntKind.i64.wrap ((↑dbban : Int) + (3 : Int)) ≤
    (↑tbbam : Int)) ∧
    True ∧
    True ∧
    ((True ∧
    Sub (AV.pt (1000 : Nat) [] (0 : Nat))
    (AV.pt (1000 : Nat) [] (0 : Nat)) ∧
    True ∧
    Sub (AV.pt (1001 : Nat) [] (0 : Nat))
    (AV.pt (1001 : Nat) [] (0 : Nat)) ∧
    True ∧
    Sub
    (AV.vec true (1 : Nat)
    (IntKind.i64.wrap
    ((↑dbban : Int) +
    (3 : Int)) -
    (0 : Int)).toNat
    (tbbam - Int.toNat (0 : Int))
    fun (i : Nat) =>
    AV.vec true (1 : Nat)
    (tbbafn
    (plus (Int.toNat (0 : Int))
    i))
    (tbbafm
    (plus (Int.toNat (0 : Int))
    i))
    fun (i1 : Nat) =>
    AV.sc
    (Value.int IntKind.i64
    (tbbaff
    (plus
    (Int.toNat (0 : Int)) i)
    i1)))
    (AV.vec true (1 : Nat)
    (IntKind.i64.wrap
    ((↑dbban : Int) +
    (3 : Int)) -
    (0 : Int)).toNat
    (tbbam - Int.toNat (0 : Int))
    fun (i0 : Nat) =>
    AV.vec true (1 : Nat)
    (tbbafn
    (plus (Int.toNat (0 : Int))
    i0))
    (tbbafm
    (plus (Int.toNat (0 : Int))
    i0))
    fun (i1 : Nat) =>
    AV.sc
    (Value.int IntKind.i64
    (tbbaff
    (plus
    (Int.toNat (0 : Int))
    i0)
    i1))) ∧
    True ∧
    Sub
    (AV.sc
    (Value.int IntKind.i64
    (0 : Int)))
    (AV.sc
    (Value.int IntKind.i64
    (0 : Int))) ∧
    True) ∧
    (True ∧ True ∧ True ∧ True ∧ True) ∧
    SubB
    (AV.cons (1 : Nat)
    (AV.sc (Value.int IntKind.i64 ta))
    (AV.cons (256 : Nat)
    (AV.ar (256 : Nat) (1 : Nat)
    fun (i0 : Nat) =>
    AV.sc
    (Value.int IntKind.u8 (tbaf i0)))
    (AV.cons (1 : Nat)
    (AV.vec true (1 : Nat) tbban tbbam
    fun (i0 : Nat) =>
    AV.vec true (1 : Nat) (tbbafn i0)
    (tbbafm i0) fun (i1 : Nat) =>
    AV.sc
    (Value.int IntKind.i64
    (tbbaff i0 i1)))
    (AV.cons (1 : Nat)
    (AV.vec true (1 : Nat) tbbban tbbbam
    fun (i0 : Nat) =>
    AV.sc
    (Value.int IntKind.i64
    (tbbbaf i0)))
    AV.nil))))
    (AV.cons (1 : Nat)
    (AV.sc (Value.int IntKind.i64 ta))
    (AV.cons (256 : Nat)
    (AV.ar (256 : Nat) (1 : Nat)
    fun (i0 : Nat) =>
    AV.sc
    (Value.int IntKind.u8 (tbaf i0)))
    (AV.cons (1 : Nat)
    (AV.vec true (1 : Nat) tbban tbbam
    fun (i0 : Nat) =>
    AV.vec true (1 : Nat) (tbbafn i0)
    (tbbafm i0) fun (i1 : Nat) =>
    AV.sc
    (Value.int IntKind.i64
    (tbbaff i0 i1)))
    (AV.cons (1 : Nat)
    (AV.vec true (1 : Nat) tbbban tbbbam
    fun (i0 : Nat) =>
    AV.sc
    (Value.int IntKind.i64
    (tbbbaf i0)))
    AV.nil)))) ∧
    (True ∧ True ∧ True ∧ True ∧ True) ∧
    SubB
    (AV.cons (1 : Nat)
    (AV.sc (Value.int IntKind.i64 da))
    (AV.cons (256 : Nat)
    (AV.ar (256 : Nat) (1 : Nat)
    fun (i0 : Nat) =>
    AV.sc
    (Value.int IntKind.u8
    (dbaf i0)))
    (AV.cons (1 : Nat)
    (AV.vec true (1 : Nat) dbban dbban
    fun (i0 : Nat) =>
    AV.vec true (1 : Nat)
    (dbbafn i0) (dbbafn i0)
    fun (i1 : Nat) =>
    AV.sc
    (Value.int IntKind.i64
    (dbbaff i0 i1)))
    (AV.cons (1 : Nat)
    (AV.vec true (1 : Nat) dbbban
    dbbban fun (i0 : Nat) =>
    AV.sc
    (Value.int IntKind.i64
    (dbbbaf i0)))
    AV.nil))))
    (AV.cons (1 : Nat)
    (AV.sc (Value.int IntKind.i64 da))
    (AV.cons (256 : Nat)
    (AV.ar (256 : Nat) (1 : Nat)
    fun (i0 : Nat) =>
    AV.sc
    (Value.int IntKind.u8
    (dbaf i0)))
    (AV.cons (1 : Nat)
    (AV.vec true (1 : Nat) dbban dbban
    fun (i0 : Nat) =>
    AV.vec true (1 : Nat)
    (dbbafn i0) (dbbafn i0)
    fun (i1 : Nat) =>
    AV.sc
    (Value.int IntKind.i64
    (dbbaff i0 i1)))
    (AV.cons (1 : Nat)
    (AV.vec true (1 : Nat) dbbban
    dbbban fun (i0 : Nat) =>
    AV.sc
    (Value.int IntKind.i64
    (dbbbaf i0)))
    AV.nil)))) ∧
    True) ∧
    L19_0
    (IntKind.i64.wrap ((↑dbban : Int) + (3 : Int)) -
    (0 : Int)).toNat
    (tbbam - Int.toNat (0 : Int))
    (fun (i : Nat) =>
    tbbafn (plus (Int.toNat (0 : Int)) i))
    (fun (i : Nat) =>
    tbbafm (plus (Int.toNat (0 : Int)) i))
    (fun (i : Nat) =>
    tbbaff (plus (Int.toNat (0 : Int)) i))
    (0 : Int) ta tbaf tbban tbbam tbbafn tbbafm tbbaff
    tbbban tbbbam tbbbaf da dbaf dbban dbbafn dbbaff
    dbbban dbbbaf res)) ∧
    ((!r) = !false →
    true = true ∧
    (!false) = !false ∧
    true = true ∧
    (!false) = !false ∧
    true = true ∧
    (!false) = !false ∧
    true = true ∧
    (!false) = !false ∧
    true = true ∧
    (!false) = !false ∧
    true = true ∧
    (!false) = !false ∧
    true = true ∧
    (!false) = !false ∧
    true = true ∧
    True ∧
    True ∧
    true = !false ∧
    true = true ∧
    (!false) = !false ∧
    true = true ∧
    (!false) = !false ∧
    true = true ∧
    (!false) = !false ∧
    true = true ∧
    (!false) = !false ∧
    true = true ∧
    (!false) = !false ∧
    true = true ∧
    True ∧
    true = true ∧
    True ∧
    True ∧
    ((True ∧
    Sub (AV.sc (Value.bool false)) (AV.sc (Value.bool false)) ∧
    True) ∧
    True) ∧
    Sub (AV.sc (Value.bool false)) res ∧ SubOut [] []) from
    ⟨trivial, ⟨trivial, ⟨trivial, ⟨⟨rfl, trivial⟩, ⟨⟨rfl, trivial⟩, (Exists.elim h fun x5 h5 => ⟨x5, (And.elim (fun h6 k6 => ⟨⟨⟨⟨trivial, ⟨trivial, ⟨trivial, ⟨trivial, trivial⟩⟩⟩⟩, ⟨⟨trivial, ⟨trivial, ⟨trivial, ⟨trivial, trivial⟩⟩⟩⟩, trivial⟩⟩, ⟨trivial, h6⟩⟩, ⟨trivial, ⟨trivial, (And.elim (fun h9 k9 => ⟨(fun x10 => (fun h10 => ⟨trivial, ⟨rfl, ⟨⟨rfl, trivial⟩, ⟨rfl, ⟨trivial, ⟨rfl, ⟨trivial, ⟨rfl, ⟨⟨rfl, trivial⟩, ⟨rfl, ⟨trivial, ⟨rfl, ⟨trivial, ⟨rfl, (And.elim (fun h25 k25 => ⟨h25, ⟨trivial, ⟨trivial, ⟨rfl, ⟨trivial, ⟨rfl, ⟨⟨rfl, trivial⟩, ⟨rfl, ⟨trivial, ⟨rfl, ⟨⟨rfl, trivial⟩, ⟨rfl, (Exists.elim k25 fun x37 h37 => ⟨x37, (And.elim (fun h38 k38 => ⟨⟨⟨trivial, ⟨trivial, trivial⟩⟩, ⟨trivial, h38⟩⟩, ⟨rfl, ⟨trivial, ⟨trivial, (And.elim (fun h42 k42 => ⟨(fun x43 => (fun h43 => ⟨trivial, ⟨trivial, ⟨⟨⟨trivial, ⟨Sub.refl _, trivial⟩⟩, trivial⟩, ((fun h47 => ⟨h47, trivial⟩) h43)⟩⟩⟩) (h42 x43)), (fun x43 => (fun h43 => ⟨trivial, ⟨⟨rfl, trivial⟩, ⟨trivial, ⟨⟨rfl, trivial⟩, ⟨trivial, ⟨trivial, (And.elim (fun h50 k50 => ⟨(And.elim (fun h51 k51 => ⟨h51, ((fun h52 => ⟨h52, h25⟩) k51)⟩) h50), ⟨trivial, ⟨trivial, ⟨⟨⟨trivial, ⟨Sub.refl _, ⟨trivial, ⟨Sub.refl _, ⟨trivial, ⟨Sub.refl _, ⟨trivial, ⟨Sub.refl _, trivial⟩⟩⟩⟩⟩⟩⟩⟩, ⟨⟨trivial, ⟨trivial, ⟨trivial, ⟨trivial, trivial⟩⟩⟩⟩, ⟨SubB.refl _, ⟨⟨trivial, ⟨trivial, ⟨trivial, ⟨trivial, trivial⟩⟩⟩⟩, ⟨SubB.refl _, trivial⟩⟩⟩⟩⟩, k50⟩⟩⟩⟩) h43)⟩⟩⟩⟩⟩⟩) (k42 x43))⟩) k38)⟩⟩⟩⟩) h37)⟩)⟩⟩⟩⟩⟩⟩⟩⟩⟩⟩⟩⟩) h10)⟩⟩⟩⟩⟩⟩⟩⟩⟩⟩⟩⟩⟩⟩) (h9 x10)), (fun x10 => (fun h10 => ⟨rfl, ⟨rfl, ⟨rfl, ⟨rfl, ⟨rfl, ⟨rfl, ⟨rfl, ⟨rfl, ⟨rfl, ⟨rfl, ⟨rfl, ⟨rfl, ⟨rfl, ⟨rfl, ⟨rfl, ⟨trivial, ⟨trivial, ⟨rfl, ⟨rfl, ⟨rfl, ⟨rfl, ⟨rfl, ⟨rfl, ⟨rfl, ⟨rfl, ⟨rfl, ⟨rfl, ⟨rfl, ⟨rfl, ⟨trivial, ⟨rfl, ⟨trivial, ⟨trivial, ⟨⟨⟨trivial, ⟨Sub.refl _, trivial⟩⟩, trivial⟩, ((fun h45 => ⟨h45, trivial⟩) h10)⟩⟩⟩⟩⟩⟩⟩⟩⟩⟩⟩⟩⟩⟩⟩⟩⟩⟩⟩⟩⟩⟩⟩⟩⟩⟩⟩⟩⟩⟩⟩⟩⟩⟩) (k9 x10))⟩) k6)⟩⟩⟩) h5)⟩)⟩⟩⟩⟩⟩)
theorem r19_0 (alln : Nat) (allm : Nat) (allfn : Nat → Nat) (allfm : Nat → Nat) (allff : Nat → Nat → Int) (i : Int) (b0a : Int) (b0baf : Nat → Int) (b0bban : Nat) (b0bbam : Nat) (b0bbafn : Nat → Nat) (b0bbafm : Nat → Nat) (b0bbaff : Nat → Nat → Int) (b0bbban : Nat) (b0bbbam : Nat) (b0bbbaf : Nat → Int) (b1a : Int) (b1baf : Nat → Int) (b1bban : Nat) (b1bbafn : Nat → Nat) (b1bbaff : Nat → Nat → Int) (b1bbban : Nat) (b1bbbaf : Nat → Int) (res : AV)
    (h : (decide (i < (3 : Int)) = true →
    ((0 : Int) ≤ IntKind.i64.wrap ((↑b1bban : Int) + i) ∧ IntKind.i64.wrap ((↑b1bban : Int) + i) < (↑alln : Int)) ∧
    ∃ (r : Bool),
    ((0 : Nat) + (1 : Nat) ≤ (1 : Nat) ∧
    Ok Proofs.Try.prog (60 : Nat)
    [AV.vec true (1 : Nat) (allfn (IntKind.i64.wrap ((↑b1bban : Int) + i)).toNat) (allfm (IntKind.i64.wrap ((↑b1bban : Int) + i)).toNat)
    fun (i_1 : Nat) => AV.sc (Value.int IntKind.i64 (allff (IntKind.i64.wrap ((↑b1bban : Int) + i)).toNat i_1)),
    AV.vec true (1 : Nat) (1 : Nat) (1 : Nat) fun (i_1 : Nat) => AV.sc (Value.int IntKind.i64 (IntKind.i64.wrap ((-7000 : Int) - i)))]
    [] (AV.sc (Value.bool r)) []) ∧
    ((!r) = true → Sub (AV.sc (Value.bool false)) res) ∧
    ((!r) = false →
    L19_0 alln allm allfn allfm allff (IntKind.i64.wrap (i + (1 : Int))) b0a b0baf b0bban b0bbam b0bbafn b0bbafm b0bbaff b0bbban b0bbbam b0bbbaf b1a
    b1baf b1bban b1bbafn b1bbaff b1bbban b1bbbaf res)) ∧
  (decide (i < (3 : Int)) = false →
    L19_1 (0 : Int) b0a b0baf b0bban b0bbam b0bbafn b0bbafm b0bbaff b0bbban b0bbbam b0bbbaf b1a b1baf b1bban b1bbafn b1bbaff b1bbban b1bbbaf res)) :
    L19_0 alln allm allfn allfm allff i b0a b0baf b0bban b0bbam b0bbafn b0bbafm b0bbaff b0bbban b0bbbam b0bbbaf b1a b1baf b1bban b1bbafn b1bbaff b1bbban b1bbbaf res :=
  rule Go.Am.Seat.tabOk 19 [] Go.Proofs.Try.f19 hf19 [1, 1, 1, 0, 1, 0, 0] (s19_0 alln allm allfn allfm allff i b0a b0baf b0bban b0bbam b0bbafn b0bbafm b0bbaff b0bbban b0bbbam b0bbbaf b1a b1baf b1bban b1bbafn b1bbaff b1bbban b1bbbaf) (m19_0 alln allm allfn allfm allff i b0a b0baf b0bban b0bbam b0bbafn b0bbafm b0bbaff b0bbban b0bbbam b0bbbaf b1a b1baf b1bban b1bbafn b1bbaff b1bbban b1bbbaf) res [] 400
    ((Orc.call [] [] (fun (r60 : Bool) => AV.sc (Value.bool r60)) (fun (r60 : Bool) => []) fun (r60 : Bool) =>
    (Orc.fin (AV.sc (Value.bool false)) [] []).br
    (Orc.cut (nat_lit 4)
    (s19_0 alln allm allfn allfm allff (IntKind.i64.wrap (i + (1 : Int))) b0a b0baf b0bban b0bbam b0bbafn b0bbafm b0bbaff b0bbban b0bbbam b0bbbaf b1a
    b1baf b1bban b1bbafn b1bbaff b1bbban b1bbbaf)
    (m19_0 alln allm allfn allfm allff (IntKind.i64.wrap (i + (1 : Int))) b0a b0baf b0bban b0bbam b0bbafn b0bbafm b0bbaff b0bbban b0bbbam b0bbbaf b1a
    b1baf b1bban b1bbafn b1bbaff b1bbban b1bbbaf)
    [((1000 : Nat), some (1000 : Nat)), ((1001 : Nat), some (1001 : Nat))])).br
  (Orc.cut (nat_lit 6)
    (s19_1 (0 : Int) b0a b0baf b0bban b0bbam b0bbafn b0bbafm b0bbaff b0bbban b0bbbam b0bbbaf b1a b1baf b1bban b1bbafn b1bbaff b1bbban b1bbbaf)
    (m19_1 (0 : Int) b0a b0baf b0bban b0bbam b0bbafn b0bbafm b0bbaff b0bbban b0bbbam b0bbbaf b1a b1baf b1bban b1bbafn b1bbaff b1bbban b1bbbaf)
    [((1000 : Nat), some (1000 : Nat)), ((1001 : Nat), some (1001 : Nat))])) _ _ (by kernel_rfl) (by kernel_rfl) (show True ∧
  True ∧
    (decide (i < (3 : Int)) = true →
    True ∧
    True ∧
    ((1 : Nat) + ((256 : Nat) + (0 : Nat)) = plus (0 : Nat) (257 : Nat) ∧ True) ∧
    True ∧
    True ∧
    True ∧
    ((0 : Int) ≤ IntKind.i64.wrap ((↑b1bban : Int) + i) ∧ IntKind.i64.wrap ((↑b1bban : Int) + i) < (↑alln : Int)) ∧
    True ∧
    True ∧
    True ∧
    ((True ∧ True) ∧ True) ∧
    ∃ (r : Bool),
    ((True ∧ (0 : Nat) + (1 : Nat) ≤ (1 : Nat) ∧ True) ∧
    True ∧
    Ok Proofs.Try.prog (60 : Nat)
    [AV.vec true (1 : Nat) (allfn (IntKind.i64.wrap ((↑b1bban : Int) + i)).toNat)
    (allfm (IntKind.i64.wrap ((↑b1bban : Int) + i)).toNat) fun (i_1 : Nat) =>
    AV.sc (Value.int IntKind.i64 (allff (IntKind.i64.wrap ((↑b1bban : Int) + i)).toNat i_1)),
    AV.vec true (1 : Nat) (1 : Nat) (1 : Nat) fun (i_1 : Nat) =>
    AV.sc (Value.int IntKind.i64 (IntKind.i64.wrap ((-7000 : Int) - i)))]
    [] (AV.sc (Value.bool r)) []) ∧
    True ∧
    ((!r) = true →
    True ∧
    True ∧
    ((True ∧ Sub (AV.sc (Value.bool false)) (AV.sc (Value.bool false)) ∧ True) ∧ True) ∧
    Sub (AV.sc (Value.bool false)) res ∧ SubOut [] []) ∧
    ((!r) = false →
    True ∧
    True ∧
    True ∧
    ((True ∧
    Sub (AV.pt (1000 : Nat) [] (0 : Nat)) (AV.pt (1000 : Nat) [] (0 : Nat)) ∧
    True ∧
    Sub (AV.pt (1001 : Nat) [] (0 : Nat)) (AV.pt (1001 : Nat) [] (0 : Nat)) ∧
    True ∧
    Sub
    (AV.vec true (1 : Nat) alln allm fun (i0 : Nat) =>
    AV.vec true (1 : Nat) (allfn i0) (allfm i0) fun (i1 : Nat) =>
    AV.sc (Value.int IntKind.i64 (allff i0 i1)))
    (AV.vec true (1 : Nat) alln allm fun (i0 : Nat) =>
    AV.vec true (1 : Nat) (allfn i0) (allfm i0) fun (i1 : Nat) =>
    AV.sc (Value.int IntKind.i64 (allff i0 i1))) ∧
    True ∧
    Sub (AV.sc (Value.int IntKind.i64 (IntKind.i64.wrap (i + (1 : Int)))))
    (AV.sc (Value.int IntKind.i64 (IntKind.i64.wrap (i + (1 : Int))))) ∧
    True) ∧
    (True ∧ True ∧ True ∧ True ∧ True) ∧
    SubB
    (AV.cons (1 : Nat) (AV.sc (Value.int IntKind.i64 b0a))
    (AV.cons (256 : Nat)
    (AV.ar (256 : Nat) (1 : Nat) fun (i0 : Nat) => AV.sc (Value.int IntKind.u8 (b0baf i0)))
    (AV.cons (1 : Nat)
    (AV.vec true (1 : Nat) b0bban b0bbam fun (i0 : Nat) =>
    AV.vec true (1 : Nat) (b0bbafn i0) (b0bbafm i0) fun (i1 : Nat) =>
    AV.sc (Value.int IntKind.i64 (b0bbaff i0 i1)))
    (AV.cons (1 : Nat)
    (AV.vec true (1 : Nat) b0bbban b0bbbam fun (i0 : Nat) =>
    AV.sc (Value.int IntKind.i64 (b0bbbaf i0)))
    AV.nil))))
    (AV.cons (1 : Nat) (AV.sc (Value.int IntKind.i64 b0a))
    (AV.cons (256 : Nat)
    (AV.ar (256 : Nat) (1 : Nat) fun (i0 : Nat) => AV.sc (Value.int IntKind.u8 (b0baf i0)))
    (AV.cons (1 : Nat)
    (AV.vec true (1 : Nat) b0bban b0bbam fun (i0 : Nat) =>
    AV.vec true (1 : Nat) (b0bbafn i0) (b0bbafm i0) fun (i1 : Nat) =>
    AV.sc (Value.int IntKind.i64 (b0bbaff i0 i1)))
    (AV.cons (1 : Nat)
    (AV.vec true (1 : Nat) b0bbban b0bbbam fun (i0 : Nat) =>
    AV.sc (Value.int IntKind.i64 (b0bbbaf i0)))
    AV.nil)))) ∧
    (True ∧ True ∧ True ∧ True ∧ True) ∧
    SubB
    (AV.cons (1 : Nat) (AV.sc (Value.int IntKind.i64 b1a))
    (AV.cons (256 : Nat)
    (AV.ar (256 : Nat) (1 : Nat) fun (i0 : Nat) => AV.sc (Value.int IntKind.u8 (b1baf i0)))
    (AV.cons (1 : Nat)
    (AV.vec true (1 : Nat) b1bban b1bban fun (i0 : Nat) =>
    AV.vec true (1 : Nat) (b1bbafn i0) (b1bbafn i0) fun (i1 : Nat) =>
    AV.sc (Value.int IntKind.i64 (b1bbaff i0 i1)))
    (AV.cons (1 : Nat)
    (AV.vec true (1 : Nat) b1bbban b1bbban fun (i0 : Nat) =>
    AV.sc (Value.int IntKind.i64 (b1bbbaf i0)))
    AV.nil))))
    (AV.cons (1 : Nat) (AV.sc (Value.int IntKind.i64 b1a))
    (AV.cons (256 : Nat)
    (AV.ar (256 : Nat) (1 : Nat) fun (i0 : Nat) => AV.sc (Value.int IntKind.u8 (b1baf i0)))
    (AV.cons (1 : Nat)
    (AV.vec true (1 : Nat) b1bban b1bban fun (i0 : Nat) =>
    AV.vec true (1 : Nat) (b1bbafn i0) (b1bbafn i0) fun (i1 : Nat) =>
    AV.sc (Value.int IntKind.i64 (b1bbaff i0 i1)))
    (AV.cons (1 : Nat)
    (AV.vec true (1 : Nat) b1bbban b1bbban fun (i0 : Nat) =>
    AV.sc (Value.int IntKind.i64 (b1bbbaf i0)))
    AV.nil)))) ∧
    True) ∧
    L19_0 alln allm allfn allfm allff (IntKind.i64.wrap (i + (1 : Int))) b0a b0baf b0bban b0bbam b0bbafn b0bbafm
    b0bbaff b0bbban b0bbbam b0bbbaf b1a b1baf b1bban b1bbafn b1bbaff b1bbban b1bbbaf res)) ∧
    (decide (i < (3 : Int)) = false →
    True ∧
    ((True ∧
    Sub (AV.pt (1000 : Nat) [] (0 : Nat)) (AV.pt (1000 : Nat) [] (0 : Nat)) ∧
    True ∧
    Sub (AV.pt (1001 : Nat) [] (0 : Nat)) (AV.pt (1001 : Nat) [] (0 : Nat)) ∧
    True ∧ Sub (AV.sc (Value.int IntKind.i64 (0 : Int))) (AV.sc (Value.int IntKind.i64 (0 : Int))) ∧ True) ∧
    (True ∧ True ∧ True ∧ True ∧ True) ∧
    SubB
    (AV.cons (1 : Nat) (AV.sc (Value.int IntKind.i64 b0a))
    (AV.cons (256 : Nat) (AV.ar (256 : Nat) (1 : Nat) fun (i0 : Nat) => AV.sc (Value.int IntKind.u8 (b0baf i0)))
    (AV.cons (1 : Nat)
    (AV.vec true (1 : Nat) b0bban b0bbam fun (i0 : Nat) =>
    AV.vec true (1 : Nat) (b0bbafn i0) (b0bbafm i0) fun (i1 : Nat) => AV.sc (Value.int IntKind.i64 (b0bbaff i0 i1)))
    (AV.cons (1 : Nat) (AV.vec true (1 : Nat) b0bbban b0bbbam fun (i0 : Nat) => AV.sc (Value.int IntKind.i64 (b0bbbaf i0))) AV.nil))))
    (AV.cons (1 : Nat) (AV.sc (Value.int IntKind.i64 b0a))
    (AV.cons (256 : Nat) (AV.ar (256 : Nat) (1 : Nat) fun (i0 : Nat) => AV.sc (Value.int IntKind.u8 (b0baf i0)))
    (AV.cons (1 : Nat)
    (AV.vec true (1 : Nat) b0bban b0bbam fun (i0 : Nat) =>
    AV.vec true (1 : Nat) (b0bbafn i0) (b0bbafm i0) fun (i1 : Nat) => AV.sc (Value.int IntKind.i64 (b0bbaff i0 i1)))
    (AV.cons (1 : Nat) (AV.vec true (1 : Nat) b0bbban b0bbbam fun (i0 : Nat) => AV.sc (Value.int IntKind.i64 (b0bbbaf i0))) AV.nil)))) ∧
    (True ∧ True ∧ True ∧ True ∧ True) ∧
    SubB
    (AV.cons (1 : Nat) (AV.sc (Value.int IntKind.i64 b1a))
    (AV.cons (256 : Nat) (AV.ar (256 : Nat) (1 : Nat) fun (i0 : Nat) => AV.sc (Value.int IntKind.u8 (b1baf i0)))
    (AV.cons (1 : Nat)
    (AV.vec true (1 : Nat) b1bban b1bban fun (i0 : Nat) =>
    AV.vec true (1 : Nat) (b1bbafn i0) (b1bbafn i0) fun (i1 : Nat) => AV.sc (Value.int IntKind.i64 (b1bbaff i0 i1)))
    (AV.cons (1 : Nat) (AV.vec true (1 : Nat) b1bbban b1bbban fun (i0 : Nat) => AV.sc (Value.int IntKind.i64 (b1bbbaf i0))) AV.nil))))
    (AV.cons (1 : Nat) (AV.sc (Value.int IntKind.i64 b1a))
    (AV.cons (256 : Nat) (AV.ar (256 : Nat) (1 : Nat) fun (i0 : Nat) => AV.sc (Value.int IntKind.u8 (b1baf i0)))
    (AV.cons (1 : Nat)
    (AV.vec true (1 : Nat) b1bban b1bban fun (i0 : Nat) =>
    AV.vec true (1 : Nat) (b1bbafn i0) (b1bbafn i0) fun (i1 : Nat) => AV.sc (Value.int IntKind.i64 (b1bbaff i0 i1)))
    (AV.cons (1 : Nat) (AV.vec true (1 : Nat) b1bbban b1bbban fun (i0 : Nat) => AV.sc (Value.int IntKind.i64 (b1bbbaf i0)))
    AV.nil)))) ∧
    True) ∧
    L19_1 (0 : Int) b0a b0baf b0bban b0bbam b0bbafn b0bbafm b0bbaff b0bbban b0bbbam b0bbbaf b1a b1baf b1bban b1bbafn b1bbaff b1bbban b1bbbaf res) from
    ⟨trivial, ⟨trivial, (And.elim (fun h2 k2 => ⟨(fun x3 => (fun h3 => ⟨trivial, ⟨trivial, ⟨⟨rfl, trivial⟩, ⟨trivial, ⟨trivial, ⟨trivial, (And.elim (fun h10 k10 => ⟨(And.elim (fun h11 k11 => ⟨h11, k11⟩) h10), ⟨trivial, ⟨trivial, ⟨trivial, ⟨⟨⟨trivial, trivial⟩, trivial⟩, (Exists.elim k10 fun x15 h15 => ⟨x15, (And.elim (fun h16 k16 => ⟨(And.elim (fun h17 k17 => ⟨⟨trivial, ((fun h19 => ⟨h19, trivial⟩) h17)⟩, ⟨trivial, k17⟩⟩) h16), ⟨trivial, (And.elim (fun h18 k18 => ⟨(fun x19 => (fun h19 => ⟨trivial, ⟨trivial, ⟨⟨⟨trivial, ⟨Sub.refl _, trivial⟩⟩, trivial⟩, ((fun h23 => ⟨h23, trivial⟩) h19)⟩⟩⟩) (h18 x19)), (fun x19 => (fun h19 => ⟨trivial, ⟨trivial, ⟨trivial, ⟨⟨⟨trivial, ⟨Sub.refl _, ⟨trivial, ⟨Sub.refl _, ⟨trivial, ⟨Sub.refl _, ⟨trivial, ⟨Sub.refl _, trivial⟩⟩⟩⟩⟩⟩⟩⟩, ⟨⟨trivial, ⟨trivial, ⟨trivial, ⟨trivial, trivial⟩⟩⟩⟩, ⟨SubB.refl _, ⟨⟨trivial, ⟨trivial, ⟨trivial, ⟨trivial, trivial⟩⟩⟩⟩, ⟨SubB.refl _, trivial⟩⟩⟩⟩⟩, h19⟩⟩⟩⟩) (k18 x19))⟩) k16)⟩⟩) h15)⟩)⟩⟩⟩⟩⟩) h3)⟩⟩⟩⟩⟩⟩) (h2 x3)), (fun x3 => (fun h3 => ⟨trivial, ⟨⟨⟨trivial, ⟨Sub.refl _, ⟨trivial, ⟨Sub.refl _, ⟨trivial, ⟨Sub.refl _, trivial⟩⟩⟩⟩⟩⟩, ⟨⟨trivial, ⟨trivial, ⟨trivial, ⟨trivial, trivial⟩⟩⟩⟩, ⟨SubB.refl _, ⟨⟨trivial, ⟨trivial, ⟨trivial, ⟨trivial, trivial⟩⟩⟩⟩, ⟨SubB.refl _, trivial⟩⟩⟩⟩⟩, h3⟩⟩) (k2 x3))⟩) h)⟩⟩)
theorem r19_1 (i : Int) (b0a : Int) (b0baf : Nat → Int) (b0bban : Nat) (b0bbam : Nat) (b0bbafn : Nat → Nat) (b0bbafm : Nat → Nat) (b0bbaff : Nat → Nat → Int) (b0bbban : Nat) (b0bbbam : Nat) (b0bbbaf : Nat → Int) (b1a : Int) (b1baf : Nat → Int) (b1bban : Nat) (b1bbafn : Nat → Nat) (b1bbaff : Nat → Nat → Int) (b1bbban : Nat) (b1bbbaf : Nat → Int) (res : AV)
    (h : (decide (i < (↑b1bban : Int)) = true →
    ((0 : Int) ≤ i ∧ i < (↑b0bban : Int)) ∧
    ((0 : Int) ≤ i ∧ i < (↑b1bban : Int)) ∧
    ∃ (r : Bool),
    Ok Proofs.Try.prog (59 : Nat)
    [AV.vec true (1 : Nat) (b0bbafn i.toNat) (b0bbafm i.toNat) fun (i_1 : Nat) => AV.sc (Value.int IntKind.i64 (b0bbaff i.toNat i_1)),
    AV.vec true (1 : Nat) (b1bbafn i.toNat) (b1bbafn i.toNat) fun (i_1 : Nat) => AV.sc (Value.int IntKind.i64 (b1bbaff i.toNat i_1))]
    [] (AV.sc (Value.bool r)) [] ∧
    ((!r) = true → Sub (AV.sc (Value.bool false)) res) ∧
    ((!r) = false →
    L19_1 (IntKind.i64.wrap (i + (1 : Int))) b0a b0baf b0bban b0bbam b0bbafn b0bbafm b0bbaff b0bbban b0bbbam b0bbbaf b1a b1baf b1bban b1bbafn
    b1bbaff b1bbban b1bbbaf res)) ∧
  (decide (i < (↑b1bban : Int)) = false → Sub (AV.sc (Value.bool true)) res)) :
    L19_1 i b0a b0baf b0bban b0bbam b0bbafn b0bbafm b0bbaff b0bbban b0bbbam b0bbbaf b1a b1baf b1bban b1bbafn b1bbaff b1bbban b1bbbaf res :=
  rule Go.Am.Seat.tabOk 19 [] Go.Proofs.Try.f19 hf19 [1, 1, 1, 1, 0, 1, 0, 0] (s19_1 i b0a b0baf b0bban b0bbam b0bbafn b0bbafm b0bbaff b0bbban b0bbbam b0bbbaf b1a b1baf b1bban b1bbafn b1bbaff b1bbban b1bbbaf) (m19_1 i b0a b0baf b0bban b0bbam b0bbafn b0bbafm b0bbaff b0bbban b0bbbam b0bbbaf b1a b1baf b1bban b1bbafn b1bbaff b1bbban b1bbbaf) res [] 400
    ((Orc.call [] [] (fun (r59 : Bool) => AV.sc (Value.bool r59)) (fun (r59 : Bool) => []) fun (r59 : Bool) =>
    (Orc.fin (AV.sc (Value.bool false)) [] []).br
    (Orc.cut (nat_lit 4)
    (s19_1 (IntKind.i64.wrap (i + (1 : Int))) b0a b0baf b0bban b0bbam b0bbafn b0bbafm b0bbaff b0bbban b0bbbam b0bbbaf b1a b1baf b1bban b1bbafn b1bbaff
    b1bbban b1bbbaf)
    (m19_1 (IntKind.i64.wrap (i + (1 : Int))) b0a b0baf b0bban b0bbam b0bbafn b0bbafm b0bbaff b0bbban b0bbbam b0bbbaf b1a b1baf b1bban b1bbafn b1bbaff
    b1bbban b1bbbaf)
    [((1000 : Nat), some (1000 : Nat)), ((1001 : Nat), some (1001 : Nat))])).br
  (Orc.fin (AV.sc (Value.bool true)) [] [])) _ _ (by kernel_rfl) (by kernel_rfl) (show True ∧
  True ∧
    ((1 : Nat) + ((256 : Nat) + (0 : Nat)) = plus (0 : Nat) (257 : Nat) ∧ True) ∧
    True ∧
    True ∧
    (decide (i < (↑b1bban : Int)) = true →
    True ∧
    ((1 : Nat) + ((256 : Nat) + (0 : Nat)) = plus (0 : Nat) (257 : Nat) ∧ True) ∧
    True ∧
    ((0 : Int) ≤ i ∧ i < (↑b0bban : Int)) ∧
    True ∧
    True ∧
    ((1 : Nat) + ((256 : Nat) + (0 : Nat)) = plus (0 : Nat) (257 : Nat) ∧ True) ∧
    True ∧
    ((0 : Int) ≤ i ∧ i < (↑b1bban : Int)) ∧
    True ∧
    ∃ (r : Bool),
    ((True ∧ True ∧ True) ∧
    True ∧
    Ok Proofs.Try.prog (59 : Nat)
    [AV.vec true (1 : Nat) (b0bbafn i.toNat) (b0bbafm i.toNat) fun (i_1 : Nat) =>
    AV.sc (Value.int IntKind.i64 (b0bbaff i.toNat i_1)),
    AV.vec true (1 : Nat) (b1bbafn i.toNat) (b1bbafn i.toNat) fun (i_1 : Nat) =>
    AV.sc (Value.int IntKind.i64 (b1bbaff i.toNat i_1))]
    [] (AV.sc (Value.bool r)) []) ∧
    True ∧
    ((!r) = true →
    True ∧
    True ∧
    ((True ∧ Sub (AV.sc (Value.bool false)) (AV.sc (Value.bool false)) ∧ True) ∧ True) ∧
    Sub (AV.sc (Value.bool false)) res ∧ SubOut [] []) ∧
    ((!r) = false →
    True ∧
    True ∧
    True ∧
    ((True ∧
    Sub (AV.pt (1000 : Nat) [] (0 : Nat)) (AV.pt (1000 : Nat) [] (0 : Nat)) ∧
    True ∧
    Sub (AV.pt (1001 : Nat) [] (0 : Nat)) (AV.pt (1001 : Nat) [] (0 : Nat)) ∧
    True ∧
    Sub (AV.sc (Value.int IntKind.i64 (IntKind.i64.wrap (i + (1 : Int)))))
    (AV.sc (Value.int IntKind.i64 (IntKind.i64.wrap (i + (1 : Int))))) ∧
    True) ∧
    (True ∧ True ∧ True ∧ True ∧ True) ∧
    SubB
    (AV.cons (1 : Nat) (AV.sc (Value.int IntKind.i64 b0a))
    (AV.cons (256 : Nat)
    (AV.ar (256 : Nat) (1 : Nat) fun (i0 : Nat) => AV.sc (Value.int IntKind.u8 (b0baf i0)))
    (AV.cons (1 : Nat)
    (AV.vec true (1 : Nat) b0bban b0bbam fun (i0 : Nat) =>
    AV.vec true (1 : Nat) (b0bbafn i0) (b0bbafm i0) fun (i1 : Nat) =>
    AV.sc (Value.int IntKind.i64 (b0bbaff i0 i1)))
    (AV.cons (1 : Nat)
    (AV.vec true (1 : Nat) b0bbban b0bbbam fun (i0 : Nat) =>
    AV.sc (Value.int IntKind.i64 (b0bbbaf i0)))
    AV.nil))))
    (AV.cons (1 : Nat) (AV.sc (Value.int IntKind.i64 b0a))
    (AV.cons (256 : Nat)
    (AV.ar (256 : Nat) (1 : Nat) fun (i0 : Nat) => AV.sc (Value.int IntKind.u8 (b0baf i0)))
    (AV.cons (1 : Nat)
    (AV.vec true (1 : Nat) b0bban b0bbam fun (i0 : Nat) =>
    AV.vec true (1 : Nat) (b0bbafn i0) (b0bbafm i0) fun (i1 : Nat) =>
    AV.sc (Value.int IntKind.i64 (b0bbaff i0 i1)))
    (AV.cons (1 : Nat)
    (AV.vec true (1 : Nat) b0bbban b0bbbam fun (i0 : Nat) =>
    AV.sc (Value.int IntKind.i64 (b0bbbaf i0)))
    AV.nil)))) ∧
    (True ∧ True ∧ True ∧ True ∧ True) ∧
    SubB
    (AV.cons (1 : Nat) (AV.sc (Value.int IntKind.i64 b1a))
    (AV.cons (256 : Nat)
    (AV.ar (256 : Nat) (1 : Nat) fun (i0 : Nat) => AV.sc (Value.int IntKind.u8 (b1baf i0)))
    (AV.cons (1 : Nat)
    (AV.vec true (1 : Nat) b1bban b1bban fun (i0 : Nat) =>
    AV.vec true (1 : Nat) (b1bbafn i0) (b1bbafn i0) fun (i1 : Nat) =>
    AV.sc (Value.int IntKind.i64 (b1bbaff i0 i1)))
    (AV.cons (1 : Nat)
    (AV.vec true (1 : Nat) b1bbban b1bbban fun (i0 : Nat) =>
    AV.sc (Value.int IntKind.i64 (b1bbbaf i0)))
    AV.nil))))
    (AV.cons (1 : Nat) (AV.sc (Value.int IntKind.i64 b1a))
    (AV.cons (256 : Nat)
    (AV.ar (256 : Nat) (1 : Nat) fun (i0 : Nat) => AV.sc (Value.int IntKind.u8 (b1baf i0)))
    (AV.cons (1 : Nat)
    (AV.vec true (1 : Nat) b1bban b1bban fun (i0 : Nat) =>
    AV.vec true (1 : Nat) (b1bbafn i0) (b1bbafn i0) fun (i1 : Nat) =>
    AV.sc (Value.int IntKind.i64 (b1bbaff i0 i1)))
    (AV.cons (1 : Nat)
    (AV.vec true (1 : Nat) b1bbban b1bbban fun (i0 : Nat) =>
    AV.sc (Value.int IntKind.i64 (b1bbbaf i0)))
    AV.nil)))) ∧
    True) ∧
    L19_1 (IntKind.i64.wrap (i + (1 : Int))) b0a b0baf b0bban b0bbam b0bbafn b0bbafm b0bbaff b0bbban b0bbbam
    b0bbbaf b1a b1baf b1bban b1bbafn b1bbaff b1bbban b1bbbaf res)) ∧
    (decide (i < (↑b1bban : Int)) = false →
    True ∧ True ∧ ((True ∧ Sub (AV.sc (Value.bool true)) (AV.sc (Value.bool true)) ∧ True) ∧ True) ∧ Sub (AV.sc (Value.bool true)) res ∧ SubOut [] []) from
    ⟨trivial, ⟨trivial, ⟨⟨rfl, trivial⟩, ⟨trivial, ⟨trivial, (And.elim (fun h5 k5 => ⟨(fun x6 => (fun h6 => ⟨trivial, ⟨⟨rfl, trivial⟩, ⟨trivial, (And.elim (fun h10 k10 => ⟨(And.elim (fun h11 k11 => ⟨h11, k11⟩) h10), ⟨trivial, ⟨trivial, ⟨⟨rfl, trivial⟩, ⟨trivial, (And.elim (fun h15 k15 => ⟨(And.elim (fun h16 k16 => ⟨h16, k16⟩) h15), ⟨trivial, (Exists.elim k15 fun x17 h17 => ⟨x17, (And.elim (fun h18 k18 => ⟨⟨⟨trivial, ⟨trivial, trivial⟩⟩, ⟨trivial, h18⟩⟩, ⟨trivial, (And.elim (fun h20 k20 => ⟨(fun x21 => (fun h21 => ⟨trivial, ⟨trivial, ⟨⟨⟨trivial, ⟨Sub.refl _, trivial⟩⟩, trivial⟩, ((fun h25 => ⟨h25, trivial⟩) h21)⟩⟩⟩) (h20 x21)), (fun x21 => (fun h21 => ⟨trivial, ⟨trivial, ⟨trivial, ⟨⟨⟨trivial, ⟨Sub.refl _, ⟨trivial, ⟨Sub.refl _, ⟨trivial, ⟨Sub.refl _, trivial⟩⟩⟩⟩⟩⟩, ⟨⟨trivial, ⟨trivial, ⟨trivial, ⟨trivial, trivial⟩⟩⟩⟩, ⟨SubB.refl _, ⟨⟨trivial, ⟨trivial, ⟨trivial, ⟨trivial, trivial⟩⟩⟩⟩, ⟨SubB.refl _, trivial⟩⟩⟩⟩⟩, h21⟩⟩⟩⟩) (k20 x21))⟩) k18)⟩⟩) h17)⟩)⟩⟩) k10)⟩⟩⟩⟩⟩) h6)⟩⟩⟩) (h5 x6)), (fun x6 => (fun h6 => ⟨trivial, ⟨trivial, ⟨⟨⟨trivial, ⟨Sub.refl _, trivial⟩⟩, trivial⟩, ((fun h10 => ⟨h10, trivial⟩) h6)⟩⟩⟩) (k5 x6))⟩) h)⟩⟩⟩⟩⟩)
theorem hf20 : Go.Proofs.Try.prog.funcs[20]? = some Go.Proofs.Try.f20 := by kernel_rfl
abbrev s20_e : List (Nat × AV) := []
abbrev m20_e : List (Nat × Nat × AV) := []
def L20_e (res : AV) : Prop := Goes ⟨Go.Proofs.Try.prog, 20, [], res, []⟩ (place Go.Proofs.Try.f20 []) (s20_e ) (m20_e )
theorem a20_e (res : AV) (h : (∀ slot, fact (look .undef (s20_e ) slot)) → L20_e  res) : L20_e  res :=
  assumeRule 20 [] Go.Proofs.Try.f20 hf20 [] (s20_e ) (m20_e ) res [] _ (by kernel_rfl) h
theorem o20 (res : AV) (hnew : newOnly res) (h : L20_e  res) : Ok Go.Proofs.Try.prog 20 [] [] res [] :=
  okRule2 20 Go.Proofs.Try.f20 hf20 [] [] res [] [] rfl (by kernel_rfl) (by kernel_rfl) (by kernel_rfl) ⟨hnew, by simp⟩ (L20_e  res) (by kernel_rfl) h
theorem r20_e (res : AV)
    (h : ∃ (r : Int × (Nat → Int) × Nat × (Nat → Nat) × (Nat → Nat → Int) × Nat × (Nat → Int)),
  Ok Proofs.Try.prog (61 : Nat) [] []
    (AV.cons (1 : Nat) (AV.sc (Value.int IntKind.i64 r.fst))
    (AV.cons (256 : Nat) (AV.ar (256 : Nat) (1 : Nat) fun (i0 : Nat) => AV.sc (Value.int IntKind.u8 (r.snd.fst i0)))
    (AV.cons (1 : Nat)
    (AV.vec false (1 : Nat) r.snd.snd.fst r.snd.snd.fst fun (i0 : Nat) =>
    AV.vec false (1 : Nat) (r.snd.snd.snd.fst i0) (r.snd.snd.snd.fst i0) fun (i1 : Nat) =>
    AV.sc (Value.int IntKind.i64 (r.snd.snd.snd.snd.fst i0 i1)))
    (AV.cons (1 : Nat)
    (AV.vec false (1 : Nat) r.snd.snd.snd.snd.snd.fst r.snd.snd.snd.snd.snd.fst fun (i0 : Nat) =>
    AV.sc (Value.int IntKind.i64 (r.snd.snd.snd.snd.snd.snd i0)))
    AV.nil))))
    [] ∧
    ∃ (r_1 : Int × Int × Int × Int),
    Ok Proofs.Try.prog (17 : Nat)
    [AV.cons (1 : Nat) (AV.sc (Value.int IntKind.i64 r.fst))
    (AV.cons (256 : Nat) (AV.ar (256 : Nat) (1 : Nat) fun (i : Nat) => AV.sc (Value.int IntKind.u8 (r.snd.fst i)))
    (AV.cons (1 : Nat)
    (AV.vec true (1 : Nat) r.snd.snd.fst r.snd.snd.fst fun (i : Nat) =>
    AV.vec true (1 : Nat) (r.snd.snd.snd.fst i) (r.snd.snd.snd.fst i) fun (i_1 : Nat) =>
    AV.sc (Value.int IntKind.i64 (r.snd.snd.snd.snd.fst i i_1)))
    (AV.cons (1 : Nat)
    (AV.vec true (1 : Nat) r.snd.snd.snd.snd.snd.fst r.snd.snd.snd.snd.snd.fst fun (i : Nat) =>
    AV.sc (Value.int IntKind.i64 (r.snd.snd.snd.snd.snd.snd i)))
    AV.nil))),
    AV.sc (Value.string (ByteArray.mk #[(97 : UInt8), (97 : UInt8), (98 : UInt8), (99 : UInt8)])), AV.sc (Value.int IntKind.i64 (0 : Int))]
    []
    (AV.cons (1 : Nat)
    (AV.cons (1 : Nat) (AV.sc (Value.int IntKind.i64 r_1.fst))
    (AV.cons (1 : Nat) (AV.sc (Value.int IntKind.i64 r_1.snd.fst)) (AV.cons (1 : Nat) (AV.sc (Value.int IntKind.i64 r_1.snd.snd.fst)) AV.nil)))
    (AV.cons (1 : Nat) (AV.sc (Value.int IntKind.i64 r_1.snd.snd.snd)) AV.nil)).tup
    [] ∧
    ∃ (r : Int × (Nat → Int) × Nat × (Nat → Nat) × (Nat → Nat → Int) × Nat × (Nat → Int)),
    Ok Proofs.Try.prog (61 : Nat) [] []
    (AV.cons (1 : Nat) (AV.sc (Value.int IntKind.i64 r.fst))
    (AV.cons (256 : Nat) (AV.ar (256 : Nat) (1 : Nat) fun (i0 : Nat) => AV.sc (Value.int IntKind.u8 (r.snd.fst i0)))
    (AV.cons (1 : Nat)
    (AV.vec false (1 : Nat) r.snd.snd.fst r.snd.snd.fst fun (i0 : Nat) =>
    AV.vec false (1 : Nat) (r.snd.snd.snd.fst i0) (r.snd.snd.snd.fst i0) fun (i1 : Nat) =>
    AV.sc (Value.int IntKind.i64 (r.snd.snd.snd.snd.fst i0 i1)))
    (AV.cons (1 : Nat)
    (AV.vec false (1 : Nat) r.snd.snd.snd.snd.snd.fst r.snd.snd.snd.snd.snd.fst fun (i0 : Nat) =>
    AV.sc (Value.int IntKind.i64 (r.snd.snd.snd.snd.snd.snd i0)))
    AV.nil))))
    [] ∧
    ∃ (r_2 : Int × Int × Int × Int),
    Ok Proofs.Try.prog (17 : Nat)
    [AV.cons (1 : Nat) (AV.sc (Value.int IntKind.i64 r.fst))
    (AV.cons (256 : Nat) (AV.ar (256 : Nat) (1 : Nat) fun (i : Nat) => AV.sc (Value.int IntKind.u8 (r.snd.fst i)))
    (AV.cons (1 : Nat)
    (AV.vec true (1 : Nat) r.snd.snd.fst r.snd.snd.fst fun (i : Nat) =>
    AV.vec true (1 : Nat) (r.snd.snd.snd.fst i) (r.snd.snd.snd.fst i) fun (i_1 : Nat) =>
    AV.sc (Value.int IntKind.i64 (r.snd.snd.snd.snd.fst i i_1)))
    (AV.cons (1 : Nat)
    (AV.vec true (1 : Nat) r.snd.snd.snd.snd.snd.fst r.snd.snd.snd.snd.snd.fst fun (i : Nat) =>
    AV.sc (Value.int IntKind.i64 (r.snd.snd.snd.snd.snd.snd i)))
    AV.nil))),
    AV.sc (Value.string (ByteArray.mk #[(120 : UInt8), (97 : UInt8), (98 : UInt8)])), AV.sc (Value.int IntKind.i64 (1 : Int))]
    []
    (AV.cons (1 : Nat)
    (AV.cons (1 : Nat) (AV.sc (Value.int IntKind.i64 r_2.fst))
    (AV.cons (1 : Nat) (AV.sc (Value.int IntKind.i64 r_2.snd.fst))
    (AV.cons (1 : Nat) (AV.sc (Value.int IntKind.i64 r_2.snd.snd.fst)) AV.nil)))
    (AV.cons (1 : Nat) (AV.sc (Value.int IntKind.i64 r_2.snd.snd.snd)) AV.nil)).tup
    [] ∧
    ∃ (r : Int × (Nat → Int) × Nat × (Nat → Nat) × (Nat → Nat → Int) × Nat × (Nat → Int)),
    Ok Proofs.Try.prog (61 : Nat) [] []
    (AV.cons (1 : Nat) (AV.sc (Value.int IntKind.i64 r.fst))
    (AV.cons (256 : Nat) (AV.ar (256 : Nat) (1 : Nat) fun (i0 : Nat) => AV.sc (Value.int IntKind.u8 (r.snd.fst i0)))
    (AV.cons (1 : Nat)
    (AV.vec false (1 : Nat) r.snd.snd.fst r.snd.snd.fst fun (i0 : Nat) =>
    AV.vec false (1 : Nat) (r.snd.snd.snd.fst i0) (r.snd.snd.snd.fst i0) fun (i1 : Nat) =>
    AV.sc (Value.int IntKind.i64 (r.snd.snd.snd.snd.fst i0 i1)))
    (AV.cons (1 : Nat)
    (AV.vec false (1 : Nat) r.snd.snd.snd.snd.snd.fst r.snd.snd.snd.snd.snd.fst fun (i0 : Nat) =>
    AV.sc (Value.int IntKind.i64 (r.snd.snd.snd.snd.snd.snd i0)))
    AV.nil))))
    [] ∧
    ∃ (r_3 : Int × Int × Int × Int),
    Ok Proofs.Try.prog (17 : Nat)
    [AV.cons (1 : Nat) (AV.sc (Value.int IntKind.i64 r.fst))
    (AV.cons (256 : Nat) (AV.ar (256 : Nat) (1 : Nat) fun (i : Nat) => AV.sc (Value.int IntKind.u8 (r.snd.fst i)))
    (AV.cons (1 : Nat)
    (AV.vec true (1 : Nat) r.snd.snd.fst r.snd.snd.fst fun (i : Nat) =>
    AV.vec true (1 : Nat) (r.snd.snd.snd.fst i) (r.snd.snd.snd.fst i) fun (i_1 : Nat) =>
    AV.sc (Value.int IntKind.i64 (r.snd.snd.snd.snd.fst i i_1)))
    (AV.cons (1 : Nat)
    (AV.vec true (1 : Nat) r.snd.snd.snd.snd.snd.fst r.snd.snd.snd.snd.snd.fst fun (i : Nat) =>
    AV.sc (Value.int IntKind.i64 (r.snd.snd.snd.snd.snd.snd i)))
    AV.nil))),
    AV.sc (Value.string (ByteArray.mk #[(97 : UInt8)])), AV.sc (Value.int IntKind.i64 (1 : Int))]
    []
    (AV.cons (1 : Nat)
    (AV.cons (1 : Nat) (AV.sc (Value.int IntKind.i64 r_3.fst))
    (AV.cons (1 : Nat) (AV.sc (Value.int IntKind.i64 r_3.snd.fst))
    (AV.cons (1 : Nat) (AV.sc (Value.int IntKind.i64 r_3.snd.snd.fst)) AV.nil)))
    (AV.cons (1 : Nat) (AV.sc (Value.int IntKind.i64 r_3.snd.snd.snd)) AV.nil)).tup
    [] ∧
    (cdec (r_1.fst = (4 : Int) ∧ r_1.snd.fst = (2 : Int) ∧ r_1.snd.snd.fst = (4 : Int) ∧ True) = true →
    ((r_1.snd.snd.snd == (0 : Int)) = true →
    (cdec (r_2.fst = (4 : Int) ∧ r_2.snd.fst = (1 : Int) ∧ r_2.snd.snd.fst = (3 : Int) ∧ True) = true →
    ((r_2.snd.snd.snd == (0 : Int)) = true → Sub (AV.sc (Value.bool (r_3.snd.snd.snd == (4 : Int)))) res) ∧
    ((r_2.snd.snd.snd == (0 : Int)) = !true → Sub (AV.sc (Value.bool false)) res)) ∧
    (cdec (r_2.fst = (4 : Int) ∧ r_2.snd.fst = (1 : Int) ∧ r_2.snd.snd.fst = (3 : Int) ∧ True) = !true →
    Sub (AV.sc (Value.bool false)) res)) ∧
    ((r_1.snd.snd.snd == (0 : Int)) = !true → Sub (AV.sc (Value.bool false)) res)) ∧
    (cdec (r_1.fst = (4 : Int) ∧ r_1.snd.fst = (2 : Int) ∧ r_1.snd.snd.fst = (4 : Int) ∧ True) = !true →
    Sub (AV.sc (Value.bool false)) res)) :
    L20_e  res :=
  rule Go.Am.Seat.tabOk 20 [] Go.Proofs.Try.f20 hf20 [] (s20_e ) (m20_e ) res [] 400
    (Orc.call [] []
  (fun (r61 : Int × (Nat → Int) × Nat × (Nat → Nat) × (Nat → Nat → Int) × Nat × (Nat → Int)) =>
    AV.cons (1 : Nat) (AV.sc (Value.int IntKind.i64 r61.fst))
    (AV.cons (256 : Nat) (AV.ar (256 : Nat) (1 : Nat) fun (i0 : Nat) => AV.sc (Value.int IntKind.u8 (r61.snd.fst i0)))
    (AV.cons (1 : Nat)
    (AV.vec false (1 : Nat) r61.snd.snd.fst r61.snd.snd.fst fun (i0 : Nat) =>
    AV.vec false (1 : Nat) (r61.snd.snd.snd.fst i0) (r61.snd.snd.snd.fst i0) fun (i1 : Nat) =>
    AV.sc (Value.int IntKind.i64 (r61.snd.snd.snd.snd.fst i0 i1)))
    (AV.cons (1 : Nat)
    (AV.vec false (1 : Nat) r61.snd.snd.snd.snd.snd.fst r61.snd.snd.snd.snd.snd.fst fun (i0 : Nat) =>
    AV.sc (Value.int IntKind.i64 (r61.snd.snd.snd.snd.snd.snd i0)))
    AV.nil))))
  (fun (r61 : Int × (Nat → Int) × Nat × (Nat → Nat) × (Nat → Nat → Int) × Nat × (Nat → Int)) => [])
  fun (r61 : Int × (Nat → Int) × Nat × (Nat → Nat) × (Nat → Nat → Int) × Nat × (Nat → Int)) =>
  Orc.call [] []
    (fun (r17 : Int × Int × Int × Int) =>
    (AV.cons (1 : Nat)
    (AV.cons (1 : Nat) (AV.sc (Value.int IntKind.i64 r17.fst))
    (AV.cons (1 : Nat) (AV.sc (Value.int IntKind.i64 r17.snd.fst)) (AV.cons (1 : Nat) (AV.sc (Value.int IntKind.i64 r17.snd.snd.fst)) AV.nil)))
    (AV.cons (1 : Nat) (AV.sc (Value.int IntKind.i64 r17.snd.snd.snd)) AV.nil)).tup)
    (fun (r17 : Int × Int × Int × Int) => []) fun (r17 : Int × Int × Int × Int) =>
    Orc.call [] []
    (fun (r61 : Int × (Nat → Int) × Nat × (Nat → Nat) × (Nat → Nat → Int) × Nat × (Nat → Int)) =>
    AV.cons (1 : Nat) (AV.sc (Value.int IntKind.i64 r61.fst))
    (AV.cons (256 : Nat) (AV.ar (256 : Nat) (1 : Nat) fun (i0 : Nat) => AV.sc (Value.int IntKind.u8 (r61.snd.fst i0)))
    (AV.cons (1 : Nat)
    (AV.vec false (1 : Nat) r61.snd.snd.fst r61.snd.snd.fst fun (i0 : Nat) =>
    AV.vec false (1 : Nat) (r61.snd.snd.snd.fst i0) (r61.snd.snd.snd.fst i0) fun (i1 : Nat) =>
    AV.sc (Value.int IntKind.i64 (r61.snd.snd.snd.snd.fst i0 i1)))
    (AV.cons (1 : Nat)
    (AV.vec false (1 : Nat) r61.snd.snd.snd.snd.snd.fst r61.snd.snd.snd.snd.snd.fst fun (i0 : Nat) =>
    AV.sc (Value.int IntKind.i64 (r61.snd.snd.snd.snd.snd.snd i0)))
    AV.nil))))
    (fun (r61 : Int × (Nat → Int) × Nat × (Nat → Nat) × (Nat → Nat → Int) × Nat × (Nat → Int)) => [])
    fun (r61 : Int × (Nat → Int) × Nat × (Nat → Nat) × (Nat → Nat → Int) × Nat × (Nat → Int)) =>
    Orc.call [] []
    (fun (r17 : Int × Int × Int × Int) =>
    (AV.cons (1 : Nat)
    (AV.cons (1 : Nat) (AV.sc (Value.int IntKind.i64 r17.fst))
    (AV.cons (1 : Nat) (AV.sc (Value.int IntKind.i64 r17.snd.fst)) (AV.cons (1 : Nat) (AV.sc (Value.int IntKind.i64 r17.snd.snd.fst)) AV.nil)))
    (AV.cons (1 : Nat) (AV.sc (Value.int IntKind.i64 r17.snd.snd.snd)) AV.nil)).tup)
    (fun (r17 : Int × Int × Int × Int) => []) fun (r17 : Int × Int × Int × Int) =>
    Orc.call [] []
    (fun (r61 : Int × (Nat → Int) × Nat × (Nat → Nat) × (Nat → Nat → Int) × Nat × (Nat → Int)) =>
    AV.cons (1 : Nat) (AV.sc (Value.int IntKind.i64 r61.fst))
    (AV.cons (256 : Nat) (AV.ar (256 : Nat) (1 : Nat) fun (i0 : Nat) => AV.sc (Value.int IntKind.u8 (r61.snd.fst i0)))
    (AV.cons (1 : Nat)
    (AV.vec false (1 : Nat) r61.snd.snd.fst r61.snd.snd.fst fun (i0 : Nat) =>
    AV.vec false (1 : Nat) (r61.snd.snd.snd.fst i0) (r61.snd.snd.snd.fst i0) fun (i1 : Nat) =>
    AV.sc (Value.int IntKind.i64 (r61.snd.snd.snd.snd.fst i0 i1)))
    (AV.cons (1 : Nat)
    (AV.vec false (1 : Nat) r61.snd.snd.snd.snd.snd.fst r61.snd.snd.snd.snd.snd.fst fun (i0 : Nat) =>
    AV.sc (Value.int IntKind.i64 (r61.snd.snd.snd.snd.snd.snd i0)))
    AV.nil))))
    (fun (r61 : Int × (Nat → Int) × Nat × (Nat → Nat) × (Nat → Nat → Int) × Nat × (Nat → Int)) => [])
    fun (r61 : Int × (Nat → Int) × Nat × (Nat → Nat) × (Nat → Nat → Int) × Nat × (Nat → Int)) =>
    Orc.call [] []
    (fun (r17 : Int × Int × Int × Int) =>
    (AV.cons (1 : Nat)
    (AV.cons (1 : Nat) (AV.sc (Value.int IntKind.i64 r17.fst))
    (AV.cons (1 : Nat) (AV.sc (Value.int IntKind.i64 r17.snd.fst)) (AV.cons (1 : Nat) (AV.sc (Value.int IntKind.i64 r17.snd.snd.fst)) AV.nil)))
    (AV.cons (1 : Nat) (AV.sc (Value.int IntKind.i64 r17.snd.snd.snd)) AV.nil)).tup)
    (fun (r17 : Int × Int × Int × Int) => []) fun (r17 : Int × Int × Int × Int) =>
    ((((Orc.fin (AV.sc (Value.bool (bif true then r17.snd.snd.snd == (4 : Int) else false))) [] []).yes.br
    (Orc.fin (AV.sc (Value.bool false)) [] []).no).yes.br
    (Orc.fin (AV.sc (Value.bool false)) [] []).no.no.no).yes.yes.br
    (Orc.fin (AV.sc (Value.bool false)) [] []).no.no.no.no.no.no).yes.br
    (Orc.fin (AV.sc (Value.bool false)) [] []).no.no.no.no.no.no.no.no) _ _ (by kernel_rfl) (by kernel_rfl) (show True ∧
  ∃ (r : Int × (Nat → Int) × Nat × (Nat → Nat) × (Nat → Nat → Int) × Nat × (Nat → Int)),
    (True ∧
    True ∧
    Ok Proofs.Try.prog (61 : Nat) [] []
    (AV.cons (1 : Nat) (AV.sc (Value.int IntKind.i64 r.fst))
    (AV.cons (256 : Nat) (AV.ar (256 : Nat) (1 : Nat) fun (i0 : Nat) => AV.sc (Value.int IntKind.u8 (r.snd.fst i0)))
    (AV.cons (1 : Nat)
    (AV.vec false (1 : Nat) r.snd.snd.fst r.snd.snd.fst fun (i0 : Nat) =>
    AV.vec false (1 : Nat) (r.snd.snd.snd.fst i0) (r.snd.snd.snd.fst i0) fun (i1 : Nat) =>
    AV.sc (Value.int IntKind.i64 (r.snd.snd.snd.snd.fst i0 i1)))
    (AV.cons (1 : Nat)
    (AV.vec false (1 : Nat) r.snd.snd.snd.snd.snd.fst r.snd.snd.snd.snd.snd.fst fun (i0 : Nat) =>
    AV.sc (Value.int IntKind.i64 (r.snd.snd.snd.snd.snd.snd i0)))
    AV.nil))))
    []) ∧
    ∃ (r_1 : Int × Int × Int × Int),
    (((True ∧ True ∧ True ∧ True ∧ True) ∧ True ∧ True ∧ True) ∧
    True ∧
    Ok Proofs.Try.prog (17 : Nat)
    [AV.cons (1 : Nat) (AV.sc (Value.int IntKind.i64 r.fst))
    (AV.cons (256 : Nat) (AV.ar (256 : Nat) (1 : Nat) fun (i : Nat) => AV.sc (Value.int IntKind.u8 (r.snd.fst i)))
    (AV.cons (1 : Nat)
    (AV.vec true (1 : Nat) r.snd.snd.fst r.snd.snd.fst fun (i : Nat) =>
    AV.vec true (1 : Nat) (r.snd.snd.snd.fst i) (r.snd.snd.snd.fst i) fun (i_1 : Nat) =>
    AV.sc (Value.int IntKind.i64 (r.snd.snd.snd.snd.fst i i_1)))
    (AV.cons (1 : Nat)
    (AV.vec true (1 : Nat) r.snd.snd.snd.snd.snd.fst r.snd.snd.snd.snd.snd.fst fun (i : Nat) =>
    AV.sc (Value.int IntKind.i64 (r.snd.snd.snd.snd.snd.snd i)))
    AV.nil))),
    AV.sc (Value.string (ByteArray.mk #[(97 : UInt8), (97 : UInt8), (98 : UInt8), (99 : UInt8)])), AV.sc (Value.int IntKind.i64 (0 : Int))]
    []
    (AV.cons (1 : Nat)
    (AV.cons (1 : Nat) (AV.sc (Value.int IntKind.i64 r_1.fst))
    (AV.cons (1 : Nat) (AV.sc (Value.int IntKind.i64 r_1.snd.fst))
    (AV.cons (1 : Nat) (AV.sc (Value.int IntKind.i64 r_1.snd.snd.fst)) AV.nil)))
    (AV.cons (1 : Nat) (AV.sc (Value.int IntKind.i64 r_1.snd.snd.snd)) AV.nil)).tup
    []) ∧
    True ∧
    True ∧
    True ∧
    True ∧
    ((0 : Nat) = (0 : Nat) ∧ True) ∧
    True ∧
    ∃ (r : Int × (Nat → Int) × Nat × (Nat → Nat) × (Nat → Nat → Int) × Nat × (Nat → Int)),
    (True ∧
    True ∧
    Ok Proofs.Try.prog (61 : Nat) [] []
    (AV.cons (1 : Nat) (AV.sc (Value.int IntKind.i64 r.fst))
    (AV.cons (256 : Nat) (AV.ar (256 : Nat) (1 : Nat) fun (i0 : Nat) => AV.sc (Value.int IntKind.u8 (r.snd.fst i0)))
    (AV.cons (1 : Nat)
    (AV.vec false (1 : Nat) r.snd.snd.fst r.snd.snd.fst fun (i0 : Nat) =>
    AV.vec false (1 : Nat) (r.snd.snd.snd.fst i0) (r.snd.snd.snd.fst i0) fun (i1 : Nat) =>
    AV.sc (Value.int IntKind.i64 (r.snd.snd.snd.snd.fst i0 i1)))
    (AV.cons (1 : Nat)
    (AV.vec false (1 : Nat) r.snd.snd.snd.snd.snd.fst r.snd.snd.snd.snd.snd.fst fun (i0 : Nat) =>
    AV.sc (Value.int IntKind.i64 (r.snd.snd.snd.snd.snd.snd i0)))
    AV.nil))))
    []) ∧
    ∃ (r_2 : Int × Int × Int × Int),
    (((True ∧ True ∧ True ∧ True ∧ True) ∧ True ∧ True ∧ True) ∧
    True ∧
    Ok Proofs.Try.prog (17 : Nat)
    [AV.cons (1 : Nat) (AV.sc (Value.int IntKind.i64 r.fst))
    (AV.cons (256 : Nat) (AV.ar (256 : Nat) (1 : Nat) fun (i : Nat) => AV.sc (Value.int IntKind.u8 (r.snd.fst i)))
    (AV.cons (1 : Nat)
    (AV.vec true (1 : Nat) r.snd.snd.fst r.snd.snd.fst fun (i : Nat) =>
    AV.vec true (1 : Nat) (r.snd.snd.snd.fst i) (r.snd.snd.snd.fst i) fun (i_1 : Nat) =>
    AV.sc (Value.int IntKind.i64 (r.snd.snd.snd.snd.fst i i_1)))
    (AV.cons (1 : Nat)
    (AV.vec true (1 : Nat) r.snd.snd.snd.snd.snd.fst r.snd.snd.snd.snd.snd.fst fun (i : Nat) =>
    AV.sc (Value.int IntKind.i64 (r.snd.snd.snd.snd.snd.snd i)))
    AV.nil))),
    AV.sc (Value.string (ByteArray.mk #[(120 : UInt8), (97 : UInt8), (98 : UInt8)])), AV.sc (Value.int IntKind.i64 (1 : Int))]
    []
    (AV.cons (1 : Nat)
    (AV.cons (1 : Nat) (AV.sc (Value.int IntKind.i64 r_2.fst))
    (AV.cons (1 : Nat) (AV.sc (Value.int IntKind.i64 r_2.snd.fst))
    (AV.cons (1 : Nat) (AV.sc (Value.int IntKind.i64 r_2.snd.snd.fst)) AV.nil)))
    (AV.cons (1 : Nat) (AV.sc (Value.int IntKind.i64 r_2.snd.snd.snd)) AV.nil)).tup
    []) ∧
    True ∧
    True ∧
    True ∧
    True ∧
    ((0 : Nat) = (0 : Nat) ∧ True) ∧
    True ∧
    ∃ (r : Int × (Nat → Int) × Nat × (Nat → Nat) × (Nat → Nat → Int) × Nat × (Nat → Int)),
    (True ∧
    True ∧
    Ok Proofs.Try.prog (61 : Nat) [] []
    (AV.cons (1 : Nat) (AV.sc (Value.int IntKind.i64 r.fst))
    (AV.cons (256 : Nat)
    (AV.ar (256 : Nat) (1 : Nat) fun (i0 : Nat) => AV.sc (Value.int IntKind.u8 (r.snd.fst i0)))
    (AV.cons (1 : Nat)
    (AV.vec false (1 : Nat) r.snd.snd.fst r.snd.snd.fst fun (i0 : Nat) =>
    AV.vec false (1 : Nat) (r.snd.snd.snd.fst i0) (r.snd.snd.snd.fst i0) fun (i1 : Nat) =>
    AV.sc (Value.int IntKind.i64 (r.snd.snd.snd.snd.fst i0 i1)))
    (AV.cons (1 : Nat)
    (AV.vec false (1 : Nat) r.snd.snd.snd.snd.snd.fst r.snd.snd.snd.snd.snd.fst fun (i0 : Nat) =>
    AV.sc (Value.int IntKind.i64 (r.snd.snd.snd.snd.snd.snd i0)))
    AV.nil))))
    []) ∧
    ∃ (r_3 : Int × Int × Int × Int),
    (((True ∧ True ∧ True ∧ True ∧ True) ∧ True ∧ True ∧ True) ∧
    True ∧
    Ok Proofs.Try.prog (17 : Nat)
    [AV.cons (1 : Nat) (AV.sc (Value.int IntKind.i64 r.fst))
    (AV.cons (256 : Nat)
    (AV.ar (256 : Nat) (1 : Nat) fun (i : Nat) => AV.sc (Value.int IntKind.u8 (r.snd.fst i)))
    (AV.cons (1 : Nat)
    (AV.vec true (1 : Nat) r.snd.snd.fst r.snd.snd.fst fun (i : Nat) =>
    AV.vec true (1 : Nat) (r.snd.snd.snd.fst i) (r.snd.snd.snd.fst i) fun (i_1 : Nat) =>
    AV.sc (Value.int IntKind.i64 (r.snd.snd.snd.snd.fst i i_1)))
    (AV.cons (1 : Nat)
    (AV.vec true (1 : Nat) r.snd.snd.snd.snd.snd.fst r.snd.snd.snd.snd.snd.fst fun (i : Nat) =>
    AV.sc (Value.int IntKind.i64 (r.snd.snd.snd.snd.snd.snd i)))
    AV.nil))),
    AV.sc (Value.string (ByteArray.mk #[(97 : UInt8)])), AV.sc (Value.int IntKind.i64 (1 : Int))]
    []
    (AV.cons (1 : Nat)
    (AV.cons (1 : Nat) (AV.sc (Value.int IntKind.i64 r_3.fst))
    (AV.cons (1 : Nat) (AV.sc (Value.int IntKind.i64 r_3.snd.fst))
    (AV.cons (1 : Nat) (AV.sc (Value.int IntKind.i64 r_3.snd.snd.fst)) AV.nil)))
    (AV.cons (1 : Nat) (AV.sc (Value.int IntKind.i64 r_3.snd.snd.snd)) AV.nil)).tup
    []) ∧
    True ∧
    True ∧
    True ∧
    True ∧
    ((0 : Nat) = (0 : Nat) ∧ True) ∧
    True ∧
    ((0 : Nat) = (0 : Nat) ∧ True) ∧
    True ∧
    ((True ∧ True) ∧ True ∧ (True ∧ True) ∧ True ∧ (True ∧ True) ∧ True ∧ True) ∧
    True ∧
    (cdec
    (r_1.fst = (4 : Int) ∧
    r_1.snd.fst = (2 : Int) ∧ r_1.snd.snd.fst = (4 : Int) ∧ True) =
    true →
    True ∧
    true = true ∧
    True ∧
    True ∧
    True ∧
    ((r_1.snd.snd.snd == (0 : Int)) = true →
    ((0 : Nat) = (0 : Nat) ∧ True) ∧
    true = true ∧
    True ∧
    true = true ∧
    ((True ∧ True) ∧
    True ∧ (True ∧ True) ∧ True ∧ (True ∧ True) ∧ True ∧ True) ∧
    True ∧
    True ∧
    (cdec
    (r_2.fst = (4 : Int) ∧
    r_2.snd.fst = (1 : Int) ∧
    r_2.snd.snd.fst = (3 : Int) ∧ True) =
    true →
    True ∧
    true = true ∧
    True ∧
    True ∧
    True ∧
    ((r_2.snd.snd.snd == (0 : Int)) = true →
    True ∧
    true = true ∧
    True ∧
    True ∧
    True ∧
    True ∧
    ((True ∧
    Sub
    (AV.sc
    (Value.bool
    (r_3.snd.snd.snd ==
    (4 : Int))))
    (AV.sc
    (Value.bool
    (r_3.snd.snd.snd ==
    (4 :
    Int)))) ∧
    True) ∧
    True) ∧
    Sub
    (AV.sc
    (Value.bool
    (r_3.snd.snd.snd ==
    (4 : Int))))
    res ∧
    SubOut [] []) ∧
    ((r_2.snd.snd.snd == (0 : Int)) = !true →
    true = true ∧
    (!true) = !true ∧
    true = true ∧
    True ∧
    True ∧
    True ∧
    ((True ∧
    Sub
    (AV.sc
    (Value.bool
    false))
    (AV.sc
    (Value.bool
    false)) ∧
    True) ∧
    True) ∧
    Sub
    (AV.sc
    (Value.bool false))
    res ∧
    SubOut [] [])) ∧
    (cdec
    (r_2.fst = (4 : Int) ∧
    r_2.snd.fst = (1 : Int) ∧
    r_2.snd.snd.fst = (3 : Int) ∧ True) =
    !true →
    true = true ∧
    (!true) = !true ∧
    true = true ∧
    True ∧
    True ∧
    false = !true ∧
    true = true ∧
    (!true) = !true ∧
    true = true ∧
    True ∧
    True ∧
    True ∧
    ((True ∧
    Sub
    (AV.sc
    (Value.bool
    false))
    (AV.sc
    (Value.bool
    false)) ∧
    True) ∧
    True) ∧
    Sub
    (AV.sc
    (Value.bool false))
    res ∧
    SubOut [] [])) ∧
    ((r_1.snd.snd.snd == (0 : Int)) = !true →
    true = true ∧
    (!true) = !true ∧
    true = true ∧
    (!true) = !true ∧
    true = true ∧
    True ∧
    True ∧
    false = !true ∧
    true = true ∧
    (!true) = !true ∧
    true = true ∧
    True ∧
    True ∧
    false = !true ∧
    true = true ∧
    (!true) = !true ∧
    true = true ∧
    True ∧
    True ∧
    True ∧
    ((True ∧
    Sub
    (AV.sc
    (Value.bool false))
    (AV.sc
    (Value.bool
    false)) ∧
    True) ∧
    True) ∧
    Sub (AV.sc (Value.bool false))
    res ∧
    SubOut [] [])) ∧
    (cdec
    (r_1.fst = (4 : Int) ∧
    r_1.snd.fst = (2 : Int) ∧ r_1.snd.snd.fst = (4 : Int) ∧ True) =
    !true →
    true = true ∧
    (!true) = !true ∧
    true = true ∧
    True ∧
    True ∧
    false = !true ∧
    true = true ∧
    (!true) = !true ∧
    true = true ∧
    (!true) = !true ∧
    true = true ∧
    True ∧
    True ∧
    false = !true ∧
    true = true ∧
    (!true) = !true ∧
    true = true ∧
    True ∧
    True ∧
    false = !true ∧
    true = true ∧
    (!true) = !true ∧
    true = true ∧
    True ∧
    True ∧
    True ∧
    ((True ∧
    Sub
    (AV.sc
    (Value.bool false))
    (AV.sc
    (Value.bool false)) ∧
    True) ∧
    True) ∧
    Sub (AV.sc (Value.bool false))
    res ∧
    SubOut [] []) from
    ⟨trivial, (Exists.elim h fun x1 h1 => ⟨x1, (And.elim (fun h2 k2 => ⟨⟨trivial, ⟨trivial, h2⟩⟩, (Exists.elim k2 fun x3 h3 => ⟨x3, (And.elim (fun h4 k4 => ⟨⟨⟨⟨trivial, ⟨trivial, ⟨trivial, ⟨trivial, trivial⟩⟩⟩⟩, ⟨trivial, ⟨trivial, trivial⟩⟩⟩, ⟨trivial, h4⟩⟩, ⟨trivial, ⟨trivial, ⟨trivial, ⟨trivial, ⟨⟨rfl, trivial⟩, ⟨trivial, (Exists.elim k4 fun x11 h11 => ⟨x11, (And.elim (fun h12 k12 => ⟨⟨trivial, ⟨trivial, h12⟩⟩, (Exists.elim k12 fun x13 h13 => ⟨x13, (And.elim (fun h14 k14 => ⟨⟨⟨⟨trivial, ⟨trivial, ⟨trivial, ⟨trivial, trivial⟩⟩⟩⟩, ⟨trivial, ⟨trivial, trivial⟩⟩⟩, ⟨trivial, h14⟩⟩, ⟨trivial, ⟨trivial, ⟨trivial, ⟨trivial, ⟨⟨rfl, trivial⟩, ⟨trivial, (Exists.elim k14 fun x21 h21 => ⟨x21, (And.elim (fun h22 k22 => ⟨⟨trivial, ⟨trivial, h22⟩⟩, (Exists.elim k22 fun x23 h23 => ⟨x23, (And.elim (fun h24 k24 => ⟨⟨⟨⟨trivial, ⟨trivial, ⟨trivial, ⟨trivial, trivial⟩⟩⟩⟩, ⟨trivial, ⟨trivial, trivial⟩⟩⟩, ⟨trivial, h24⟩⟩, ⟨trivial, ⟨trivial, ⟨trivial, ⟨trivial, ⟨⟨rfl, trivial⟩, ⟨trivial, ⟨⟨rfl, trivial⟩, ⟨trivial, ⟨⟨⟨trivial, trivial⟩, ⟨trivial, ⟨⟨trivial, trivial⟩, ⟨trivial, ⟨⟨trivial, trivial⟩, ⟨trivial, trivial⟩⟩⟩⟩⟩⟩, ⟨trivial, (And.elim (fun h35 k35 => ⟨(fun x36 => (fun h36 => ⟨trivial, ⟨rfl, ⟨trivial, ⟨trivial, ⟨trivial, (And.elim (fun h42 k42 => ⟨(fun x43 => (fun h43 => ⟨⟨rfl, trivial⟩, ⟨rfl, ⟨trivial, ⟨rfl, ⟨⟨⟨trivial, trivial⟩, ⟨trivial, ⟨⟨trivial, trivial⟩, ⟨trivial, ⟨⟨trivial, trivial⟩, ⟨trivial, trivial⟩⟩⟩⟩⟩⟩, ⟨trivial, ⟨trivial, (And.elim (fun h51 k51 => ⟨(fun x52 => (fun h52 => ⟨trivial, ⟨rfl, ⟨trivial, ⟨trivial, ⟨trivial, (And.elim (fun h58 k58 => ⟨(fun x59 => (fun h59 => ⟨trivial, ⟨rfl, ⟨trivial, ⟨trivial, ⟨trivial, ⟨trivial, ⟨⟨⟨trivial, ⟨Sub.refl _, trivial⟩⟩, trivial⟩, ((fun h67 => ⟨h67, trivial⟩) h59)⟩⟩⟩⟩⟩⟩⟩) (h58 x59)), (fun x59 => (fun h59 => ⟨rfl, ⟨rfl, ⟨rfl, ⟨trivial, ⟨trivial, ⟨trivial, ⟨⟨⟨trivial, ⟨Sub.refl _, trivial⟩⟩, trivial⟩, ((fun h67 => ⟨h67, trivial⟩) h59)⟩⟩⟩⟩⟩⟩⟩) (k58 x59))⟩) h52)⟩⟩⟩⟩⟩) (h51 x52)), (fun x52 => (fun h52 => ⟨rfl, ⟨rfl, ⟨rfl, ⟨trivial, ⟨trivial, ⟨rfl, ⟨rfl, ⟨rfl, ⟨rfl, ⟨trivial, ⟨trivial, ⟨trivial, ⟨⟨⟨trivial, ⟨Sub.refl _, trivial⟩⟩, trivial⟩, ((fun h66 => ⟨h66, trivial⟩) h52)⟩⟩⟩⟩⟩⟩⟩⟩⟩⟩⟩⟩⟩) (k51 x52))⟩) h43)⟩⟩⟩⟩⟩⟩⟩) (h42 x43)), (fun x43 => (fun h43 => ⟨rfl, ⟨rfl, ⟨rfl, ⟨rfl, ⟨rfl, ⟨trivial, ⟨trivial, ⟨rfl, ⟨rfl, ⟨rfl, ⟨rfl, ⟨trivial, ⟨trivial, ⟨rfl, ⟨rfl, ⟨rfl, ⟨rfl, ⟨trivial, ⟨trivial, ⟨trivial, ⟨⟨⟨trivial, ⟨Sub.refl _, trivial⟩⟩, trivial⟩, ((fun h65 => ⟨h65, trivial⟩) h43)⟩⟩⟩⟩⟩⟩⟩⟩⟩⟩⟩⟩⟩⟩⟩⟩⟩⟩⟩⟩⟩) (k42 x43))⟩) h36)⟩⟩⟩⟩⟩) (h35 x36)), (fun x36 => (fun h36 => ⟨rfl, ⟨rfl, ⟨rfl, ⟨trivial, ⟨trivial, ⟨rfl, ⟨rfl, ⟨rfl, ⟨rfl, ⟨rfl, ⟨rfl, ⟨trivial, ⟨trivial, ⟨rfl, ⟨rfl, ⟨rfl, ⟨rfl, ⟨trivial, ⟨trivial, ⟨rfl, ⟨rfl, ⟨rfl, ⟨rfl, ⟨trivial, ⟨trivial, ⟨trivial, ⟨⟨⟨trivial, ⟨Sub.refl _, trivial⟩⟩, trivial⟩, ((fun h64 => ⟨h64, trivial⟩) h36)⟩⟩⟩⟩⟩⟩⟩⟩⟩⟩⟩⟩⟩⟩⟩⟩⟩⟩⟩⟩⟩⟩⟩⟩⟩⟩⟩) (k35 x36))⟩) k24)⟩⟩⟩⟩⟩⟩⟩⟩⟩⟩⟩) h23)⟩)⟩) h21)⟩)⟩⟩⟩⟩⟩⟩⟩) h13)⟩)⟩) h11)⟩)⟩⟩⟩⟩⟩⟩⟩) h3)⟩)⟩) h1)⟩)⟩)
end Go.Am.Seat
