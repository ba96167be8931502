/- The rules of 10 functions: from what is owed at each place of a function the function goes on as it is told there. Printed by a program of this seat; Lean checks each. -/
import Derived.Test.YtclpcgjnodpbcaaAmZ2
import Derived.Test.YtclpcgjnodpbcaaTab
open Go Go.Am Go.Am.Seat
namespace Go.Am.Seat
set_option linter.unusedVariables false
set_option maxRecDepth 100000
theorem hf4 : Go.Proofs.Try.prog.funcs[4]? = some Go.Proofs.Try.f4 := by kernel_rfl
abbrev s4_e (sf : Nat → Int) (text : ByteArray) : List (Nat × AV) := [(0, (.ar 4 1 (fun i0 => (.sc (.int .u64 (sf i0)))))), (1, (.sc (.string text)))]
abbrev m4_e (sf : Nat → Int) (text : ByteArray) : List (Nat × Nat × AV) := []
def L4_e (sf : Nat → Int) (text : ByteArray) (res : AV) : Prop := Goes ⟨Go.Proofs.Try.prog, 4, [], res, []⟩ (place Go.Proofs.Try.f4 []) (s4_e sf text) (m4_e sf text)
theorem a4_e (sf : Nat → Int) (text : ByteArray) (res : AV) (h : (∀ slot, fact (look .undef (s4_e sf text) slot)) → L4_e sf text res) : L4_e sf text res :=
  assumeRule 4 [] Go.Proofs.Try.f4 hf4 [] (s4_e sf text) (m4_e sf text) res [] _ (by kernel_rfl) h
theorem o4 (sf : Nat → Int) (text : ByteArray) (res : AV) (hnew : newOnly res) (h : L4_e sf text res) : Ok Go.Proofs.Try.prog 4 [(.ar 4 1 (fun i0 => (.sc (.int .u64 (sf i0))))), (.sc (.string text))] [] res [] :=
  okRule2 4 Go.Proofs.Try.f4 hf4 [(.ar 4 1 (fun i0 => (.sc (.int .u64 (sf i0))))), (.sc (.string text))] [] res [] [] rfl (by kernel_rfl) (by kernel_rfl) (by kernel_rfl) ⟨hnew, by simp⟩ (L4_e sf text res) (by kernel_rfl) h
theorem r4_e (sf : Nat → Int) (text : ByteArray) (res : AV)
    (h : ∃ (r : ByteArray),
  Ok Proofs.Try.prog (13 : Nat) [AV.ar (4 : Nat) (1 : Nat) fun (i : Nat) => AV.sc (Value.int IntKind.u64 (sf i))] [] (AV.sc (Value.string r)) [] ∧
    ∃ (r_1 : (Nat → Int) × Int),
    Ok Proofs.Try.prog (10 : Nat) [AV.sc (Value.string r)] []
    (AV.cons (1 : Nat) (AV.ar (4 : Nat) (1 : Nat) fun (i0 : Nat) => AV.sc (Value.int IntKind.u64 (r_1.fst i0)))
    (AV.cons (1 : Nat) (AV.sc (Value.int IntKind.i64 r_1.snd)) AV.nil)).tup
    [] ∧
    ((r_1.snd != (0 : Int)) = false →
    (∀ (i : Nat), i < (4 : Nat) → (AV.sc (Value.int IntKind.u64 (r_1.fst i))).sz = (1 : Nat) ∧ (AV.sc (Value.int IntKind.u64 (sf i))).sz = (1 : Nat)) ∧
    ((!cdec (∀ (i : Nat), i < (4 : Nat) → r_1.fst i = sf i)) = true → Sub (AV.sc (Value.bool false)) res) ∧
    ((!cdec (∀ (i : Nat), i < (4 : Nat) → r_1.fst i = sf i)) = false →
    ∃ (r : (Nat → Int) × Int),
    Ok Proofs.Try.prog (10 : Nat) [AV.sc (Value.string text)] []
    (AV.cons (1 : Nat) (AV.ar (4 : Nat) (1 : Nat) fun (i0 : Nat) => AV.sc (Value.int IntKind.u64 (r.fst i0)))
    (AV.cons (1 : Nat) (AV.sc (Value.int IntKind.i64 r.snd)) AV.nil)).tup
    [] ∧
    ((r.snd != (0 : Int)) = true →
    (∀ (i : Nat),
    i < (4 : Nat) →
    (AV.sc (Value.int IntKind.u64 (r.fst i))).sz = (1 : Nat) ∧ (AV.sc (Value.int IntKind.u64 (0 : Int))).sz = (1 : Nat)) ∧
    (cdec (∀ (i : Nat), i < (4 : Nat) → r.fst i = (0 : Int)) = true →
    ∃ (r : Bool), Ok Proofs.Try.prog (12 : Nat) [] [] (AV.sc (Value.bool r)) [] ∧ Sub (AV.sc (Value.bool r)) res) ∧
    (cdec (∀ (i : Nat), i < (4 : Nat) → r.fst i = (0 : Int)) = !true → Sub (AV.sc (Value.bool false)) res)) ∧
    ((r.snd != (0 : Int)) = false →
    ∃ (r_2 : ByteArray),
    Ok Proofs.Try.prog (13 : Nat) [AV.ar (4 : Nat) (1 : Nat) fun (i : Nat) => AV.sc (Value.int IntKind.u64 (r.fst i))] []
    (AV.sc (Value.string r_2)) [] ∧
    ∃ (r_3 : (Nat → Int) × Int),
    Ok Proofs.Try.prog (10 : Nat) [AV.sc (Value.string r_2)] []
    (AV.cons (1 : Nat) (AV.ar (4 : Nat) (1 : Nat) fun (i0 : Nat) => AV.sc (Value.int IntKind.u64 (r_3.fst i0)))
    (AV.cons (1 : Nat) (AV.sc (Value.int IntKind.i64 r_3.snd)) AV.nil)).tup
    [] ∧
    (decide ((↑r_2.size : Int) ≤ (512 : Int)) = true →
    ((r_3.snd == (0 : Int)) = true →
    (∀ (i : Nat),
    i < (4 : Nat) →
    (AV.sc (Value.int IntKind.u64 (r_3.fst i))).sz = (1 : Nat) ∧
    (AV.sc (Value.int IntKind.u64 (r.fst i))).sz = (1 : Nat)) ∧
    (cdec (∀ (i : Nat), i < (4 : Nat) → r_3.fst i = r.fst i) = true →
    ∃ (r : Bool), Ok Proofs.Try.prog (12 : Nat) [] [] (AV.sc (Value.bool r)) [] ∧ Sub (AV.sc (Value.bool r)) res) ∧
    (cdec (∀ (i : Nat), i < (4 : Nat) → r_3.fst i = r.fst i) = !true → Sub (AV.sc (Value.bool false)) res)) ∧
    ((r_3.snd == (0 : Int)) = !true → Sub (AV.sc (Value.bool false)) res)) ∧
    (decide ((↑r_2.size : Int) ≤ (512 : Int)) = !true → Sub (AV.sc (Value.bool false)) res)))) ∧
    ((r_1.snd != (0 : Int)) = !false → Sub (AV.sc (Value.bool false)) res)) :
    L4_e sf text res :=
  rule Go.Am.Seat.tabOk 4 [] Go.Proofs.Try.f4 hf4 [] (s4_e sf text) (m4_e sf text) res [] 400
    (Orc.call [] [] (fun (r13 : ByteArray) => AV.sc (Value.string r13)) (fun (r13 : ByteArray) => []) fun (r13 : ByteArray) =>
  Orc.call [] []
    (fun (r10 : (Nat → Int) × Int) =>
    (AV.cons (1 : Nat) (AV.ar (4 : Nat) (1 : Nat) fun (i0 : Nat) => AV.sc (Value.int IntKind.u64 (r10.fst i0)))
    (AV.cons (1 : Nat) (AV.sc (Value.int IntKind.i64 r10.snd)) AV.nil)).tup)
    (fun (r10 : (Nat → Int) × Int) => []) fun (r10 : (Nat → Int) × Int) =>
    ((Orc.fin (AV.sc (Value.bool false)) [] []).br
    (Orc.call [] []
    (fun (r10 : (Nat → Int) × Int) =>
    (AV.cons (1 : Nat) (AV.ar (4 : Nat) (1 : Nat) fun (i0 : Nat) => AV.sc (Value.int IntKind.u64 (r10.fst i0)))
    (AV.cons (1 : Nat) (AV.sc (Value.int IntKind.i64 r10.snd)) AV.nil)).tup)
    (fun (r10 : (Nat → Int) × Int) => []) fun (r10 : (Nat → Int) × Int) =>
    ((Orc.call [] [] (fun (r12 : Bool) => AV.sc (Value.bool r12)) (fun (r12 : Bool) => []) fun (r12 : Bool) =>
    Orc.fin (AV.sc (Value.bool (bif true then r12 else false))) [] []).br
    (Orc.fin (AV.sc (Value.bool false)) [] [])).br
    (Orc.call [] [] (fun (r13 : ByteArray) => AV.sc (Value.string r13)) (fun (r13 : ByteArray) => []) fun (r13 : ByteArray) =>
    Orc.call [] []
    (fun (r10 : (Nat → Int) × Int) =>
    (AV.cons (1 : Nat) (AV.ar (4 : Nat) (1 : Nat) fun (i0 : Nat) => AV.sc (Value.int IntKind.u64 (r10.fst i0)))
    (AV.cons (1 : Nat) (AV.sc (Value.int IntKind.i64 r10.snd)) AV.nil)).tup)
    (fun (r10 : (Nat → Int) × Int) => []) fun (r10 : (Nat → Int) × Int) =>
    (((Orc.call [] [] (fun (r12 : Bool) => AV.sc (Value.bool r12)) (fun (r12 : Bool) => []) fun (r12 : Bool) =>
    Orc.fin (AV.sc (Value.bool (bif true then r12 else false))) [] []).br
    (Orc.fin (AV.sc (Value.bool false)) [] [])).yes.yes.br
    (Orc.fin (AV.sc (Value.bool false)) [] []).no.no.no).yes.br
    (Orc.fin (AV.sc (Value.bool false)) [] []).no.no.no.no.no))).yes.yes.br
    (Orc.fin (AV.sc (Value.bool false)) [] []).yes.no.no) _ _ (by kernel_rfl) (by kernel_rfl) (show True ∧
  True ∧
    ((0 : Nat) = (0 : Nat) ∧ True) ∧
    ∃ (r : ByteArray),
    ((True ∧ True) ∧
    True ∧
    Ok Proofs.Try.prog (13 : Nat) [AV.ar (4 : Nat) (1 : Nat) fun (i : Nat) => AV.sc (Value.int IntKind.u64 (sf i))] [] (AV.sc (Value.string r)) []) ∧
    ∃ (r_1 : (Nat → Int) × Int),
    ((True ∧ True) ∧
    True ∧
    Ok Proofs.Try.prog (10 : Nat) [AV.sc (Value.string r)] []
    (AV.cons (1 : Nat) (AV.ar (4 : Nat) (1 : Nat) fun (i0 : Nat) => AV.sc (Value.int IntKind.u64 (r_1.fst i0)))
    (AV.cons (1 : Nat) (AV.sc (Value.int IntKind.i64 r_1.snd)) AV.nil)).tup
    []) ∧
    True ∧
    True ∧
    True ∧
    True ∧
    ((0 : Nat) = (0 : Nat) ∧ True) ∧
    True ∧
    True ∧
    True ∧
    True ∧
    ((r_1.snd != (0 : Int)) = false →
    ((0 : Nat) = (0 : Nat) ∧ True) ∧
    false = false ∧
    ((0 : Nat) = (0 : Nat) ∧ True) ∧
    false = false ∧
    (∀ (i : Nat),
    i < (4 : Nat) →
    (AV.sc (Value.int IntKind.u64 (r_1.fst i))).sz = (1 : Nat) ∧
    (AV.sc (Value.int IntKind.u64 (sf i))).sz = (1 : Nat) ∧ false = false ∧ false = false ∧ True) ∧
    True ∧
    ((!cdec (∀ (i : Nat), i < (4 : Nat) → r_1.fst i = sf i)) = true →
    True ∧
    True ∧
    ((True ∧ Sub (AV.sc (Value.bool false)) (AV.sc (Value.bool false)) ∧ True) ∧ True) ∧
    Sub (AV.sc (Value.bool false)) res ∧ SubOut [] []) ∧
    ((!cdec (∀ (i : Nat), i < (4 : Nat) → r_1.fst i = sf i)) = false →
    True ∧
    ∃ (r : (Nat → Int) × Int),
    ((True ∧ True) ∧
    True ∧
    Ok Proofs.Try.prog (10 : Nat) [AV.sc (Value.string text)] []
    (AV.cons (1 : Nat)
    (AV.ar (4 : Nat) (1 : Nat) fun (i0 : Nat) => AV.sc (Value.int IntKind.u64 (r.fst i0)))
    (AV.cons (1 : Nat) (AV.sc (Value.int IntKind.i64 r.snd)) AV.nil)).tup
    []) ∧
    True ∧
    True ∧
    True ∧
    True ∧
    ((0 : Nat) = (0 : Nat) ∧ True) ∧
    True ∧
    True ∧
    True ∧
    ((r.snd != (0 : Int)) = true →
    ((0 : Nat) = (0 : Nat) ∧ True) ∧
    True ∧
    (∀ (i : Nat),
    i < (4 : Nat) →
    (AV.sc (Value.int IntKind.u64 (r.fst i))).sz = (1 : Nat) ∧
    (AV.sc (Value.int IntKind.u64 (0 : Int))).sz = (1 : Nat) ∧
    false = false ∧ false = false ∧ True) ∧
    True ∧
    (cdec (∀ (i : Nat), i < (4 : Nat) → r.fst i = (0 : Int)) = true →
    ∃ (r : Bool),
    (True ∧
    True ∧
    Ok Proofs.Try.prog (12 : Nat) [] [] (AV.sc (Value.bool r))
    []) ∧
    True ∧
    True ∧
    True ∧
    ((True ∧
    Sub (AV.sc (Value.bool r)) (AV.sc (Value.bool r)) ∧
    True) ∧
    True) ∧
    Sub (AV.sc (Value.bool r)) res ∧ SubOut [] []) ∧
    (cdec (∀ (i : Nat), i < (4 : Nat) → r.fst i = (0 : Int)) = !true →
    true = true ∧
    True ∧
    True ∧
    True ∧
    ((True ∧
    Sub (AV.sc (Value.bool false))
    (AV.sc (Value.bool false)) ∧
    True) ∧
    True) ∧
    Sub (AV.sc (Value.bool false)) res ∧ SubOut [] [])) ∧
    ((r.snd != (0 : Int)) = false →
    ((0 : Nat) = (0 : Nat) ∧ True) ∧
    ∃ (r_2 : ByteArray),
    ((True ∧ True) ∧
    True ∧
    Ok Proofs.Try.prog (13 : Nat)
    [AV.ar (4 : Nat) (1 : Nat) fun (i : Nat) =>
    AV.sc (Value.int IntKind.u64 (r.fst i))]
    [] (AV.sc (Value.string r_2)) []) ∧
    True ∧
    True ∧
    ∃ (r_3 : (Nat → Int) × Int),
    ((True ∧ True) ∧
    True ∧
    Ok Proofs.Try.prog (10 : Nat) [AV.sc (Value.string r_2)] []
    (AV.cons (1 : Nat)
    (AV.ar (4 : Nat) (1 : Nat) fun (i0 : Nat) =>
    AV.sc (Value.int IntKind.u64 (r_3.fst i0)))
    (AV.cons (1 : Nat) (AV.sc (Value.int IntKind.i64 r_3.snd))
    AV.nil)).tup
    []) ∧
    True ∧
    True ∧
    True ∧
    True ∧
    ((0 : Nat) = (0 : Nat) ∧ True) ∧
    True ∧
    True ∧
    True ∧
    True ∧
    True ∧
    (decide ((↑r_2.size : Int) ≤ (512 : Int)) =
    true →
    True ∧
    true = true ∧
    True ∧
    True ∧
    True ∧
    ((r_3.snd == (0 : Int)) = true →
    ((0 : Nat) = (0 : Nat) ∧
    True) ∧
    true = true ∧
    ((0 : Nat) = (0 : Nat) ∧
    True) ∧
    true = true ∧
    (∀ (i : Nat),
    i < (4 : Nat) →
    (AV.sc
    (Value.int
    IntKind.u64
    (r_3.fst
    i))).sz =
    (1 : Nat) ∧
    (AV.sc
    (Value.int
    IntKind.u64
    (r.fst
    i))).sz =
    (1 :
    Nat) ∧
    false =
    false ∧
    false =
    false ∧
    True) ∧
    True ∧
    True ∧
    (cdec
    (∀
    (i :
    Nat),
    i <
    (4 :
    Nat) →
    r_3.fst
    i =
    r.fst
    i) =
    true →
    ∃ (r :
    Bool),
    (True ∧
    True ∧
    Ok
    Proofs.Try.prog
    (12 :
    Nat)
    []
    []
    (AV.sc
    (Value.bool
    r))
    []) ∧
    True ∧
    True ∧
    True ∧
    ((True ∧
    Sub
    (AV.sc
    (Value.bool
    r))
    (AV.sc
    (Value.bool
    r)) ∧
    True) ∧
    True) ∧
    Sub
    (AV.sc
    (Value.bool
    r))
    res ∧
    SubOut
    []
    []) ∧
    (cdec
    (∀
    (i :
    Nat),
    i <
    (4 :
    Nat) →
    r_3.fst
    i =
    r.fst
    i) =
    !true →
    true =
    true ∧
    True ∧
    True ∧
    True ∧
    ((True ∧
    Sub
    (AV.sc
    (Value.bool
    false))
    (AV.sc
    (Value.bool
    false)) ∧
    True) ∧
    True) ∧
    Sub
    (AV.sc
    (Value.bool
    false))
    res ∧
    SubOut
    []
    [])) ∧
    ((r_3.snd == (0 : Int)) =
    !true →
    true = true ∧
    (!true) = !true ∧
    true = true ∧
    (!true) = !true ∧
    true = true ∧
    True ∧
    True ∧
    false = !true ∧
    true = true ∧
    True ∧
    True ∧
    True ∧
    ((True ∧
    Sub
    (AV.sc
    (Value.bool
    false))
    (AV.sc
    (Value.bool
    false)) ∧
    True) ∧
    True) ∧
    Sub
    (AV.sc
    (Value.bool
    false))
    res ∧
    SubOut
    []
    [])) ∧
    (decide ((↑r_2.size : Int) ≤ (512 : Int)) =
    !true →
    true = true ∧
    (!true) = !true ∧
    true = true ∧
    True ∧
    True ∧
    false = !true ∧
    true = true ∧
    (!true) = !true ∧
    true = true ∧
    (!true) = !true ∧
    true = true ∧
    True ∧
    True ∧
    false = !true ∧
    true = true ∧
    True ∧
    True ∧
    True ∧
    ((True ∧
    Sub
    (AV.sc
    (Value.bool
    false))
    (AV.sc
    (Value.bool
    false)) ∧
    True) ∧
    True) ∧
    Sub
    (AV.sc
    (Value.bool
    false))
    res ∧
    SubOut
    []
    [])))) ∧
    ((r_1.snd != (0 : Int)) = !false →
    true = true ∧
    (!false) = !false ∧
    true = true ∧
    (!false) = !false ∧
    true = true ∧
    True ∧
    true = true ∧
    True ∧
    True ∧
    ((True ∧ Sub (AV.sc (Value.bool false)) (AV.sc (Value.bool false)) ∧ True) ∧ True) ∧
    Sub (AV.sc (Value.bool false)) res ∧ SubOut [] []) from
    ⟨trivial, ⟨trivial, ⟨⟨rfl, trivial⟩, (Exists.elim h fun x3 h3 => ⟨x3, (And.elim (fun h4 k4 => ⟨⟨⟨trivial, trivial⟩, ⟨trivial, h4⟩⟩, (Exists.elim k4 fun x5 h5 => ⟨x5, (And.elim (fun h6 k6 => ⟨⟨⟨trivial, trivial⟩, ⟨trivial, h6⟩⟩, ⟨trivial, ⟨trivial, ⟨trivial, ⟨trivial, ⟨⟨rfl, trivial⟩, ⟨trivial, ⟨trivial, ⟨trivial, ⟨trivial, (And.elim (fun h16 k16 => ⟨(fun x17 => (fun h17 => ⟨⟨rfl, trivial⟩, ⟨rfl, ⟨⟨rfl, trivial⟩, ⟨rfl, (And.elim (fun h22 k22 => ⟨(fun x23 => (fun h23 => (fun x24 => (fun h24 => (And.elim (fun h25 k25 => ⟨h25, ((fun h26 => ⟨h26, ⟨rfl, ⟨rfl, trivial⟩⟩⟩) k25)⟩) h24)) (h23 x24))) (h22 x23)), ⟨trivial, (And.elim (fun h24 k24 => ⟨(fun x25 => (fun h25 => ⟨trivial, ⟨trivial, ⟨⟨⟨trivial, ⟨Sub.refl _, trivial⟩⟩, trivial⟩, ((fun h29 => ⟨h29, trivial⟩) h25)⟩⟩⟩) (h24 x25)), (fun x25 => (fun h25 => ⟨trivial, (Exists.elim h25 fun x27 h27 => ⟨x27, (And.elim (fun h28 k28 => ⟨⟨⟨trivial, trivial⟩, ⟨trivial, h28⟩⟩, ⟨trivial, ⟨trivial, ⟨trivial, ⟨trivial, ⟨⟨rfl, trivial⟩, ⟨trivial, ⟨trivial, ⟨trivial, (And.elim (fun h37 k37 => ⟨(fun x38 => (fun h38 => ⟨⟨rfl, trivial⟩, ⟨trivial, (And.elim (fun h41 k41 => ⟨(fun x42 => (fun h42 => (fun x43 => (fun h43 => (And.elim (fun h44 k44 => ⟨h44, ((fun h45 => ⟨h45, ⟨rfl, ⟨rfl, trivial⟩⟩⟩) k44)⟩) h43)) (h42 x43))) (h41 x42)), ⟨trivial, (And.elim (fun h43 k43 => ⟨(fun x44 => (fun h44 => (Exists.elim h44 fun x45 h45 => ⟨x45, (And.elim (fun h46 k46 => ⟨⟨trivial, ⟨trivial, h46⟩⟩, ⟨trivial, ⟨trivial, ⟨trivial, ⟨⟨⟨trivial, ⟨Sub.refl _, trivial⟩⟩, trivial⟩, ((fun h51 => ⟨h51, trivial⟩) k46)⟩⟩⟩⟩⟩) h45)⟩)) (h43 x44)), (fun x44 => (fun h44 => ⟨rfl, ⟨trivial, ⟨trivial, ⟨trivial, ⟨⟨⟨trivial, ⟨Sub.refl _, trivial⟩⟩, trivial⟩, ((fun h50 => ⟨h50, trivial⟩) h44)⟩⟩⟩⟩⟩) (k43 x44))⟩) k41)⟩⟩) h38)⟩⟩) (h37 x38)), (fun x38 => (fun h38 => ⟨⟨rfl, trivial⟩, (Exists.elim h38 fun x40 h40 => ⟨x40, (And.elim (fun h41 k41 => ⟨⟨⟨trivial, trivial⟩, ⟨trivial, h41⟩⟩, ⟨trivial, ⟨trivial, (Exists.elim k41 fun x44 h44 => ⟨x44, (And.elim (fun h45 k45 => ⟨⟨⟨trivial, trivial⟩, ⟨trivial, h45⟩⟩, ⟨trivial, ⟨trivial, ⟨trivial, ⟨trivial, ⟨⟨rfl, trivial⟩, ⟨trivial, ⟨trivial, ⟨trivial, ⟨trivial, ⟨trivial, (And.elim (fun h56 k56 => ⟨(fun x57 => (fun h57 => ⟨trivial, ⟨rfl, ⟨trivial, ⟨trivial, ⟨trivial, (And.elim (fun h63 k63 => ⟨(fun x64 => (fun h64 => ⟨⟨rfl, trivial⟩, ⟨rfl, ⟨⟨rfl, trivial⟩, ⟨rfl, (And.elim (fun h69 k69 => ⟨(fun x70 => (fun h70 => (fun x71 => (fun h71 => (And.elim (fun h72 k72 => ⟨h72, ((fun h73 => ⟨h73, ⟨rfl, ⟨rfl, trivial⟩⟩⟩) k72)⟩) h71)) (h70 x71))) (h69 x70)), ⟨trivial, ⟨trivial, (And.elim (fun h72 k72 => ⟨(fun x73 => (fun h73 => (Exists.elim h73 fun x74 h74 => ⟨x74, (And.elim (fun h75 k75 => ⟨⟨trivial, ⟨trivial, h75⟩⟩, ⟨trivial, ⟨trivial, ⟨trivial, ⟨⟨⟨trivial, ⟨Sub.refl _, trivial⟩⟩, trivial⟩, ((fun h80 => ⟨h80, trivial⟩) k75)⟩⟩⟩⟩⟩) h74)⟩)) (h72 x73)), (fun x73 => (fun h73 => ⟨rfl, ⟨trivial, ⟨trivial, ⟨trivial, ⟨⟨⟨trivial, ⟨Sub.refl _, trivial⟩⟩, trivial⟩, ((fun h79 => ⟨h79, trivial⟩) h73)⟩⟩⟩⟩⟩) (k72 x73))⟩) k69)⟩⟩⟩) h64)⟩⟩⟩⟩) (h63 x64)), (fun x64 => (fun h64 => ⟨rfl, ⟨rfl, ⟨rfl, ⟨rfl, ⟨rfl, ⟨trivial, ⟨trivial, ⟨rfl, ⟨rfl, ⟨trivial, ⟨trivial, ⟨trivial, ⟨⟨⟨trivial, ⟨Sub.refl _, trivial⟩⟩, trivial⟩, ((fun h78 => ⟨h78, trivial⟩) h64)⟩⟩⟩⟩⟩⟩⟩⟩⟩⟩⟩⟩⟩) (k63 x64))⟩) h57)⟩⟩⟩⟩⟩) (h56 x57)), (fun x57 => (fun h57 => ⟨rfl, ⟨rfl, ⟨rfl, ⟨trivial, ⟨trivial, ⟨rfl, ⟨rfl, ⟨rfl, ⟨rfl, ⟨rfl, ⟨rfl, ⟨trivial, ⟨trivial, ⟨rfl, ⟨rfl, ⟨trivial, ⟨trivial, ⟨trivial, ⟨⟨⟨trivial, ⟨Sub.refl _, trivial⟩⟩, trivial⟩, ((fun h77 => ⟨h77, trivial⟩) h57)⟩⟩⟩⟩⟩⟩⟩⟩⟩⟩⟩⟩⟩⟩⟩⟩⟩⟩⟩) (k56 x57))⟩) k45)⟩⟩⟩⟩⟩⟩⟩⟩⟩⟩⟩) h44)⟩)⟩⟩⟩) h40)⟩)⟩) (k37 x38))⟩) k28)⟩⟩⟩⟩⟩⟩⟩⟩⟩) h27)⟩)⟩) (k24 x25))⟩) k22)⟩⟩) h17)⟩⟩⟩⟩) (h16 x17)), (fun x17 => (fun h17 => ⟨rfl, ⟨rfl, ⟨rfl, ⟨rfl, ⟨rfl, ⟨trivial, ⟨rfl, ⟨trivial, ⟨trivial, ⟨⟨⟨trivial, ⟨Sub.refl _, trivial⟩⟩, trivial⟩, ((fun h28 => ⟨h28, trivial⟩) h17)⟩⟩⟩⟩⟩⟩⟩⟩⟩⟩) (k16 x17))⟩) k6)⟩⟩⟩⟩⟩⟩⟩⟩⟩⟩) h5)⟩)⟩) h3)⟩)⟩⟩⟩)
theorem hf5 : Go.Proofs.Try.prog.funcs[5]? = some Go.Proofs.Try.f5 := by kernel_rfl
abbrev s5_e (sf : Nat → Int) : List (Nat × AV) := [(0, (.ar 4 1 (fun i0 => (.sc (.int .u64 (sf i0))))))]
abbrev m5_e (sf : Nat → Int) : List (Nat × Nat × AV) := []
def L5_e (sf : Nat → Int) (res : AV) : Prop := Goes ⟨Go.Proofs.Try.prog, 5, [], res, []⟩ (place Go.Proofs.Try.f5 []) (s5_e sf) (m5_e sf)
theorem a5_e (sf : Nat → Int) (res : AV) (h : (∀ slot, fact (look .undef (s5_e sf) slot)) → L5_e sf res) : L5_e sf res :=
  assumeRule 5 [] Go.Proofs.Try.f5 hf5 [] (s5_e sf) (m5_e sf) res [] _ (by kernel_rfl) h
abbrev s5_0 (m : ByteArray) (i : Int) (b0f : Nat → Int) : List (Nat × AV) := [(1, (.pt 1000 [] 0)), (3, (.sc (.string m))), (4, (.sc (.int .i64 i)))]
abbrev m5_0 (m : ByteArray) (i : Int) (b0f : Nat → Int) : List (Nat × Nat × AV) := [(1000, 24, (.ar 4 1 (fun i0 => (.sc (.int .u64 (b0f i0))))))]
def L5_0 (m : ByteArray) (i : Int) (b0f : Nat → Int) (res : AV) : Prop := Goes ⟨Go.Proofs.Try.prog, 5, [], res, []⟩ (place Go.Proofs.Try.f5 [1, 1, 0, 1, 0, 0]) (s5_0 m i b0f) (m5_0 m i b0f)
theorem a5_0 (m : ByteArray) (i : Int) (b0f : Nat → Int) (res : AV) (h : (∀ slot, fact (look .undef (s5_0 m i b0f) slot)) → L5_0 m i b0f res) : L5_0 m i b0f res :=
  assumeRule 5 [] Go.Proofs.Try.f5 hf5 [1, 1, 0, 1, 0, 0] (s5_0 m i b0f) (m5_0 m i b0f) res [] _ (by kernel_rfl) h
theorem o5 (sf : Nat → Int) (res : AV) (hnew : newOnly res) (h : L5_e sf res) : Ok Go.Proofs.Try.prog 5 [(.ar 4 1 (fun i0 => (.sc (.int .u64 (sf i0)))))] [] res [] :=
  okRule2 5 Go.Proofs.Try.f5 hf5 [(.ar 4 1 (fun i0 => (.sc (.int .u64 (sf i0)))))] [] res [] [] rfl (by kernel_rfl) (by kernel_rfl) (by kernel_rfl) ⟨hnew, by simp⟩ (L5_e sf res) (by kernel_rfl) h
theorem r5_e (sf : Nat → Int) (res : AV)
    (h : ∃ (r : ByteArray),
  Ok Proofs.Try.prog (14 : Nat) [AV.ar (4 : Nat) (1 : Nat) fun (i : Nat) => AV.sc (Value.int IntKind.u64 (sf i))] [] (AV.sc (Value.string r)) [] ∧
    L5_0 r (0 : Int) sf res) :
    L5_e sf res :=
  rule Go.Am.Seat.tabOk 5 [] Go.Proofs.Try.f5 hf5 [] (s5_e sf) (m5_e sf) res [] 400
    (Orc.call [] [] (fun (r14 : ByteArray) => AV.sc (Value.string r14)) (fun (r14 : ByteArray) => []) fun (r14 : ByteArray) =>
  Orc.cut (nat_lit 5) (s5_0 r14 (0 : Int) sf) (m5_0 r14 (0 : Int) sf) [((1000 : Nat), some (1 : Nat))]) _ _ (by kernel_rfl) (by kernel_rfl) (show True ∧
  True ∧
    ((0 : Nat) = (0 : Nat) ∧ True) ∧
    ∃ (r : ByteArray),
    ((True ∧ True) ∧
    True ∧
    Ok Proofs.Try.prog (14 : Nat) [AV.ar (4 : Nat) (1 : Nat) fun (i : Nat) => AV.sc (Value.int IntKind.u64 (sf i))] [] (AV.sc (Value.string r)) []) ∧
    True ∧
    True ∧
    ((True ∧
    Sub (AV.pt (1000 : Nat) [] (0 : Nat)) (AV.pt (1000 : Nat) [] (0 : Nat)) ∧
    True ∧
    Sub (AV.sc (Value.string r)) (AV.sc (Value.string r)) ∧
    True ∧ Sub (AV.sc (Value.int IntKind.i64 (0 : Int))) (AV.sc (Value.int IntKind.i64 (0 : Int))) ∧ True) ∧
    True ∧
    SubB (AV.ar (4 : Nat) (1 : Nat) fun (i0 : Nat) => AV.sc (Value.int IntKind.u64 (sf i0)))
    (AV.ar (4 : Nat) (1 : Nat) fun (i0 : Nat) => AV.sc (Value.int IntKind.u64 (sf i0))) ∧
    True) ∧
    L5_0 r (0 : Int) sf res from
    ⟨trivial, ⟨trivial, ⟨⟨rfl, trivial⟩, (Exists.elim h fun x3 h3 => ⟨x3, (And.elim (fun h4 k4 => ⟨⟨⟨trivial, trivial⟩, ⟨trivial, h4⟩⟩, ⟨trivial, ⟨trivial, ⟨⟨⟨trivial, ⟨Sub.refl _, ⟨trivial, ⟨Sub.refl _, ⟨trivial, ⟨Sub.refl _, trivial⟩⟩⟩⟩⟩⟩, ⟨trivial, ⟨SubB.refl _, trivial⟩⟩⟩, k4⟩⟩⟩⟩) h3)⟩)⟩⟩⟩)
theorem r5_0 (m : ByteArray) (i : Int) (b0f : Nat → Int) (res : AV)
    (h : (decide (i < (↑m.size : Int)) = true →
    ((0 : Int) ≤ i ∧ i < (↑m.size : Int)) ∧
    ∃ (r : Bool),
    Ok Proofs.Try.prog (15 : Nat)
    [AV.ar (4 : Nat) (1 : Nat) fun (i : Nat) => AV.sc (Value.int IntKind.u64 (b0f i)), AV.sc (Value.int IntKind.u8 (↑(byteAt m i.toNat).toNat : Int))]
    [] (AV.sc (Value.bool r)) [] ∧
    ((!r) = false →
    (decide (i > (0 : Int)) = true →
    ((0 : Int) ≤ IntKind.i64.wrap (i - (1 : Int)) ∧ IntKind.i64.wrap (i - (1 : Int)) < (↑m.size : Int)) ∧
    (decide ((↑(byteAt m (IntKind.i64.wrap (i - (1 : Int))).toNat).toNat : Int) ≥ (↑(byteAt m i.toNat).toNat : Int)) = true →
    Sub (AV.sc (Value.bool false)) res) ∧
    (decide ((↑(byteAt m (IntKind.i64.wrap (i - (1 : Int))).toNat).toNat : Int) ≥ (↑(byteAt m i.toNat).toNat : Int)) = false →
    L5_0 m (IntKind.i64.wrap (i + (1 : Int))) b0f res)) ∧
    (decide (i > (0 : Int)) = !true → L5_0 m (IntKind.i64.wrap (i + (1 : Int))) b0f res)) ∧
    ((!r) = !false → Sub (AV.sc (Value.bool false)) res)) ∧
  (decide (i < (↑m.size : Int)) = false →
    ∃ (r : Int),
    Ok Proofs.Try.prog (16 : Nat) [AV.ar (4 : Nat) (1 : Nat) fun (i : Nat) => AV.sc (Value.int IntKind.u64 (b0f i))] [] (AV.sc (Value.int IntKind.i64 r)) [] ∧
    (((↑m.size : Int) == r) = true →
    ∃ (r : Nat → Int),
    Ok Proofs.Try.prog (17 : Nat) [AV.sc (Value.string m)] [] (AV.ar (4 : Nat) (1 : Nat) fun (i0 : Nat) => AV.sc (Value.int IntKind.u64 (r i0))) [] ∧
    (∀ (i : Nat), i < (4 : Nat) → (AV.sc (Value.int IntKind.u64 (r i))).sz = (1 : Nat) ∧ (AV.sc (Value.int IntKind.u64 (b0f i))).sz = (1 : Nat)) ∧
    (cdec (∀ (i : Nat), i < (4 : Nat) → r i = b0f i) = true →
    ∃ (r : Bool), Ok Proofs.Try.prog (12 : Nat) [] [] (AV.sc (Value.bool r)) [] ∧ Sub (AV.sc (Value.bool r)) res) ∧
    (cdec (∀ (i : Nat), i < (4 : Nat) → r i = b0f i) = !true → Sub (AV.sc (Value.bool false)) res)) ∧
    (((↑m.size : Int) == r) = !true → Sub (AV.sc (Value.bool false)) res))) :
    L5_0 m i b0f res :=
  rule Go.Am.Seat.tabOk 5 [] Go.Proofs.Try.f5 hf5 [1, 1, 0, 1, 0, 0] (s5_0 m i b0f) (m5_0 m i b0f) res [] 400
    ((Orc.call [] [] (fun (r15 : Bool) => AV.sc (Value.bool r15)) (fun (r15 : Bool) => []) fun (r15 : Bool) =>
    ((Orc.ch (Ch.p true)
    (Orc.ch (Ch.p false)
    ((Orc.fin (AV.sc (Value.bool false)) [] []).br
    (Orc.cut (nat_lit 4) (s5_0 m (IntKind.i64.wrap (i + (1 : Int))) b0f) (m5_0 m (IntKind.i64.wrap (i + (1 : Int))) b0f)
    [((1000 : Nat), some (1000 : Nat))])))).yes.yes.yes.yes.yes.yes.yes.yes.br
    (Orc.ch (Ch.p false)
    (Orc.ch (Ch.p false)
    (Orc.cut (nat_lit 4) (s5_0 m (IntKind.i64.wrap (i + (1 : Int))) b0f) (m5_0 m (IntKind.i64.wrap (i + (1 : Int))) b0f)
    [((1000 : Nat), some (1000 : Nat))]).no)).yes.no.no.no.no.no.no.no).yes.yes.br
    (Orc.ch (Ch.p true) (Orc.fin (AV.sc (Value.bool false)) [] []).yes).no.no.no).br
  (Orc.call [] [] (fun (r16 : Int) => AV.sc (Value.int IntKind.i64 r16)) (fun (r16 : Int) => []) fun (r16 : Int) =>
    (Orc.call [] [] (fun (r17 : Nat → Int) => AV.ar (4 : Nat) (1 : Nat) fun (i0 : Nat) => AV.sc (Value.int IntKind.u64 (r17 i0))) (fun (r17 : Nat → Int) => [])
    fun (r17 : Nat → Int) =>
    (Orc.ch Ch.none
    (Orc.ch (Ch.p true)
    ((Orc.call [] [] (fun (r12 : Bool) => AV.sc (Value.bool r12)) (fun (r12 : Bool) => []) fun (r12 : Bool) =>
    Orc.ch (Ch.p true) (Orc.fin (AV.sc (Value.bool r12)) [] [])).br
    (Orc.ch (Ch.p false) (Orc.fin (AV.sc (Value.bool false)) [] []))))).yes.yes).yes.br
    (Orc.ch (Ch.p false) (Orc.ch (Ch.p false) (Orc.fin (AV.sc (Value.bool false)) [] [])).no).no.no.no)) _ _ (by kernel_rfl) (by kernel_rfl) (show True ∧
  True ∧
    True ∧
    True ∧
    (decide (i < (↑m.size : Int)) = true →
    ((0 : Nat) = (0 : Nat) ∧ True) ∧
    True ∧
    True ∧
    ((0 : Int) ≤ i ∧ i < (↑m.size : Int)) ∧
    ∃ (r : Bool),
    ((True ∧ True ∧ True) ∧
    True ∧
    Ok Proofs.Try.prog (15 : Nat)
    [AV.ar (4 : Nat) (1 : Nat) fun (i : Nat) => AV.sc (Value.int IntKind.u64 (b0f i)),
    AV.sc (Value.int IntKind.u8 (↑(byteAt m i.toNat).toNat : Int))]
    [] (AV.sc (Value.bool r)) []) ∧
    True ∧
    True ∧
    ((!r) = false →
    True ∧
    (!r) = false ∧
    True ∧
    (!r) = false ∧
    True ∧
    (decide (i > (0 : Int)) = true →
    True ∧
    decide (i > (0 : Int)) = true ∧
    True ∧
    decide (i > (0 : Int)) = true ∧
    True ∧
    decide (i > (0 : Int)) = true ∧
    ((0 : Int) ≤ IntKind.i64.wrap (i - (1 : Int)) ∧ IntKind.i64.wrap (i - (1 : Int)) < (↑m.size : Int)) ∧
    decide (i > (0 : Int)) = true ∧
    True ∧
    decide (i > (0 : Int)) = true ∧
    True ∧
    decide (i > (0 : Int)) = true ∧
    ((0 : Int) ≤ i ∧ i < (↑m.size : Int)) ∧
    decide (i > (0 : Int)) = true ∧
    True ∧
    (!r) = false ∧
    decide (i > (0 : Int)) = true ∧
    (!r) = false ∧
    (decide
    ((↑(byteAt m (IntKind.i64.wrap (i - (1 : Int))).toNat).toNat : Int) ≥
    (↑(byteAt m i.toNat).toNat : Int)) =
    true →
    True ∧
    True ∧
    ((True ∧
    Sub (AV.sc (Value.bool false)) (AV.sc (Value.bool false)) ∧
    True) ∧
    True) ∧
    Sub (AV.sc (Value.bool false)) res ∧ SubOut [] []) ∧
    (decide
    ((↑(byteAt m (IntKind.i64.wrap (i - (1 : Int))).toNat).toNat : Int) ≥
    (↑(byteAt m i.toNat).toNat : Int)) =
    false →
    True ∧
    True ∧
    True ∧
    ((True ∧
    Sub (AV.pt (1000 : Nat) [] (0 : Nat))
    (AV.pt (1000 : Nat) [] (0 : Nat)) ∧
    True ∧
    Sub (AV.sc (Value.string m)) (AV.sc (Value.string m)) ∧
    True ∧
    Sub
    (AV.sc
    (Value.int IntKind.i64
    (IntKind.i64.wrap (i + (1 : Int)))))
    (AV.sc
    (Value.int IntKind.i64
    (IntKind.i64.wrap (i + (1 : Int))))) ∧
    True) ∧
    True ∧
    SubB
    (AV.ar (4 : Nat) (1 : Nat) fun (i0 : Nat) =>
    AV.sc (Value.int IntKind.u64 (b0f i0)))
    (AV.ar (4 : Nat) (1 : Nat) fun (i0 : Nat) =>
    AV.sc (Value.int IntKind.u64 (b0f i0))) ∧
    True) ∧
    L5_0 m (IntKind.i64.wrap (i + (1 : Int))) b0f res)) ∧
    (decide (i > (0 : Int)) = !true →
    true = true ∧
    decide (i > (0 : Int)) = !true ∧
    true = true ∧
    decide (i > (0 : Int)) = !true ∧
    true = true ∧
    decide (i > (0 : Int)) = !true ∧
    true = true ∧
    decide (i > (0 : Int)) = !true ∧
    true = true ∧
    decide (i > (0 : Int)) = !true ∧
    true = true ∧
    decide (i > (0 : Int)) = !true ∧
    true = true ∧
    decide (i > (0 : Int)) = !true ∧
    true = true ∧
    (!r) = false ∧
    decide (i > (0 : Int)) = false ∧
    (!r) = false ∧
    false = false ∧
    True ∧
    True ∧
    True ∧
    ((True ∧
    Sub (AV.pt (1000 : Nat) [] (0 : Nat))
    (AV.pt (1000 : Nat) [] (0 : Nat)) ∧
    True ∧
    Sub (AV.sc (Value.string m)) (AV.sc (Value.string m)) ∧
    True ∧
    Sub
    (AV.sc
    (Value.int IntKind.i64
    (IntKind.i64.wrap (i + (1 : Int)))))
    (AV.sc
    (Value.int IntKind.i64
    (IntKind.i64.wrap (i + (1 : Int))))) ∧
    True) ∧
    True ∧
    SubB
    (AV.ar (4 : Nat) (1 : Nat) fun (i0 : Nat) =>
    AV.sc (Value.int IntKind.u64 (b0f i0)))
    (AV.ar (4 : Nat) (1 : Nat) fun (i0 : Nat) =>
    AV.sc (Value.int IntKind.u64 (b0f i0))) ∧
    True) ∧
    L5_0 m (IntKind.i64.wrap (i + (1 : Int))) b0f res)) ∧
    ((!r) = !false →
    true = true ∧
    (!r) = !false ∧
    true = true ∧
    (!r) = !false ∧
    true = true ∧
    true = true ∧
    true = true ∧
    true = true ∧
    true = true ∧
    true = true ∧
    true = true ∧
    true = true ∧
    true = true ∧
    (!r) = !false ∧
    true = true ∧
    (!r) = true ∧
    true = true ∧
    True ∧
    True ∧
    ((True ∧ Sub (AV.sc (Value.bool false)) (AV.sc (Value.bool false)) ∧ True) ∧ True) ∧
    Sub (AV.sc (Value.bool false)) res ∧ SubOut [] [])) ∧
    (decide (i < (↑m.size : Int)) = false →
    True ∧
    True ∧
    ((0 : Nat) = (0 : Nat) ∧ True) ∧
    ∃ (r : Int),
    ((True ∧ True) ∧
    True ∧
    Ok Proofs.Try.prog (16 : Nat) [AV.ar (4 : Nat) (1 : Nat) fun (i : Nat) => AV.sc (Value.int IntKind.u64 (b0f i))] []
    (AV.sc (Value.int IntKind.i64 r)) []) ∧
    True ∧
    True ∧
    (((↑m.size : Int) == r) = true →
    True ∧
    ((↑m.size : Int) == r) = true ∧
    ∃ (r_1 : Nat → Int),
    ((True ∧ True) ∧
    True ∧
    Ok Proofs.Try.prog (17 : Nat) [AV.sc (Value.string m)] []
    (AV.ar (4 : Nat) (1 : Nat) fun (i0 : Nat) => AV.sc (Value.int IntKind.u64 (r_1 i0))) []) ∧
    ((↑m.size : Int) == r) = true ∧
    ((0 : Nat) = (0 : Nat) ∧ True) ∧
    ((↑m.size : Int) == r) = true ∧
    (∀ (i : Nat),
    i < (4 : Nat) →
    (AV.sc (Value.int IntKind.u64 (r_1 i))).sz = (1 : Nat) ∧
    (AV.sc (Value.int IntKind.u64 (b0f i))).sz = (1 : Nat) ∧ false = false ∧ false = false ∧ True) ∧
    ((↑m.size : Int) == r) = true ∧
    True ∧
    (cdec (∀ (i : Nat), i < (4 : Nat) → r_1 i = b0f i) = true →
    ∃ (r : Bool),
    (True ∧ True ∧ Ok Proofs.Try.prog (12 : Nat) [] [] (AV.sc (Value.bool r)) []) ∧
    cdec (∀ (i : Nat), i < (4 : Nat) → r_1 i = b0f i) = true ∧
    True ∧
    True ∧
    ((True ∧ Sub (AV.sc (Value.bool r)) (AV.sc (Value.bool r)) ∧ True) ∧ True) ∧
    Sub (AV.sc (Value.bool r)) res ∧ SubOut [] []) ∧
    (cdec (∀ (i : Nat), i < (4 : Nat) → r_1 i = b0f i) = !true →
    true = true ∧
    cdec (∀ (i : Nat), i < (4 : Nat) → r_1 i = b0f i) = false ∧
    True ∧
    True ∧
    ((True ∧ Sub (AV.sc (Value.bool false)) (AV.sc (Value.bool false)) ∧ True) ∧ True) ∧
    Sub (AV.sc (Value.bool false)) res ∧ SubOut [] [])) ∧
    (((↑m.size : Int) == r) = !true →
    true = true ∧
    ((↑m.size : Int) == r) = !true ∧
    true = true ∧
    ((↑m.size : Int) == r) = !true ∧
    true = true ∧
    ((↑m.size : Int) == r) = !true ∧
    true = true ∧
    ((↑m.size : Int) == r) = false ∧
    True ∧
    false = !true ∧
    true = true ∧
    false = false ∧
    True ∧
    True ∧
    ((True ∧ Sub (AV.sc (Value.bool false)) (AV.sc (Value.bool false)) ∧ True) ∧ True) ∧
    Sub (AV.sc (Value.bool false)) res ∧ SubOut [] [])) from
    ⟨trivial, ⟨trivial, ⟨trivial, ⟨trivial, (And.elim (fun h4 k4 => ⟨(fun x5 => (fun h5 => ⟨⟨rfl, trivial⟩, ⟨trivial, ⟨trivial, (And.elim (fun h9 k9 => ⟨(And.elim (fun h10 k10 => ⟨h10, k10⟩) h9), (Exists.elim k9 fun x10 h10 => ⟨x10, (And.elim (fun h11 k11 => ⟨⟨⟨trivial, ⟨trivial, trivial⟩⟩, ⟨trivial, h11⟩⟩, ⟨trivial, ⟨trivial, (And.elim (fun h14 k14 => ⟨(fun x15 => (fun h15 => ⟨trivial, ⟨x15, ⟨trivial, ⟨x15, ⟨trivial, (And.elim (fun h21 k21 => ⟨(fun x22 => (fun h22 => ⟨trivial, ⟨x22, ⟨trivial, ⟨x22, ⟨trivial, ⟨x22, (And.elim (fun h29 k29 => ⟨(And.elim (fun h30 k30 => ⟨h30, k30⟩) h29), ⟨x22, ⟨trivial, ⟨x22, ⟨trivial, ⟨x22, ⟨(And.elim (fun h36 k36 => ⟨h36, k36⟩) h9), ⟨x22, ⟨trivial, ⟨x15, ⟨x22, ⟨x15, (And.elim (fun h41 k41 => ⟨(fun x42 => (fun h42 => ⟨trivial, ⟨trivial, ⟨⟨⟨trivial, ⟨Sub.refl _, trivial⟩⟩, trivial⟩, ((fun h46 => ⟨h46, trivial⟩) h42)⟩⟩⟩) (h41 x42)), (fun x42 => (fun h42 => ⟨trivial, ⟨trivial, ⟨trivial, ⟨⟨⟨trivial, ⟨Sub.refl _, ⟨trivial, ⟨Sub.refl _, ⟨trivial, ⟨Sub.refl _, trivial⟩⟩⟩⟩⟩⟩, ⟨trivial, ⟨SubB.refl _, trivial⟩⟩⟩, h42⟩⟩⟩⟩) (k41 x42))⟩) k29)⟩⟩⟩⟩⟩⟩⟩⟩⟩⟩⟩⟩) h22)⟩⟩⟩⟩⟩⟩) (h21 x22)), (fun x22 => (fun h22 => ⟨rfl, ⟨x22, ⟨rfl, ⟨x22, ⟨rfl, ⟨x22, ⟨rfl, ⟨x22, ⟨rfl, ⟨x22, ⟨rfl, ⟨x22, ⟨rfl, ⟨x22, ⟨rfl, ⟨x15, ⟨x22, ⟨x15, ⟨rfl, ⟨trivial, ⟨trivial, ⟨trivial, ⟨⟨⟨trivial, ⟨Sub.refl _, ⟨trivial, ⟨Sub.refl _, ⟨trivial, ⟨Sub.refl _, trivial⟩⟩⟩⟩⟩⟩, ⟨trivial, ⟨SubB.refl _, trivial⟩⟩⟩, h22⟩⟩⟩⟩⟩⟩⟩⟩⟩⟩⟩⟩⟩⟩⟩⟩⟩⟩⟩⟩⟩⟩⟩) (k21 x22))⟩) h15)⟩⟩⟩⟩⟩) (h14 x15)), (fun x15 => (fun h15 => ⟨rfl, ⟨x15, ⟨rfl, ⟨x15, ⟨rfl, ⟨rfl, ⟨rfl, ⟨rfl, ⟨rfl, ⟨rfl, ⟨rfl, ⟨rfl, ⟨rfl, ⟨x15, ⟨rfl, ⟨x15, ⟨rfl, ⟨trivial, ⟨trivial, ⟨⟨⟨trivial, ⟨Sub.refl _, trivial⟩⟩, trivial⟩, ((fun h36 => ⟨h36, trivial⟩) h15)⟩⟩⟩⟩⟩⟩⟩⟩⟩⟩⟩⟩⟩⟩⟩⟩⟩⟩⟩⟩) (k14 x15))⟩) k11)⟩⟩⟩) h10)⟩)⟩) h5)⟩⟩⟩) (h4 x5)), (fun x5 => (fun h5 => ⟨trivial, ⟨trivial, ⟨⟨rfl, trivial⟩, (Exists.elim h5 fun x9 h9 => ⟨x9, (And.elim (fun h10 k10 => ⟨⟨⟨trivial, trivial⟩, ⟨trivial, h10⟩⟩, ⟨trivial, ⟨trivial, (And.elim (fun h13 k13 => ⟨(fun x14 => (fun h14 => ⟨trivial, ⟨x14, (Exists.elim h14 fun x17 h17 => ⟨x17, (And.elim (fun h18 k18 => ⟨⟨⟨trivial, trivial⟩, ⟨trivial, h18⟩⟩, ⟨x14, ⟨⟨rfl, trivial⟩, ⟨x14, (And.elim (fun h22 k22 => ⟨(fun x23 => (fun h23 => (fun x24 => (fun h24 => (And.elim (fun h25 k25 => ⟨h25, ((fun h26 => ⟨h26, ⟨rfl, ⟨rfl, trivial⟩⟩⟩) k25)⟩) h24)) (h23 x24))) (h22 x23)), ⟨x14, ⟨trivial, (And.elim (fun h25 k25 => ⟨(fun x26 => (fun h26 => (Exists.elim h26 fun x27 h27 => ⟨x27, (And.elim (fun h28 k28 => ⟨⟨trivial, ⟨trivial, h28⟩⟩, ⟨x26, ⟨trivial, ⟨trivial, ⟨⟨⟨trivial, ⟨Sub.refl _, trivial⟩⟩, trivial⟩, ((fun h33 => ⟨h33, trivial⟩) k28)⟩⟩⟩⟩⟩) h27)⟩)) (h25 x26)), (fun x26 => (fun h26 => ⟨rfl, ⟨x26, ⟨trivial, ⟨trivial, ⟨⟨⟨trivial, ⟨Sub.refl _, trivial⟩⟩, trivial⟩, ((fun h32 => ⟨h32, trivial⟩) h26)⟩⟩⟩⟩⟩) (k25 x26))⟩) k22)⟩⟩⟩) k18)⟩⟩⟩⟩) h17)⟩)⟩⟩) (h13 x14)), (fun x14 => (fun h14 => ⟨rfl, ⟨x14, ⟨rfl, ⟨x14, ⟨rfl, ⟨x14, ⟨rfl, ⟨x14, ⟨trivial, ⟨rfl, ⟨rfl, ⟨rfl, ⟨trivial, ⟨trivial, ⟨⟨⟨trivial, ⟨Sub.refl _, trivial⟩⟩, trivial⟩, ((fun h30 => ⟨h30, trivial⟩) h14)⟩⟩⟩⟩⟩⟩⟩⟩⟩⟩⟩⟩⟩⟩⟩) (k13 x14))⟩) k10)⟩⟩⟩) h9)⟩)⟩⟩⟩) (k4 x5))⟩) h)⟩⟩⟩⟩)
theorem hf6 : Go.Proofs.Try.prog.funcs[6]? = some Go.Proofs.Try.f6 := by kernel_rfl
abbrev s6_e (sf : Nat → Int) (oa : Int) (oba : Int) (obba : ByteArray) : List (Nat × AV) := [(0, (.ar 4 1 (fun i0 => (.sc (.int .u64 (sf i0)))))), (1, (.cons 1 (.sc (.int .u8 oa)) (.cons 1 (.sc (.int .u8 oba)) (.cons 1 (.sc (.string obba)) .nil))))]
abbrev m6_e (sf : Nat → Int) (oa : Int) (oba : Int) (obba : ByteArray) : List (Nat × Nat × AV) := []
def L6_e (sf : Nat → Int) (oa : Int) (oba : Int) (obba : ByteArray) (res : AV) : Prop := Goes ⟨Go.Proofs.Try.prog, 6, [], res, []⟩ (place Go.Proofs.Try.f6 []) (s6_e sf oa oba obba) (m6_e sf oa oba obba)
theorem a6_e (sf : Nat → Int) (oa : Int) (oba : Int) (obba : ByteArray) (res : AV) (h : (∀ slot, fact (look .undef (s6_e sf oa oba obba) slot)) → L6_e sf oa oba obba res) : L6_e sf oa oba obba res :=
  assumeRule 6 [] Go.Proofs.Try.f6 hf6 [] (s6_e sf oa oba obba) (m6_e sf oa oba obba) res [] _ (by kernel_rfl) h
abbrev s6_0 (b : Int) (c : Int) (text : ByteArray) (i : Int) (b0f : Nat → Int) (b1f : Nat → Bool) (b2f : Nat → Bool) (b3f : Nat → Bool) : List (Nat × AV) := [(2, (.pt 1000 [] 0)), (5, (.sc (.int .u8 b))), (6, (.sc (.int .u8 c))), (7, (.sc (.string text))), (8, (.pt 1001 [] 0)), (9, (.pt 1002 [] 0)), (10, (.pt 1003 [] 0)), (11, (.sc (.int .i64 i)))]
abbrev m6_0 (b : Int) (c : Int) (text : ByteArray) (i : Int) (b0f : Nat → Int) (b1f : Nat → Bool) (b2f : Nat → Bool) (b3f : Nat → Bool) : List (Nat × Nat × AV) := [(1000, 24, (.ar 4 1 (fun i0 => (.sc (.int .u64 (b0f i0)))))), (1001, 38, (.ar 256 1 (fun i0 => (.sc (.bool (b1f i0)))))), (1002, 38, (.ar 256 1 (fun i0 => (.sc (.bool (b2f i0)))))), (1003, 38, (.ar 256 1 (fun i0 => (.sc (.bool (b3f i0))))))]
def L6_0 (b : Int) (c : Int) (text : ByteArray) (i : Int) (b0f : Nat → Int) (b1f : Nat → Bool) (b2f : Nat → Bool) (b3f : Nat → Bool) (res : AV) : Prop := Goes ⟨Go.Proofs.Try.prog, 6, [], res, []⟩ (place Go.Proofs.Try.f6 [1, 1, 1, 1, 0, 1, 0, 0]) (s6_0 b c text i b0f b1f b2f b3f) (m6_0 b c text i b0f b1f b2f b3f)
theorem a6_0 (b : Int) (c : Int) (text : ByteArray) (i : Int) (b0f : Nat → Int) (b1f : Nat → Bool) (b2f : Nat → Bool) (b3f : Nat → Bool) (res : AV) (h : (∀ slot, fact (look .undef (s6_0 b c text i b0f b1f b2f b3f) slot)) → L6_0 b c text i b0f b1f b2f b3f res) : L6_0 b c text i b0f b1f b2f b3f res :=
  assumeRule 6 [] Go.Proofs.Try.f6 hf6 [1, 1, 1, 1, 0, 1, 0, 0] (s6_0 b c text i b0f b1f b2f b3f) (m6_0 b c text i b0f b1f b2f b3f) res [] _ (by kernel_rfl) h
abbrev s6_1 (b : Int) (c : Int) (text : ByteArray) (k : Int) (b0f : Nat → Int) (b1f : Nat → Bool) (b2f : Nat → Bool) (b3f : Nat → Bool) : List (Nat × AV) := [(2, (.pt 1000 [] 0)), (5, (.sc (.int .u8 b))), (6, (.sc (.int .u8 c))), (7, (.sc (.string text))), (8, (.pt 1001 [] 0)), (9, (.pt 1002 [] 0)), (10, (.pt 1003 [] 0)), (12, (.sc (.int .i64 k)))]
abbrev m6_1 (b : Int) (c : Int) (text : ByteArray) (k : Int) (b0f : Nat → Int) (b1f : Nat → Bool) (b2f : Nat → Bool) (b3f : Nat → Bool) : List (Nat × Nat × AV) := [(1000, 24, (.ar 4 1 (fun i0 => (.sc (.int .u64 (b0f i0)))))), (1001, 38, (.ar 256 1 (fun i0 => (.sc (.bool (b1f i0)))))), (1002, 38, (.ar 256 1 (fun i0 => (.sc (.bool (b2f i0)))))), (1003, 38, (.ar 256 1 (fun i0 => (.sc (.bool (b3f i0))))))]
def L6_1 (b : Int) (c : Int) (text : ByteArray) (k : Int) (b0f : Nat → Int) (b1f : Nat → Bool) (b2f : Nat → Bool) (b3f : Nat → Bool) (res : AV) : Prop := Goes ⟨Go.Proofs.Try.prog, 6, [], res, []⟩ (place Go.Proofs.Try.f6 [1, 1, 1, 1, 1, 0, 1, 0, 0]) (s6_1 b c text k b0f b1f b2f b3f) (m6_1 b c text k b0f b1f b2f b3f)
theorem a6_1 (b : Int) (c : Int) (text : ByteArray) (k : Int) (b0f : Nat → Int) (b1f : Nat → Bool) (b2f : Nat → Bool) (b3f : Nat → Bool) (res : AV) (h : (∀ slot, fact (look .undef (s6_1 b c text k b0f b1f b2f b3f) slot)) → L6_1 b c text k b0f b1f b2f b3f res) : L6_1 b c text k b0f b1f b2f b3f res :=
  assumeRule 6 [] Go.Proofs.Try.f6 hf6 [1, 1, 1, 1, 1, 0, 1, 0, 0] (s6_1 b c text k b0f b1f b2f b3f) (m6_1 b c text k b0f b1f b2f b3f) res [] _ (by kernel_rfl) h
theorem o6 (sf : Nat → Int) (oa : Int) (oba : Int) (obba : ByteArray) (res : AV) (hnew : newOnly res) (h : L6_e sf oa oba obba res) : Ok Go.Proofs.Try.prog 6 [(.ar 4 1 (fun i0 => (.sc (.int .u64 (sf i0))))), (.cons 1 (.sc (.int .u8 oa)) (.cons 1 (.sc (.int .u8 oba)) (.cons 1 (.sc (.string obba)) .nil)))] [] res [] :=
  okRule2 6 Go.Proofs.Try.f6 hf6 [(.ar 4 1 (fun i0 => (.sc (.int .u64 (sf i0))))), (.cons 1 (.sc (.int .u8 oa)) (.cons 1 (.sc (.int .u8 oba)) (.cons 1 (.sc (.string obba)) .nil)))] [] res [] [] rfl (by kernel_rfl) (by kernel_rfl) (by kernel_rfl) ⟨hnew, by simp⟩ (L6_e sf oa oba obba res) (by kernel_rfl) h
theorem r6_e (sf : Nat → Int) (oa : Int) (oba : Int) (obba : ByteArray) (res : AV)
    (h : ∃ (r : Nat → Bool),
  Ok Proofs.Try.prog (18 : Nat) [AV.ar (4 : Nat) (1 : Nat) fun (i : Nat) => AV.sc (Value.int IntKind.u64 (sf i))] []
    (AV.ar (256 : Nat) (1 : Nat) fun (i0 : Nat) => AV.sc (Value.bool (r i0))) [] ∧
    L6_0 oa oba obba (0 : Int) sf r (fun (x : Nat) => false) (fun (x : Nat) => false) res) :
    L6_e sf oa oba obba res :=
  rule Go.Am.Seat.tabOk 6 [] Go.Proofs.Try.f6 hf6 [] (s6_e sf oa oba obba) (m6_e sf oa oba obba) res [] 400
    (Orc.call [] [] (fun (r18 : Nat → Bool) => AV.ar (256 : Nat) (1 : Nat) fun (i0 : Nat) => AV.sc (Value.bool (r18 i0))) (fun (r18 : Nat → Bool) => [])
  fun (r18 : Nat → Bool) =>
  Orc.cut (nat_lit 7) (s6_0 oa oba obba (0 : Int) sf r18 (fun (x : Nat) => false) fun (x : Nat) => false)
    (m6_0 oa oba obba (0 : Int) sf r18 (fun (x : Nat) => false) fun (x : Nat) => false)
    [((1000 : Nat), some (2 : Nat)), ((1001 : Nat), some (8 : Nat)), ((1002 : Nat), some (9 : Nat)), ((1003 : Nat), some (10 : Nat))]) _ _ (by kernel_rfl) (by kernel_rfl) (show True ∧
  True ∧
    True ∧
    True ∧
    ((0 : Nat) = plus (0 : Nat) (0 : Nat) ∧ True) ∧
    True ∧
    ((1 : Nat) + (0 : Nat) = plus (0 : Nat) (1 : Nat) ∧ True) ∧
    True ∧
    ((1 : Nat) + ((1 : Nat) + (0 : Nat)) = plus (0 : Nat) (2 : Nat) ∧ True) ∧
    True ∧
    True ∧
    True ∧
    ((0 : Nat) = (0 : Nat) ∧ True) ∧
    ∃ (r : Nat → Bool),
    ((True ∧ True) ∧
    True ∧
    Ok Proofs.Try.prog (18 : Nat) [AV.ar (4 : Nat) (1 : Nat) fun (i : Nat) => AV.sc (Value.int IntKind.u64 (sf i))] []
    (AV.ar (256 : Nat) (1 : Nat) fun (i0 : Nat) => AV.sc (Value.bool (r i0))) []) ∧
    True ∧
    ((0 : Nat) = (0 : Nat) ∧ True) ∧
    True ∧
    True ∧
    True ∧
    ((True ∧
    Sub (AV.pt (1000 : Nat) [] (0 : Nat)) (AV.pt (1000 : Nat) [] (0 : Nat)) ∧
    True ∧
    Sub (AV.sc (Value.int IntKind.u8 oa)) (AV.sc (Value.int IntKind.u8 oa)) ∧
    True ∧
    Sub (AV.sc (Value.int IntKind.u8 oba)) (AV.sc (Value.int IntKind.u8 oba)) ∧
    True ∧
    Sub (AV.sc (Value.string obba)) (AV.sc (Value.string obba)) ∧
    True ∧
    Sub (AV.pt (1001 : Nat) [] (0 : Nat)) (AV.pt (1001 : Nat) [] (0 : Nat)) ∧
    True ∧
    Sub (AV.pt (1002 : Nat) [] (0 : Nat)) (AV.pt (1002 : Nat) [] (0 : Nat)) ∧
    True ∧
    Sub (AV.pt (1003 : Nat) [] (0 : Nat)) (AV.pt (1003 : Nat) [] (0 : Nat)) ∧
    True ∧
    Sub (AV.sc (Value.int IntKind.i64 (0 : Int)))
    (AV.sc (Value.int IntKind.i64 (0 : Int))) ∧
    True) ∧
    True ∧
    SubB (AV.ar (4 : Nat) (1 : Nat) fun (i0 : Nat) => AV.sc (Value.int IntKind.u64 (sf i0)))
    (AV.ar (4 : Nat) (1 : Nat) fun (i0 : Nat) => AV.sc (Value.int IntKind.u64 (sf i0))) ∧
    True ∧
    SubB (AV.ar (256 : Nat) (1 : Nat) fun (i0 : Nat) => AV.sc (Value.bool (r i0)))
    (AV.ar (256 : Nat) (1 : Nat) fun (i0 : Nat) => AV.sc (Value.bool (r i0))) ∧
    True ∧
    SubB (AV.ar (256 : Nat) (1 : Nat) fun (x : Nat) => AV.sc (Value.bool false))
    (AV.ar (256 : Nat) (1 : Nat) fun (i0 : Nat) => AV.sc (Value.bool false)) ∧
    True ∧
    SubB (AV.ar (256 : Nat) (1 : Nat) fun (x : Nat) => AV.sc (Value.bool false))
    (AV.ar (256 : Nat) (1 : Nat) fun (i0 : Nat) => AV.sc (Value.bool false)) ∧
    True) ∧
    L6_0 oa oba obba (0 : Int) sf r (fun (x : Nat) => false) (fun (x : Nat) => false) res from
    ⟨trivial, ⟨trivial, ⟨trivial, ⟨trivial, ⟨⟨rfl, trivial⟩, ⟨trivial, ⟨⟨rfl, trivial⟩, ⟨trivial, ⟨⟨rfl, trivial⟩, ⟨trivial, ⟨trivial, ⟨trivial, ⟨⟨rfl, trivial⟩, (Exists.elim h fun x13 h13 => ⟨x13, (And.elim (fun h14 k14 => ⟨⟨⟨trivial, trivial⟩, ⟨trivial, h14⟩⟩, ⟨trivial, ⟨⟨rfl, trivial⟩, ⟨trivial, ⟨trivial, ⟨trivial, ⟨⟨⟨trivial, ⟨Sub.refl _, ⟨trivial, ⟨Sub.refl _, ⟨trivial, ⟨Sub.refl _, ⟨trivial, ⟨Sub.refl _, ⟨trivial, ⟨Sub.refl _, ⟨trivial, ⟨Sub.refl _, ⟨trivial, ⟨Sub.refl _, ⟨trivial, ⟨Sub.refl _, trivial⟩⟩⟩⟩⟩⟩⟩⟩⟩⟩⟩⟩⟩⟩⟩⟩, ⟨trivial, ⟨SubB.refl _, ⟨trivial, ⟨SubB.refl _, ⟨trivial, ⟨SubB.refl _, ⟨trivial, ⟨SubB.refl _, trivial⟩⟩⟩⟩⟩⟩⟩⟩⟩, k14⟩⟩⟩⟩⟩⟩⟩) h13)⟩)⟩⟩⟩⟩⟩⟩⟩⟩⟩⟩⟩⟩⟩)
theorem r6_0 (b : Int) (c : Int) (text : ByteArray) (i : Int) (b0f : Nat → Int) (b1f : Nat → Bool) (b2f : Nat → Bool) (b3f : Nat → Bool) (res : AV)
    (h : (decide (i < (↑text.size : Int)) = true →
    ((0 : Int) ≤ i ∧ i < (↑text.size : Int)) ∧
    ((0 : Int) ≤ (↑(byteAt text i.toNat).toNat : Int) ∧ (↑(byteAt text i.toNat).toNat : Int) < (↑(256 : Nat) : Int)) ∧
    (↑(byteAt text i.toNat).toNat : Int).toNat < (256 : Nat) ∧
    L6_0 b c text (IntKind.i64.wrap (i + (1 : Int))) b0f b1f
    (fun (i_1 : Nat) => bif i_1.beq (↑(byteAt text i.toNat).toNat : Int).toNat then true else b2f i_1) b3f res) ∧
  (decide (i < (↑text.size : Int)) = false → L6_1 b c text (IntKind.i64.wrap b) b0f b1f b2f b3f res)) :
    L6_0 b c text i b0f b1f b2f b3f res :=
  rule Go.Am.Seat.tabOk 6 [] Go.Proofs.Try.f6 hf6 [1, 1, 1, 1, 0, 1, 0, 0] (s6_0 b c text i b0f b1f b2f b3f) (m6_0 b c text i b0f b1f b2f b3f) res [] 400
    ((Orc.cut (nat_lit 7)
    (s6_0 b c text (IntKind.i64.wrap (i + (1 : Int))) b0f b1f
    (fun (i_1 : Nat) => bif i_1.beq (↑(byteAt text i.toNat).toNat : Int).toNat then true else b2f i_1) b3f)
    (m6_0 b c text (IntKind.i64.wrap (i + (1 : Int))) b0f b1f
    (fun (i_1 : Nat) => bif i_1.beq (↑(byteAt text i.toNat).toNat : Int).toNat then true else b2f i_1) b3f)
    [((1000 : Nat), some (1000 : Nat)), ((1001 : Nat), some (1001 : Nat)), ((1002 : Nat), some (1002 : Nat)), ((1003 : Nat), some (1003 : Nat))]).br
  (Orc.cut (nat_lit 6) (s6_1 b c text (IntKind.i64.wrap b) b0f b1f b2f b3f) (m6_1 b c text (IntKind.i64.wrap b) b0f b1f b2f b3f)
    [((1000 : Nat), some (1000 : Nat)), ((1001 : Nat), some (1001 : Nat)), ((1002 : Nat), some (1002 : Nat)), ((1003 : Nat), some (1003 : Nat))])) _ _ (by kernel_rfl) (by kernel_rfl) (show True ∧
  True ∧
    True ∧
    True ∧
    (decide (i < (↑text.size : Int)) = true →
    True ∧
    True ∧
    ((0 : Int) ≤ i ∧ i < (↑text.size : Int)) ∧
    ((0 : Int) ≤ (↑(byteAt text i.toNat).toNat : Int) ∧ (↑(byteAt text i.toNat).toNat : Int) < (↑(256 : Nat) : Int)) ∧
    ((↑(byteAt text i.toNat).toNat : Int).toNat * (1 : Nat) + (0 : Nat) =
    plus (0 : Nat) ((↑(byteAt text i.toNat).toNat : Int).toNat * (1 : Nat)) ∧
    ((↑(byteAt text i.toNat).toNat : Int).toNat < (256 : Nat) ∧ True) ∧ True) ∧
    True ∧
    True ∧
    True ∧
    ((True ∧
    Sub (AV.pt (1000 : Nat) [] (0 : Nat)) (AV.pt (1000 : Nat) [] (0 : Nat)) ∧
    True ∧
    Sub (AV.sc (Value.int IntKind.u8 b)) (AV.sc (Value.int IntKind.u8 b)) ∧
    True ∧
    Sub (AV.sc (Value.int IntKind.u8 c)) (AV.sc (Value.int IntKind.u8 c)) ∧
    True ∧
    Sub (AV.sc (Value.string text)) (AV.sc (Value.string text)) ∧
    True ∧
    Sub (AV.pt (1001 : Nat) [] (0 : Nat)) (AV.pt (1001 : Nat) [] (0 : Nat)) ∧
    True ∧
    Sub (AV.pt (1002 : Nat) [] (0 : Nat)) (AV.pt (1002 : Nat) [] (0 : Nat)) ∧
    True ∧
    Sub (AV.pt (1003 : Nat) [] (0 : Nat)) (AV.pt (1003 : Nat) [] (0 : Nat)) ∧
    True ∧
    Sub (AV.sc (Value.int IntKind.i64 (IntKind.i64.wrap (i + (1 : Int)))))
    (AV.sc (Value.int IntKind.i64 (IntKind.i64.wrap (i + (1 : Int))))) ∧
    True) ∧
    True ∧
    SubB (AV.ar (4 : Nat) (1 : Nat) fun (i0 : Nat) => AV.sc (Value.int IntKind.u64 (b0f i0)))
    (AV.ar (4 : Nat) (1 : Nat) fun (i0 : Nat) => AV.sc (Value.int IntKind.u64 (b0f i0))) ∧
    True ∧
    SubB (AV.ar (256 : Nat) (1 : Nat) fun (i0 : Nat) => AV.sc (Value.bool (b1f i0)))
    (AV.ar (256 : Nat) (1 : Nat) fun (i0 : Nat) => AV.sc (Value.bool (b1f i0))) ∧
    True ∧
    SubB
    (AV.ar (256 : Nat) (1 : Nat) fun (i_1 : Nat) =>
    AV.sc (Value.bool (bif i_1.beq (↑(byteAt text i.toNat).toNat : Int).toNat then true else b2f i_1)))
    (AV.ar (256 : Nat) (1 : Nat) fun (i0 : Nat) =>
    AV.sc (Value.bool (bif i0.beq (↑(byteAt text i.toNat).toNat : Int).toNat then true else b2f i0))) ∧
    True ∧
    SubB (AV.ar (256 : Nat) (1 : Nat) fun (i0 : Nat) => AV.sc (Value.bool (b3f i0)))
    (AV.ar (256 : Nat) (1 : Nat) fun (i0 : Nat) => AV.sc (Value.bool (b3f i0))) ∧
    True) ∧
    L6_0 b c text (IntKind.i64.wrap (i + (1 : Int))) b0f b1f
    (fun (i_1 : Nat) => bif i_1.beq (↑(byteAt text i.toNat).toNat : Int).toNat then true else b2f i_1) b3f res) ∧
    (decide (i < (↑text.size : Int)) = false →
    True ∧
    True ∧
    True ∧
    ((True ∧
    Sub (AV.pt (1000 : Nat) [] (0 : Nat)) (AV.pt (1000 : Nat) [] (0 : Nat)) ∧
    True ∧
    Sub (AV.sc (Value.int IntKind.u8 b)) (AV.sc (Value.int IntKind.u8 b)) ∧
    True ∧
    Sub (AV.sc (Value.int IntKind.u8 c)) (AV.sc (Value.int IntKind.u8 c)) ∧
    True ∧
    Sub (AV.sc (Value.string text)) (AV.sc (Value.string text)) ∧
    True ∧
    Sub (AV.pt (1001 : Nat) [] (0 : Nat)) (AV.pt (1001 : Nat) [] (0 : Nat)) ∧
    True ∧
    Sub (AV.pt (1002 : Nat) [] (0 : Nat)) (AV.pt (1002 : Nat) [] (0 : Nat)) ∧
    True ∧
    Sub (AV.pt (1003 : Nat) [] (0 : Nat)) (AV.pt (1003 : Nat) [] (0 : Nat)) ∧
    True ∧
    Sub (AV.sc (Value.int IntKind.i64 (IntKind.i64.wrap b)))
    (AV.sc (Value.int IntKind.i64 (IntKind.i64.wrap b))) ∧
    True) ∧
    True ∧
    SubB (AV.ar (4 : Nat) (1 : Nat) fun (i0 : Nat) => AV.sc (Value.int IntKind.u64 (b0f i0)))
    (AV.ar (4 : Nat) (1 : Nat) fun (i0 : Nat) => AV.sc (Value.int IntKind.u64 (b0f i0))) ∧
    True ∧
    SubB (AV.ar (256 : Nat) (1 : Nat) fun (i0 : Nat) => AV.sc (Value.bool (b1f i0)))
    (AV.ar (256 : Nat) (1 : Nat) fun (i0 : Nat) => AV.sc (Value.bool (b1f i0))) ∧
    True ∧
    SubB (AV.ar (256 : Nat) (1 : Nat) fun (i0 : Nat) => AV.sc (Value.bool (b2f i0)))
    (AV.ar (256 : Nat) (1 : Nat) fun (i0 : Nat) => AV.sc (Value.bool (b2f i0))) ∧
    True ∧
    SubB (AV.ar (256 : Nat) (1 : Nat) fun (i0 : Nat) => AV.sc (Value.bool (b3f i0)))
    (AV.ar (256 : Nat) (1 : Nat) fun (i0 : Nat) => AV.sc (Value.bool (b3f i0))) ∧
    True) ∧
    L6_1 b c text (IntKind.i64.wrap b) b0f b1f b2f b3f res) from
    ⟨trivial, ⟨trivial, ⟨trivial, ⟨trivial, (And.elim (fun h4 k4 => ⟨(fun x5 => (fun h5 => ⟨trivial, ⟨trivial, (And.elim (fun h8 k8 => ⟨(And.elim (fun h9 k9 => ⟨h9, k9⟩) h8), (And.elim (fun h9 k9 => ⟨(And.elim (fun h10 k10 => ⟨h10, k10⟩) h9), (And.elim (fun h10 k10 => ⟨⟨rfl, ((fun h12 => ⟨((fun h13 => ⟨h13, trivial⟩) h12), trivial⟩) h10)⟩, ⟨trivial, ⟨trivial, ⟨trivial, ⟨⟨⟨trivial, ⟨Sub.refl _, ⟨trivial, ⟨Sub.refl _, ⟨trivial, ⟨Sub.refl _, ⟨trivial, ⟨Sub.refl _, ⟨trivial, ⟨Sub.refl _, ⟨trivial, ⟨Sub.refl _, ⟨trivial, ⟨Sub.refl _, ⟨trivial, ⟨Sub.refl _, trivial⟩⟩⟩⟩⟩⟩⟩⟩⟩⟩⟩⟩⟩⟩⟩⟩, ⟨trivial, ⟨SubB.refl _, ⟨trivial, ⟨SubB.refl _, ⟨trivial, ⟨SubB.refl _, ⟨trivial, ⟨SubB.refl _, trivial⟩⟩⟩⟩⟩⟩⟩⟩⟩, k10⟩⟩⟩⟩⟩) k9)⟩) k8)⟩) h5)⟩⟩) (h4 x5)), (fun x5 => (fun h5 => ⟨trivial, ⟨trivial, ⟨trivial, ⟨⟨⟨trivial, ⟨Sub.refl _, ⟨trivial, ⟨Sub.refl _, ⟨trivial, ⟨Sub.refl _, ⟨trivial, ⟨Sub.refl _, ⟨trivial, ⟨Sub.refl _, ⟨trivial, ⟨Sub.refl _, ⟨trivial, ⟨Sub.refl _, ⟨trivial, ⟨Sub.refl _, trivial⟩⟩⟩⟩⟩⟩⟩⟩⟩⟩⟩⟩⟩⟩⟩⟩, ⟨trivial, ⟨SubB.refl _, ⟨trivial, ⟨SubB.refl _, ⟨trivial, ⟨SubB.refl _, ⟨trivial, ⟨SubB.refl _, trivial⟩⟩⟩⟩⟩⟩⟩⟩⟩, h5⟩⟩⟩⟩) (k4 x5))⟩) h)⟩⟩⟩⟩)
theorem r6_1 (b : Int) (c : Int) (text : ByteArray) (k : Int) (b0f : Nat → Int) (b1f : Nat → Bool) (b2f : Nat → Bool) (b3f : Nat → Bool) (res : AV)
    (h : (decide (k ≤ IntKind.i64.wrap c) = true →
    ((0 : Int) ≤ k ∧ k < (↑(256 : Nat) : Int)) ∧
    k.toNat < (256 : Nat) ∧ L6_1 b c text (IntKind.i64.wrap (k + (1 : Int))) b0f b1f b2f (fun (i : Nat) => bif i.beq k.toNat then true else b3f i) res) ∧
  (decide (k ≤ IntKind.i64.wrap c) = false →
    ∃ (r : Bool),
    Ok Proofs.Try.prog (15 : Nat) [AV.ar (4 : Nat) (1 : Nat) fun (i : Nat) => AV.sc (Value.int IntKind.u64 (b0f i)), AV.sc (Value.int IntKind.u8 b)] []
    (AV.sc (Value.bool r)) [] ∧
    ((0 : Int) ≤ b ∧ b < (↑(256 : Nat) : Int)) ∧
    b.toNat < (256 : Nat) ∧
    ((r == b1f b.toNat) = true →
    ∃ (r : Int),
    Ok Proofs.Try.prog (16 : Nat) [AV.ar (4 : Nat) (1 : Nat) fun (i : Nat) => AV.sc (Value.int IntKind.u64 (b0f i))] []
    (AV.sc (Value.int IntKind.i64 r)) [] ∧
    ∃ (r_1 : Int),
    Ok Proofs.Try.prog (19 : Nat) [AV.ar (256 : Nat) (1 : Nat) fun (i : Nat) => AV.sc (Value.bool (b1f i))] []
    (AV.sc (Value.int IntKind.i64 r_1)) [] ∧
    ((r == r_1) = true →
    ∃ (r : ByteArray),
    Ok Proofs.Try.prog (14 : Nat) [AV.ar (4 : Nat) (1 : Nat) fun (i : Nat) => AV.sc (Value.int IntKind.u64 (b0f i))] []
    (AV.sc (Value.string r)) [] ∧
    ∃ (r_2 : ByteArray),
    Ok Proofs.Try.prog (20 : Nat) [AV.ar (256 : Nat) (1 : Nat) fun (i : Nat) => AV.sc (Value.bool (b1f i))] []
    (AV.sc (Value.string r_2)) [] ∧
    ((r.toList == r_2.toList) = true →
    ∃ (r : Nat → Int),
    Ok Proofs.Try.prog (17 : Nat) [AV.sc (Value.string text)] []
    (AV.ar (4 : Nat) (1 : Nat) fun (i0 : Nat) => AV.sc (Value.int IntKind.u64 (r i0))) [] ∧
    ∃ (r_3 : Nat → Int),
    Ok Proofs.Try.prog (21 : Nat) [AV.ar (256 : Nat) (1 : Nat) fun (i : Nat) => AV.sc (Value.bool (b2f i))] []
    (AV.ar (4 : Nat) (1 : Nat) fun (i0 : Nat) => AV.sc (Value.int IntKind.u64 (r_3 i0))) [] ∧
    (∀ (i : Nat),
    i < (4 : Nat) →
    (AV.sc (Value.int IntKind.u64 (r i))).sz = (1 : Nat) ∧
    (AV.sc (Value.int IntKind.u64 (r_3 i))).sz = (1 : Nat)) ∧
    (cdec (∀ (i : Nat), i < (4 : Nat) → r i = r_3 i) = true →
    ∃ (r : Nat → Int),
    Ok Proofs.Try.prog (22 : Nat) [AV.sc (Value.int IntKind.u8 b), AV.sc (Value.int IntKind.u8 c)] []
    (AV.ar (4 : Nat) (1 : Nat) fun (i0 : Nat) => AV.sc (Value.int IntKind.u64 (r i0))) [] ∧
    ∃ (r_4 : Nat → Int),
    Ok Proofs.Try.prog (21 : Nat)
    [AV.ar (256 : Nat) (1 : Nat) fun (i : Nat) => AV.sc (Value.bool (b3f i))] []
    (AV.ar (4 : Nat) (1 : Nat) fun (i0 : Nat) => AV.sc (Value.int IntKind.u64 (r_4 i0))) [] ∧
    (∀ (i : Nat),
    i < (4 : Nat) →
    (AV.sc (Value.int IntKind.u64 (r i))).sz = (1 : Nat) ∧
    (AV.sc (Value.int IntKind.u64 (r_4 i))).sz = (1 : Nat)) ∧
    (cdec (∀ (i : Nat), i < (4 : Nat) → r i = r_4 i) = true →
    ∃ (r : Bool),
    Ok Proofs.Try.prog (12 : Nat) [] [] (AV.sc (Value.bool r)) [] ∧
    Sub (AV.sc (Value.bool r)) res) ∧
    (cdec (∀ (i : Nat), i < (4 : Nat) → r i = r_4 i) = !true →
    Sub (AV.sc (Value.bool false)) res)) ∧
    (cdec (∀ (i : Nat), i < (4 : Nat) → r i = r_3 i) = !true → Sub (AV.sc (Value.bool false)) res)) ∧
    ((r.toList == r_2.toList) = !true → Sub (AV.sc (Value.bool false)) res)) ∧
    ((r == r_1) = !true → Sub (AV.sc (Value.bool false)) res)) ∧
    ((r == b1f b.toNat) = !true → Sub (AV.sc (Value.bool false)) res))) :
    L6_1 b c text k b0f b1f b2f b3f res :=
  rule Go.Am.Seat.tabOk 6 [] Go.Proofs.Try.f6 hf6 [1, 1, 1, 1, 1, 0, 1, 0, 0] (s6_1 b c text k b0f b1f b2f b3f) (m6_1 b c text k b0f b1f b2f b3f) res [] 400
    ((Orc.cut (nat_lit 7) (s6_1 b c text (IntKind.i64.wrap (k + (1 : Int))) b0f b1f b2f fun (i : Nat) => bif i.beq k.toNat then true else b3f i)
    (m6_1 b c text (IntKind.i64.wrap (k + (1 : Int))) b0f b1f b2f fun (i : Nat) => bif i.beq k.toNat then true else b3f i)
    [((1000 : Nat), some (1000 : Nat)), ((1001 : Nat), some (1001 : Nat)), ((1002 : Nat), some (1002 : Nat)), ((1003 : Nat), some (1003 : Nat))]).br
  (Orc.call [] [] (fun (r15 : Bool) => AV.sc (Value.bool r15)) (fun (r15 : Bool) => []) fun (r15 : Bool) =>
    (Orc.call [] [] (fun (r16 : Int) => AV.sc (Value.int IntKind.i64 r16)) (fun (r16 : Int) => []) fun (r16 : Int) =>
    (Orc.call [] [] (fun (r19 : Int) => AV.sc (Value.int IntKind.i64 r19)) (fun (r19 : Int) => []) fun (r19 : Int) =>
    (Orc.ch Ch.none
    (Orc.ch (Ch.p true)
    ((Orc.call [] [] (fun (r14 : ByteArray) => AV.sc (Value.string r14)) (fun (r14 : ByteArray) => []) fun (r14 : ByteArray) =>
    (Orc.call [] [] (fun (r20 : ByteArray) => AV.sc (Value.string r20)) (fun (r20 : ByteArray) => []) fun (r20 : ByteArray) =>
    (Orc.ch Ch.none
    (Orc.ch (Ch.p true)
    ((Orc.call [] []
    (fun (r17 : Nat → Int) =>
    AV.ar (4 : Nat) (1 : Nat) fun (i0 : Nat) => AV.sc (Value.int IntKind.u64 (r17 i0)))
    (fun (r17 : Nat → Int) => []) fun (r17 : Nat → Int) =>
    (Orc.call [] []
    (fun (r21 : Nat → Int) =>
    AV.ar (4 : Nat) (1 : Nat) fun (i0 : Nat) => AV.sc (Value.int IntKind.u64 (r21 i0)))
    (fun (r21 : Nat → Int) => []) fun (r21 : Nat → Int) =>
    (Orc.ch Ch.none
    (Orc.ch (Ch.p true)
    ((Orc.call [] []
    (fun (r22 : Nat → Int) =>
    AV.ar (4 : Nat) (1 : Nat) fun (i0 : Nat) => AV.sc (Value.int IntKind.u64 (r22 i0)))
    (fun (r22 : Nat → Int) => []) fun (r22 : Nat → Int) =>
    (Orc.call [] []
    (fun (r21 : Nat → Int) =>
    AV.ar (4 : Nat) (1 : Nat) fun (i0 : Nat) =>
    AV.sc (Value.int IntKind.u64 (r21 i0)))
    (fun (r21 : Nat → Int) => []) fun (r21 : Nat → Int) =>
    (Orc.ch Ch.none
    (Orc.ch (Ch.p true)
    ((Orc.call [] [] (fun (r12 : Bool) => AV.sc (Value.bool r12))
    (fun (r12 : Bool) => []) fun (r12 : Bool) =>
    Orc.ch (Ch.p true) (Orc.fin (AV.sc (Value.bool r12)) [] [])).br
    (Orc.ch (Ch.p false)
    (Orc.fin (AV.sc (Value.bool false)) []
    []))))).yes).yes.yes).yes.yes.br
    (Orc.ch (Ch.p false)
    (Orc.ch (Ch.p false)
    (Orc.fin (AV.sc (Value.bool false)) []
    [])).no).no.no.no.no.no))).yes).yes.yes).yes.br
    (Orc.ch (Ch.p false)
    (Orc.ch (Ch.p false)
    (Orc.ch (Ch.p false)
    (Orc.fin (AV.sc (Value.bool false)) []
    [])).no).no.no.no.no.no.no).no.no.no.no))).yes).yes.yes).yes.br
    (Orc.ch (Ch.p false)
    (Orc.ch (Ch.p false)
    (Orc.ch (Ch.p false)
    (Orc.ch (Ch.p false)
    (Orc.fin (AV.sc (Value.bool false)) []
    [])).no).no.no.no.no.no.no).no.no.no.no.no).no.no.no.no))).yes).yes.yes).yes.br
    (Orc.ch (Ch.p false)
    (Orc.ch (Ch.p false)
    (Orc.ch (Ch.p false)
    (Orc.ch (Ch.p false)
    (Orc.ch (Ch.p false)
    (Orc.fin (AV.sc (Value.bool false)) []
    [])).no).no.no.no.no.no.no).no.no.no.no.no).no.no.no.no.no).no.no.no.no)) _ _ (by kernel_rfl) (by kernel_rfl) (show True ∧
  True ∧
    True ∧
    True ∧
    (decide (k ≤ IntKind.i64.wrap c) = true →
    True ∧
    ((0 : Int) ≤ k ∧ k < (↑(256 : Nat) : Int)) ∧
    (k.toNat * (1 : Nat) + (0 : Nat) = plus (0 : Nat) (k.toNat * (1 : Nat)) ∧ (k.toNat < (256 : Nat) ∧ True) ∧ True) ∧
    True ∧
    True ∧
    True ∧
    ((True ∧
    Sub (AV.pt (1000 : Nat) [] (0 : Nat)) (AV.pt (1000 : Nat) [] (0 : Nat)) ∧
    True ∧
    Sub (AV.sc (Value.int IntKind.u8 b)) (AV.sc (Value.int IntKind.u8 b)) ∧
    True ∧
    Sub (AV.sc (Value.int IntKind.u8 c)) (AV.sc (Value.int IntKind.u8 c)) ∧
    True ∧
    Sub (AV.sc (Value.string text)) (AV.sc (Value.string text)) ∧
    True ∧
    Sub (AV.pt (1001 : Nat) [] (0 : Nat)) (AV.pt (1001 : Nat) [] (0 : Nat)) ∧
    True ∧
    Sub (AV.pt (1002 : Nat) [] (0 : Nat)) (AV.pt (1002 : Nat) [] (0 : Nat)) ∧
    True ∧
    Sub (AV.pt (1003 : Nat) [] (0 : Nat)) (AV.pt (1003 : Nat) [] (0 : Nat)) ∧
    True ∧
    Sub (AV.sc (Value.int IntKind.i64 (IntKind.i64.wrap (k + (1 : Int)))))
    (AV.sc (Value.int IntKind.i64 (IntKind.i64.wrap (k + (1 : Int))))) ∧
    True) ∧
    True ∧
    SubB (AV.ar (4 : Nat) (1 : Nat) fun (i0 : Nat) => AV.sc (Value.int IntKind.u64 (b0f i0)))
    (AV.ar (4 : Nat) (1 : Nat) fun (i0 : Nat) => AV.sc (Value.int IntKind.u64 (b0f i0))) ∧
    True ∧
    SubB (AV.ar (256 : Nat) (1 : Nat) fun (i0 : Nat) => AV.sc (Value.bool (b1f i0)))
    (AV.ar (256 : Nat) (1 : Nat) fun (i0 : Nat) => AV.sc (Value.bool (b1f i0))) ∧
    True ∧
    SubB (AV.ar (256 : Nat) (1 : Nat) fun (i0 : Nat) => AV.sc (Value.bool (b2f i0)))
    (AV.ar (256 : Nat) (1 : Nat) fun (i0 : Nat) => AV.sc (Value.bool (b2f i0))) ∧
    True ∧
    SubB (AV.ar (256 : Nat) (1 : Nat) fun (i : Nat) => AV.sc (Value.bool (bif i.beq k.toNat then true else b3f i)))
    (AV.ar (256 : Nat) (1 : Nat) fun (i0 : Nat) => AV.sc (Value.bool (bif i0.beq k.toNat then true else b3f i0))) ∧
    True) ∧
    L6_1 b c text (IntKind.i64.wrap (k + (1 : Int))) b0f b1f b2f (fun (i : Nat) => bif i.beq k.toNat then true else b3f i) res) ∧
    (decide (k ≤ IntKind.i64.wrap c) = false →
    ((0 : Nat) = (0 : Nat) ∧ True) ∧
    True ∧
    ∃ (r : Bool),
    ((True ∧ True ∧ True) ∧
    True ∧
    Ok Proofs.Try.prog (15 : Nat)
    [AV.ar (4 : Nat) (1 : Nat) fun (i : Nat) => AV.sc (Value.int IntKind.u64 (b0f i)), AV.sc (Value.int IntKind.u8 b)] []
    (AV.sc (Value.bool r)) []) ∧
    True ∧
    ((0 : Int) ≤ b ∧ b < (↑(256 : Nat) : Int)) ∧
    (b.toNat * (1 : Nat) + (0 : Nat) = plus (0 : Nat) (b.toNat * (1 : Nat)) ∧ b.toNat < (256 : Nat) ∧ True) ∧
    True ∧
    True ∧
    ((r == b1f b.toNat) = true →
    ((0 : Nat) = (0 : Nat) ∧ True) ∧
    (r == b1f b.toNat) = true ∧
    ∃ (r_1 : Int),
    ((True ∧ True) ∧
    True ∧
    Ok Proofs.Try.prog (16 : Nat) [AV.ar (4 : Nat) (1 : Nat) fun (i : Nat) => AV.sc (Value.int IntKind.u64 (b0f i))]
    [] (AV.sc (Value.int IntKind.i64 r_1)) []) ∧
    (r == b1f b.toNat) = true ∧
    ((0 : Nat) = (0 : Nat) ∧ True) ∧
    (r == b1f b.toNat) = true ∧
    ∃ (r_2 : Int),
    ((True ∧ True) ∧
    True ∧
    Ok Proofs.Try.prog (19 : Nat) [AV.ar (256 : Nat) (1 : Nat) fun (i : Nat) => AV.sc (Value.bool (b1f i))]
    [] (AV.sc (Value.int IntKind.i64 r_2)) []) ∧
    (r == b1f b.toNat) = true ∧
    True ∧
    (r == b1f b.toNat) = true ∧
    True ∧
    ((r_1 == r_2) = true →
    ((0 : Nat) = (0 : Nat) ∧ True) ∧
    (r_1 == r_2) = true ∧
    ∃ (r : ByteArray),
    ((True ∧ True) ∧
    True ∧
    Ok Proofs.Try.prog (14 : Nat)
    [AV.ar (4 : Nat) (1 : Nat) fun (i : Nat) => AV.sc (Value.int IntKind.u64 (b0f i))]
    [] (AV.sc (Value.string r)) []) ∧
    (r_1 == r_2) = true ∧
    ((0 : Nat) = (0 : Nat) ∧ True) ∧
    (r_1 == r_2) = true ∧
    ∃ (r_3 : ByteArray),
    ((True ∧ True) ∧
    True ∧
    Ok Proofs.Try.prog (20 : Nat)
    [AV.ar (256 : Nat) (1 : Nat) fun (i : Nat) =>
    AV.sc (Value.bool (b1f i))]
    [] (AV.sc (Value.string r_3)) []) ∧
    (r_1 == r_2) = true ∧
    True ∧
    (r_1 == r_2) = true ∧
    True ∧
    ((r.toList == r_3.toList) = true →
    True ∧
    (r.toList == r_3.toList) = true ∧
    ∃ (r_4 : Nat → Int),
    ((True ∧ True) ∧
    True ∧
    Ok Proofs.Try.prog (17 : Nat)
    [AV.sc (Value.string text)] []
    (AV.ar (4 : Nat) (1 : Nat) fun (i0 : Nat) =>
    AV.sc (Value.int IntKind.u64 (r_4 i0)))
    []) ∧
    (r.toList == r_3.toList) = true ∧
    ((0 : Nat) = (0 : Nat) ∧ True) ∧
    (r.toList == r_3.toList) = true ∧
    ∃ (r_5 : Nat → Int),
    ((True ∧ True) ∧
    True ∧
    Ok Proofs.Try.prog (21 : Nat)
    [AV.ar (256 : Nat) (1 : Nat)
    fun (i : Nat) =>
    AV.sc (Value.bool (b2f i))]
    []
    (AV.ar (4 : Nat) (1 : Nat)
    fun (i0 : Nat) =>
    AV.sc (Value.int IntKind.u64 (r_5 i0)))
    []) ∧
    (r.toList == r_3.toList) = true ∧
    (∀ (i : Nat),
    i < (4 : Nat) →
    (AV.sc
    (Value.int IntKind.u64
    (r_4 i))).sz =
    (1 : Nat) ∧
    (AV.sc
    (Value.int IntKind.u64
    (r_5 i))).sz =
    (1 : Nat) ∧
    false = false ∧
    false = false ∧ True) ∧
    (r.toList == r_3.toList) = true ∧
    True ∧
    (cdec
    (∀ (i : Nat),
    i < (4 : Nat) →
    r_4 i = r_5 i) =
    true →
    True ∧
    cdec
    (∀ (i : Nat),
    i < (4 : Nat) →
    r_4 i = r_5 i) =
    true ∧
    True ∧
    cdec
    (∀ (i : Nat),
    i < (4 : Nat) →
    r_4 i = r_5 i) =
    true ∧
    ∃ (r : Nat → Int),
    ((True ∧ True ∧ True) ∧
    True ∧
    Ok Proofs.Try.prog
    (22 : Nat)
    [AV.sc
    (Value.int
    IntKind.u8
    b),
    AV.sc
    (Value.int
    IntKind.u8
    c)]
    []
    (AV.ar (4 : Nat)
    (1 : Nat)
    fun
    (i0 : Nat) =>
    AV.sc
    (Value.int
    IntKind.u64
    (r i0)))
    []) ∧
    cdec
    (∀ (i : Nat),
    i < (4 : Nat) →
    r_4 i =
    r_5 i) =
    true ∧
    ((0 : Nat) =
    (0 : Nat) ∧
    True) ∧
    cdec
    (∀ (i : Nat),
    i <
    (4 :
    Nat) →
    r_4 i =
    r_5 i) =
    true ∧
    ∃ (r_6 :
    Nat → Int),
    ((True ∧ True) ∧
    True ∧
    Ok
    Proofs.Try.prog
    (21 :
    Nat)
    [AV.ar
    (256 :
    Nat)
    (1 :
    Nat)
    fun
    (i :
    Nat) =>
    AV.sc
    (Value.bool
    (b3f
    i))]
    []
    (AV.ar
    (4 :
    Nat)
    (1 :
    Nat)
    fun
    (i0 :
    Nat) =>
    AV.sc
    (Value.int
    IntKind.u64
    (r_6
    i0)))
    []) ∧
    cdec
    (∀
    (i :
    Nat),
    i <
    (4 :
    Nat) →
    r_4
    i =
    r_5
    i) =
    true ∧
    (∀
    (i :
    Nat),
    i <
    (4 :
    Nat) →
    (AV.sc
    (Value.int
    IntKind.u64
    (r
    i))).sz =
    (1 :
    Nat) ∧
    (AV.sc
    (Value.int
    IntKind.u64
    (r_6
    i))).sz =
    (1 :
    Nat) ∧
    false =
    false ∧
    false =
    false ∧
    True) ∧
    cdec
    (∀
    (i :
    Nat),
    i <
    (4 :
    Nat) →
    r_4
    i =
    r_5
    i) =
    true ∧
    True ∧
    (cdec
    (∀
    (i :
    Nat),
    i <
    (4 :
    Nat) →
    r
    i =
    r_6
    i) =
    true →
    ∃
    (r_7
    :
    Bool),
    (True ∧
    True ∧
    Ok
    Proofs.Try.prog
    (12 :
    Nat)
    []
    []
    (AV.sc
    (Value.bool
    r_7))
    []) ∧
    cdec
    (∀
    (i :
    Nat),
    i <
    (4 :
    Nat) →
    r
    i =
    r_6
    i) =
    true ∧
    True ∧
    True ∧
    ((True ∧
    Sub
    (AV.sc
    (Value.bool
    r_7))
    (AV.sc
    (Value.bool
    r_7)) ∧
    True) ∧
    True) ∧
    Sub
    (AV.sc
    (Value.bool
    r_7))
    res ∧
    SubOut
    []
    []) ∧
    (cdec
    (∀
    (i :
    Nat),
    i <
    (4 :
    Nat) →
    r
    i =
    r_6
    i) =
    !true →
    true =
    true ∧
    cdec
    (∀
    (i :
    Nat),
    i <
    (4 :
    Nat) →
    r
    i =
    r_6
    i) =
    false ∧
    True ∧
    True ∧
    ((True ∧
    Sub
    (AV.sc
    (Value.bool
    false))
    (AV.sc
    (Value.bool
    false)) ∧
    True) ∧
    True) ∧
    Sub
    (AV.sc
    (Value.bool
    false))
    res ∧
    SubOut
    []
    [])) ∧
    (cdec
    (∀ (i : Nat),
    i < (4 : Nat) →
    r_4 i = r_5 i) =
    !true →
    true = true ∧
    cdec
    (∀ (i : Nat),
    i < (4 : Nat) →
    r_4 i = r_5 i) =
    !true ∧
    true = true ∧
    cdec
    (∀ (i : Nat),
    i < (4 : Nat) →
    r_4 i = r_5 i) =
    !true ∧
    true = true ∧
    cdec
    (∀ (i : Nat),
    i < (4 : Nat) →
    r_4 i = r_5 i) =
    !true ∧
    true = true ∧
    cdec
    (∀ (i : Nat),
    i <
    (4 :
    Nat) →
    r_4 i =
    r_5 i) =
    !true ∧
    true = true ∧
    cdec
    (∀
    (i : Nat),
    i <
    (4 :
    Nat) →
    r_4 i =
    r_5
    i) =
    !true ∧
    true = true ∧
    cdec
    (∀
    (i :
    Nat),
    i <
    (4 :
    Nat) →
    r_4
    i =
    r_5
    i) =
    false ∧
    True ∧
    false =
    !true ∧
    true =
    true ∧
    false =
    false ∧
    True ∧
    True ∧
    ((True ∧
    Sub
    (AV.sc
    (Value.bool
    false))
    (AV.sc
    (Value.bool
    false)) ∧
    True) ∧
    True) ∧
    Sub
    (AV.sc
    (Value.bool
    false))
    res ∧
    SubOut
    []
    [])) ∧
    ((r.toList == r_3.toList) = !true →
    true = true ∧
    (r.toList == r_3.toList) = !true ∧
    true = true ∧
    (r.toList == r_3.toList) = !true ∧
    true = true ∧
    (r.toList == r_3.toList) = !true ∧
    true = true ∧
    (r.toList == r_3.toList) = !true ∧
    true = true ∧
    (r.toList == r_3.toList) = false ∧
    True ∧
    false = !true ∧
    true = true ∧
    false = !true ∧
    true = true ∧
    false = !true ∧
    true = true ∧
    false = !true ∧
    true = true ∧
    false = !true ∧
    true = true ∧
    false = !true ∧
    true = true ∧
    false = false ∧
    True ∧
    false = !true ∧
    true = true ∧
    false =
    false ∧
    True ∧
    True ∧
    ((True ∧
    Sub
    (AV.sc
    (Value.bool
    false))
    (AV.sc
    (Value.bool
    false)) ∧
    True) ∧
    True) ∧
    Sub
    (AV.sc
    (Value.bool
    false))
    res ∧
    SubOut
    []
    [])) ∧
    ((r_1 == r_2) = !true →
    true = true ∧
    (r_1 == r_2) = !true ∧
    true = true ∧
    (r_1 == r_2) = !true ∧
    true = true ∧
    (r_1 == r_2) = !true ∧
    true = true ∧
    (r_1 == r_2) = !true ∧
    true = true ∧
    (r_1 == r_2) = false ∧
    True ∧
    false = !true ∧
    true = true ∧
    false = !true ∧
    true = true ∧
    false = !true ∧
    true = true ∧
    false = !true ∧
    true = true ∧
    false = !true ∧
    true = true ∧
    false = false ∧
    True ∧
    false = !true ∧
    true = true ∧
    false = !true ∧
    true = true ∧
    false = !true ∧
    true = true ∧
    false = !true ∧
    true = true ∧
    false = !true ∧
    true = true ∧
    false = !true ∧
    true = true ∧
    false = false ∧
    True ∧
    false = !true ∧
    true = true ∧
    false = false ∧
    True ∧
    True ∧
    ((True ∧
    Sub
    (AV.sc
    (Value.bool
    false))
    (AV.sc
    (Value.bool
    false)) ∧
    True) ∧
    True) ∧
    Sub
    (AV.sc
    (Value.bool
    false))
    res ∧
    SubOut
    []
    [])) ∧
    ((r == b1f b.toNat) = !true →
    true = true ∧
    (r == b1f b.toNat) = !true ∧
    true = true ∧
    (r == b1f b.toNat) = !true ∧
    true = true ∧
    (r == b1f b.toNat) = !true ∧
    true = true ∧
    (r == b1f b.toNat) = !true ∧
    true = true ∧
    (r == b1f b.toNat) = false ∧
    True ∧
    false = !true ∧
    true = true ∧
    false = !true ∧
    true = true ∧
    false = !true ∧
    true = true ∧
    false = !true ∧
    true = true ∧
    false = !true ∧
    true = true ∧
    false = false ∧
    True ∧
    false = !true ∧
    true = true ∧
    false = !true ∧
    true = true ∧
    false = !true ∧
    true = true ∧
    false = !true ∧
    true = true ∧
    false = !true ∧
    true = true ∧
    false = false ∧
    True ∧
    false = !true ∧
    true = true ∧
    false = !true ∧
    true = true ∧
    false = !true ∧
    true = true ∧
    false = !true ∧
    true = true ∧
    false = !true ∧
    true = true ∧
    false = !true ∧
    true = true ∧
    false = false ∧
    True ∧
    false = !true ∧
    true = true ∧
    false = false ∧
    True ∧
    True ∧
    ((True ∧
    Sub
    (AV.sc
    (Value.bool
    false))
    (AV.sc
    (Value.bool
    false)) ∧
    True) ∧
    True) ∧
    Sub
    (AV.sc
    (Value.bool
    false))
    res ∧
    SubOut [] [])) from
    ⟨trivial, ⟨trivial, ⟨trivial, ⟨trivial, (And.elim (fun h4 k4 => ⟨(fun x5 => (fun h5 => ⟨trivial, (And.elim (fun h7 k7 => ⟨(And.elim (fun h8 k8 => ⟨h8, k8⟩) h7), (And.elim (fun h8 k8 => ⟨⟨rfl, ((fun h10 => ⟨((fun h11 => ⟨h11, trivial⟩) h10), trivial⟩) h8)⟩, ⟨trivial, ⟨trivial, ⟨trivial, ⟨⟨⟨trivial, ⟨Sub.refl _, ⟨trivial, ⟨Sub.refl _, ⟨trivial, ⟨Sub.refl _, ⟨trivial, ⟨Sub.refl _, ⟨trivial, ⟨Sub.refl _, ⟨trivial, ⟨Sub.refl _, ⟨trivial, ⟨Sub.refl _, ⟨trivial, ⟨Sub.refl _, trivial⟩⟩⟩⟩⟩⟩⟩⟩⟩⟩⟩⟩⟩⟩⟩⟩, ⟨trivial, ⟨SubB.refl _, ⟨trivial, ⟨SubB.refl _, ⟨trivial, ⟨SubB.refl _, ⟨trivial, ⟨SubB.refl _, trivial⟩⟩⟩⟩⟩⟩⟩⟩⟩, k8⟩⟩⟩⟩⟩) k7)⟩) h5)⟩) (h4 x5)), (fun x5 => (fun h5 => ⟨⟨rfl, trivial⟩, ⟨trivial, (Exists.elim h5 fun x8 h8 => ⟨x8, (And.elim (fun h9 k9 => ⟨⟨⟨trivial, ⟨trivial, trivial⟩⟩, ⟨trivial, h9⟩⟩, ⟨trivial, (And.elim (fun h11 k11 => ⟨(And.elim (fun h12 k12 => ⟨h12, k12⟩) h11), (And.elim (fun h12 k12 => ⟨⟨rfl, ((fun h14 => ⟨h14, trivial⟩) h12)⟩, ⟨trivial, ⟨trivial, (And.elim (fun h15 k15 => ⟨(fun x16 => (fun h16 => ⟨⟨rfl, trivial⟩, ⟨x16, (Exists.elim h16 fun x19 h19 => ⟨x19, (And.elim (fun h20 k20 => ⟨⟨⟨trivial, trivial⟩, ⟨trivial, h20⟩⟩, ⟨x16, ⟨⟨rfl, trivial⟩, ⟨x16, (Exists.elim k20 fun x24 h24 => ⟨x24, (And.elim (fun h25 k25 => ⟨⟨⟨trivial, trivial⟩, ⟨trivial, h25⟩⟩, ⟨x16, ⟨trivial, ⟨x16, ⟨trivial, (And.elim (fun h30 k30 => ⟨(fun x31 => (fun h31 => ⟨⟨rfl, trivial⟩, ⟨x31, (Exists.elim h31 fun x34 h34 => ⟨x34, (And.elim (fun h35 k35 => ⟨⟨⟨trivial, trivial⟩, ⟨trivial, h35⟩⟩, ⟨x31, ⟨⟨rfl, trivial⟩, ⟨x31, (Exists.elim k35 fun x39 h39 => ⟨x39, (And.elim (fun h40 k40 => ⟨⟨⟨trivial, trivial⟩, ⟨trivial, h40⟩⟩, ⟨x31, ⟨trivial, ⟨x31, ⟨trivial, (And.elim (fun h45 k45 => ⟨(fun x46 => (fun h46 => ⟨trivial, ⟨x46, (Exists.elim h46 fun x49 h49 => ⟨x49, (And.elim (fun h50 k50 => ⟨⟨⟨trivial, trivial⟩, ⟨trivial, h50⟩⟩, ⟨x46, ⟨⟨rfl, trivial⟩, ⟨x46, (Exists.elim k50 fun x54 h54 => ⟨x54, (And.elim (fun h55 k55 => ⟨⟨⟨trivial, trivial⟩, ⟨trivial, h55⟩⟩, ⟨x46, (And.elim (fun h57 k57 => ⟨(fun x58 => (fun h58 => (fun x59 => (fun h59 => (And.elim (fun h60 k60 => ⟨h60, ((fun h61 => ⟨h61, ⟨rfl, ⟨rfl, trivial⟩⟩⟩) k60)⟩) h59)) (h58 x59))) (h57 x58)), ⟨x46, ⟨trivial, (And.elim (fun h60 k60 => ⟨(fun x61 => (fun h61 => ⟨trivial, ⟨x61, ⟨trivial, ⟨x61, (Exists.elim h61 fun x66 h66 => ⟨x66, (And.elim (fun h67 k67 => ⟨⟨⟨trivial, ⟨trivial, trivial⟩⟩, ⟨trivial, h67⟩⟩, ⟨x61, ⟨⟨rfl, trivial⟩, ⟨x61, (Exists.elim k67 fun x71 h71 => ⟨x71, (And.elim (fun h72 k72 => ⟨⟨⟨trivial, trivial⟩, ⟨trivial, h72⟩⟩, ⟨x61, (And.elim (fun h74 k74 => ⟨(fun x75 => (fun h75 => (fun x76 => (fun h76 => (And.elim (fun h77 k77 => ⟨h77, ((fun h78 => ⟨h78, ⟨rfl, ⟨rfl, trivial⟩⟩⟩) k77)⟩) h76)) (h75 x76))) (h74 x75)), ⟨x61, ⟨trivial, (And.elim (fun h77 k77 => ⟨(fun x78 => (fun h78 => (Exists.elim h78 fun x79 h79 => ⟨x79, (And.elim (fun h80 k80 => ⟨⟨trivial, ⟨trivial, h80⟩⟩, ⟨x78, ⟨trivial, ⟨trivial, ⟨⟨⟨trivial, ⟨Sub.refl _, trivial⟩⟩, trivial⟩, ((fun h85 => ⟨h85, trivial⟩) k80)⟩⟩⟩⟩⟩) h79)⟩)) (h77 x78)), (fun x78 => (fun h78 => ⟨rfl, ⟨x78, ⟨trivial, ⟨trivial, ⟨⟨⟨trivial, ⟨Sub.refl _, trivial⟩⟩, trivial⟩, ((fun h84 => ⟨h84, trivial⟩) h78)⟩⟩⟩⟩⟩) (k77 x78))⟩) k74)⟩⟩⟩) k72)⟩⟩) h71)⟩)⟩⟩⟩⟩) h66)⟩)⟩⟩⟩⟩) (h60 x61)), (fun x61 => (fun h61 => ⟨rfl, ⟨x61, ⟨rfl, ⟨x61, ⟨rfl, ⟨x61, ⟨rfl, ⟨x61, ⟨rfl, ⟨x61, ⟨rfl, ⟨x61, ⟨trivial, ⟨rfl, ⟨rfl, ⟨rfl, ⟨trivial, ⟨trivial, ⟨⟨⟨trivial, ⟨Sub.refl _, trivial⟩⟩, trivial⟩, ((fun h81 => ⟨h81, trivial⟩) h61)⟩⟩⟩⟩⟩⟩⟩⟩⟩⟩⟩⟩⟩⟩⟩⟩⟩⟩⟩) (k60 x61))⟩) k57)⟩⟩⟩) k55)⟩⟩) h54)⟩)⟩⟩⟩⟩) h49)⟩)⟩⟩) (h45 x46)), (fun x46 => (fun h46 => ⟨rfl, ⟨x46, ⟨rfl, ⟨x46, ⟨rfl, ⟨x46, ⟨rfl, ⟨x46, ⟨rfl, ⟨x46, ⟨trivial, ⟨rfl, ⟨rfl, ⟨rfl, ⟨rfl, ⟨rfl, ⟨rfl, ⟨rfl, ⟨rfl, ⟨rfl, ⟨rfl, ⟨rfl, ⟨rfl, ⟨rfl, ⟨trivial, ⟨rfl, ⟨rfl, ⟨rfl, ⟨trivial, ⟨trivial, ⟨⟨⟨trivial, ⟨Sub.refl _, trivial⟩⟩, trivial⟩, ((fun h78 => ⟨h78, trivial⟩) h46)⟩⟩⟩⟩⟩⟩⟩⟩⟩⟩⟩⟩⟩⟩⟩⟩⟩⟩⟩⟩⟩⟩⟩⟩⟩⟩⟩⟩⟩⟩⟩) (k45 x46))⟩) k40)⟩⟩⟩⟩⟩) h39)⟩)⟩⟩⟩⟩) h34)⟩)⟩⟩) (h30 x31)), (fun x31 => (fun h31 => ⟨rfl, ⟨x31, ⟨rfl, ⟨x31, ⟨rfl, ⟨x31, ⟨rfl, ⟨x31, ⟨rfl, ⟨x31, ⟨trivial, ⟨rfl, ⟨rfl, ⟨rfl, ⟨rfl, ⟨rfl, ⟨rfl, ⟨rfl, ⟨rfl, ⟨rfl, ⟨rfl, ⟨rfl, ⟨trivial, ⟨rfl, ⟨rfl, ⟨rfl, ⟨rfl, ⟨rfl, ⟨rfl, ⟨rfl, ⟨rfl, ⟨rfl, ⟨rfl, ⟨rfl, ⟨rfl, ⟨rfl, ⟨trivial, ⟨rfl, ⟨rfl, ⟨rfl, ⟨trivial, ⟨trivial, ⟨⟨⟨trivial, ⟨Sub.refl _, trivial⟩⟩, trivial⟩, ((fun h75 => ⟨h75, trivial⟩) h31)⟩⟩⟩⟩⟩⟩⟩⟩⟩⟩⟩⟩⟩⟩⟩⟩⟩⟩⟩⟩⟩⟩⟩⟩⟩⟩⟩⟩⟩⟩⟩⟩⟩⟩⟩⟩⟩⟩⟩⟩⟩⟩⟩) (k30 x31))⟩) k25)⟩⟩⟩⟩⟩) h24)⟩)⟩⟩⟩⟩) h19)⟩)⟩⟩) (h15 x16)), (fun x16 => (fun h16 => ⟨rfl, ⟨x16, ⟨rfl, ⟨x16, ⟨rfl, ⟨x16, ⟨rfl, ⟨x16, ⟨rfl, ⟨x16, ⟨trivial, ⟨rfl, ⟨rfl, ⟨rfl, ⟨rfl, ⟨rfl, ⟨rfl, ⟨rfl, ⟨rfl, ⟨rfl, ⟨rfl, ⟨rfl, ⟨trivial, ⟨rfl, ⟨rfl, ⟨rfl, ⟨rfl, ⟨rfl, ⟨rfl, ⟨rfl, ⟨rfl, ⟨rfl, ⟨rfl, ⟨rfl, ⟨trivial, ⟨rfl, ⟨rfl, ⟨rfl, ⟨rfl, ⟨rfl, ⟨rfl, ⟨rfl, ⟨rfl, ⟨rfl, ⟨rfl, ⟨rfl, ⟨rfl, ⟨rfl, ⟨trivial, ⟨rfl, ⟨rfl, ⟨rfl, ⟨trivial, ⟨trivial, ⟨⟨⟨trivial, ⟨Sub.refl _, trivial⟩⟩, trivial⟩, ((fun h72 => ⟨h72, trivial⟩) h16)⟩⟩⟩⟩⟩⟩⟩⟩⟩⟩⟩⟩⟩⟩⟩⟩⟩⟩⟩⟩⟩⟩⟩⟩⟩⟩⟩⟩⟩⟩⟩⟩⟩⟩⟩⟩⟩⟩⟩⟩⟩⟩⟩⟩⟩⟩⟩⟩⟩⟩⟩⟩⟩⟩⟩) (k15 x16))⟩) k12)⟩⟩⟩) k11)⟩) k9)⟩⟩) h8)⟩)⟩⟩) (k4 x5))⟩) h)⟩⟩⟩⟩)
theorem hf7 : Go.Proofs.Try.prog.funcs[7]? = some Go.Proofs.Try.f7 := by kernel_rfl
abbrev s7_e (sf : Nat → Int) (tf : Nat → Int) : List (Nat × AV) := [(0, (.ar 4 1 (fun i0 => (.sc (.int .u64 (sf i0)))))), (1, (.ar 4 1 (fun i0 => (.sc (.int .u64 (tf i0))))))]
abbrev m7_e (sf : Nat → Int) (tf : Nat → Int) : List (Nat × Nat × AV) := []
def L7_e (sf : Nat → Int) (tf : Nat → Int) (res : AV) : Prop := Goes ⟨Go.Proofs.Try.prog, 7, [], res, []⟩ (place Go.Proofs.Try.f7 []) (s7_e sf tf) (m7_e sf tf)
theorem a7_e (sf : Nat → Int) (tf : Nat → Int) (res : AV) (h : (∀ slot, fact (look .undef (s7_e sf tf) slot)) → L7_e sf tf res) : L7_e sf tf res :=
  assumeRule 7 [] Go.Proofs.Try.f7 hf7 [] (s7_e sf tf) (m7_e sf tf) res [] _ (by kernel_rfl) h
abbrev s7_0 (b : Int) (b0f : Nat → Int) (b1f : Nat → Int) (b2f : Nat → Bool) (b3f : Nat → Bool) (b4f : Nat → Bool) (b5f : Nat → Bool) (b6f : Nat → Bool) : List (Nat × AV) := [(2, (.pt 1000 [] 0)), (3, (.pt 1001 [] 0)), (5, (.pt 1002 [] 0)), (6, (.pt 1003 [] 0)), (7, (.pt 1004 [] 0)), (8, (.pt 1005 [] 0)), (9, (.pt 1006 [] 0)), (10, (.sc (.int .i64 b)))]
abbrev m7_0 (b : Int) (b0f : Nat → Int) (b1f : Nat → Int) (b2f : Nat → Bool) (b3f : Nat → Bool) (b4f : Nat → Bool) (b5f : Nat → Bool) (b6f : Nat → Bool) : List (Nat × Nat × AV) := [(1000, 24, (.ar 4 1 (fun i0 => (.sc (.int .u64 (b0f i0)))))), (1001, 24, (.ar 4 1 (fun i0 => (.sc (.int .u64 (b1f i0)))))), (1002, 38, (.ar 256 1 (fun i0 => (.sc (.bool (b2f i0)))))), (1003, 38, (.ar 256 1 (fun i0 => (.sc (.bool (b3f i0)))))), (1004, 38, (.ar 256 1 (fun i0 => (.sc (.bool (b4f i0)))))), (1005, 38, (.ar 256 1 (fun i0 => (.sc (.bool (b5f i0)))))), (1006, 38, (.ar 256 1 (fun i0 => (.sc (.bool (b6f i0))))))]
def L7_0 (b : Int) (b0f : Nat → Int) (b1f : Nat → Int) (b2f : Nat → Bool) (b3f : Nat → Bool) (b4f : Nat → Bool) (b5f : Nat → Bool) (b6f : Nat → Bool) (res : AV) : Prop := Goes ⟨Go.Proofs.Try.prog, 7, [], res, []⟩ (place Go.Proofs.Try.f7 [1, 1, 1, 0, 1, 0, 0]) (s7_0 b b0f b1f b2f b3f b4f b5f b6f) (m7_0 b b0f b1f b2f b3f b4f b5f b6f)
theorem a7_0 (b : Int) (b0f : Nat → Int) (b1f : Nat → Int) (b2f : Nat → Bool) (b3f : Nat → Bool) (b4f : Nat → Bool) (b5f : Nat → Bool) (b6f : Nat → Bool) (res : AV) (h : (∀ slot, fact (look .undef (s7_0 b b0f b1f b2f b3f b4f b5f b6f) slot)) → L7_0 b b0f b1f b2f b3f b4f b5f b6f res) : L7_0 b b0f b1f b2f b3f b4f b5f b6f res :=
  assumeRule 7 [] Go.Proofs.Try.f7 hf7 [1, 1, 1, 0, 1, 0, 0] (s7_0 b b0f b1f b2f b3f b4f b5f b6f) (m7_0 b b0f b1f b2f b3f b4f b5f b6f) res [] _ (by kernel_rfl) h
theorem o7 (sf : Nat → Int) (tf : Nat → Int) (res : AV) (hnew : newOnly res) (h : L7_e sf tf res) : Ok Go.Proofs.Try.prog 7 [(.ar 4 1 (fun i0 => (.sc (.int .u64 (sf i0))))), (.ar 4 1 (fun i0 => (.sc (.int .u64 (tf i0)))))] [] res [] :=
  okRule2 7 Go.Proofs.Try.f7 hf7 [(.ar 4 1 (fun i0 => (.sc (.int .u64 (sf i0))))), (.ar 4 1 (fun i0 => (.sc (.int .u64 (tf i0)))))] [] res [] [] rfl (by kernel_rfl) (by kernel_rfl) (by kernel_rfl) ⟨hnew, by simp⟩ (L7_e sf tf res) (by kernel_rfl) h
theorem r7_e (sf : Nat → Int) (tf : Nat → Int) (res : AV)
    (h : ∃ (r : Nat → Bool),
  Ok Proofs.Try.prog (18 : Nat) [AV.ar (4 : Nat) (1 : Nat) fun (i : Nat) => AV.sc (Value.int IntKind.u64 (sf i))] []
    (AV.ar (256 : Nat) (1 : Nat) fun (i0 : Nat) => AV.sc (Value.bool (r i0))) [] ∧
    ∃ (r_1 : Nat → Bool),
    Ok Proofs.Try.prog (18 : Nat) [AV.ar (4 : Nat) (1 : Nat) fun (i : Nat) => AV.sc (Value.int IntKind.u64 (tf i))] []
    (AV.ar (256 : Nat) (1 : Nat) fun (i0 : Nat) => AV.sc (Value.bool (r_1 i0))) [] ∧
    L7_0 (0 : Int) sf tf r r_1 (fun (x : Nat) => false) (fun (x : Nat) => false) (fun (x : Nat) => false) res) :
    L7_e sf tf res :=
  rule Go.Am.Seat.tabOk 7 [] Go.Proofs.Try.f7 hf7 [] (s7_e sf tf) (m7_e sf tf) res [] 400
    (Orc.call [] [] (fun (r18 : Nat → Bool) => AV.ar (256 : Nat) (1 : Nat) fun (i0 : Nat) => AV.sc (Value.bool (r18 i0))) (fun (r18 : Nat → Bool) => [])
  fun (r18 : Nat → Bool) =>
  Orc.call [] [] (fun (r18 : Nat → Bool) => AV.ar (256 : Nat) (1 : Nat) fun (i0 : Nat) => AV.sc (Value.bool (r18 i0))) (fun (r18 : Nat → Bool) => [])
    fun (r18_1 : Nat → Bool) =>
    Orc.cut (nat_lit 7) (s7_0 (0 : Int) sf tf r18 r18_1 (fun (x : Nat) => false) (fun (x : Nat) => false) fun (x : Nat) => false)
    (m7_0 (0 : Int) sf tf r18 r18_1 (fun (x : Nat) => false) (fun (x : Nat) => false) fun (x : Nat) => false)
    [((1000 : Nat), some (2 : Nat)), ((1001 : Nat), some (3 : Nat)), ((1002 : Nat), some (5 : Nat)), ((1003 : Nat), some (6 : Nat)),
    ((1004 : Nat), some (7 : Nat)), ((1005 : Nat), some (8 : Nat)), ((1006 : Nat), some (9 : Nat))]) _ _ (by kernel_rfl) (by kernel_rfl) (show True ∧
  True ∧
    True ∧
    ((0 : Nat) = (0 : Nat) ∧ True) ∧
    ∃ (r : Nat → Bool),
    ((True ∧ True) ∧
    True ∧
    Ok Proofs.Try.prog (18 : Nat) [AV.ar (4 : Nat) (1 : Nat) fun (i : Nat) => AV.sc (Value.int IntKind.u64 (sf i))] []
    (AV.ar (256 : Nat) (1 : Nat) fun (i0 : Nat) => AV.sc (Value.bool (r i0))) []) ∧
    ((0 : Nat) = (0 : Nat) ∧ True) ∧
    ∃ (r_1 : Nat → Bool),
    ((True ∧ True) ∧
    True ∧
    Ok Proofs.Try.prog (18 : Nat) [AV.ar (4 : Nat) (1 : Nat) fun (i : Nat) => AV.sc (Value.int IntKind.u64 (tf i))] []
    (AV.ar (256 : Nat) (1 : Nat) fun (i0 : Nat) => AV.sc (Value.bool (r_1 i0))) []) ∧
    True ∧
    True ∧
    ((0 : Nat) = (0 : Nat) ∧ True) ∧
    ((0 : Nat) = (0 : Nat) ∧ True) ∧
    True ∧
    True ∧
    True ∧
    True ∧
    ((True ∧
    Sub (AV.pt (1000 : Nat) [] (0 : Nat)) (AV.pt (1000 : Nat) [] (0 : Nat)) ∧
    True ∧
    Sub (AV.pt (1001 : Nat) [] (0 : Nat)) (AV.pt (1001 : Nat) [] (0 : Nat)) ∧
    True ∧
    Sub (AV.pt (1002 : Nat) [] (0 : Nat)) (AV.pt (1002 : Nat) [] (0 : Nat)) ∧
    True ∧
    Sub (AV.pt (1003 : Nat) [] (0 : Nat)) (AV.pt (1003 : Nat) [] (0 : Nat)) ∧
    True ∧
    Sub (AV.pt (1004 : Nat) [] (0 : Nat)) (AV.pt (1004 : Nat) [] (0 : Nat)) ∧
    True ∧
    Sub (AV.pt (1005 : Nat) [] (0 : Nat)) (AV.pt (1005 : Nat) [] (0 : Nat)) ∧
    True ∧
    Sub (AV.pt (1006 : Nat) [] (0 : Nat)) (AV.pt (1006 : Nat) [] (0 : Nat)) ∧
    True ∧
    Sub (AV.sc (Value.int IntKind.i64 (0 : Int))) (AV.sc (Value.int IntKind.i64 (0 : Int))) ∧
    True) ∧
    True ∧
    SubB (AV.ar (4 : Nat) (1 : Nat) fun (i0 : Nat) => AV.sc (Value.int IntKind.u64 (sf i0)))
    (AV.ar (4 : Nat) (1 : Nat) fun (i0 : Nat) => AV.sc (Value.int IntKind.u64 (sf i0))) ∧
    True ∧
    SubB (AV.ar (4 : Nat) (1 : Nat) fun (i0 : Nat) => AV.sc (Value.int IntKind.u64 (tf i0)))
    (AV.ar (4 : Nat) (1 : Nat) fun (i0 : Nat) => AV.sc (Value.int IntKind.u64 (tf i0))) ∧
    True ∧
    SubB (AV.ar (256 : Nat) (1 : Nat) fun (i0 : Nat) => AV.sc (Value.bool (r i0)))
    (AV.ar (256 : Nat) (1 : Nat) fun (i0 : Nat) => AV.sc (Value.bool (r i0))) ∧
    True ∧
    SubB (AV.ar (256 : Nat) (1 : Nat) fun (i0 : Nat) => AV.sc (Value.bool (r_1 i0)))
    (AV.ar (256 : Nat) (1 : Nat) fun (i0 : Nat) => AV.sc (Value.bool (r_1 i0))) ∧
    True ∧
    SubB (AV.ar (256 : Nat) (1 : Nat) fun (x : Nat) => AV.sc (Value.bool false))
    (AV.ar (256 : Nat) (1 : Nat) fun (i0 : Nat) => AV.sc (Value.bool false)) ∧
    True ∧
    SubB (AV.ar (256 : Nat) (1 : Nat) fun (x : Nat) => AV.sc (Value.bool false))
    (AV.ar (256 : Nat) (1 : Nat) fun (i0 : Nat) => AV.sc (Value.bool false)) ∧
    True ∧
    SubB (AV.ar (256 : Nat) (1 : Nat) fun (x : Nat) => AV.sc (Value.bool false))
    (AV.ar (256 : Nat) (1 : Nat) fun (i0 : Nat) => AV.sc (Value.bool false)) ∧
    True) ∧
    L7_0 (0 : Int) sf tf r r_1 (fun (x : Nat) => false) (fun (x : Nat) => false) (fun (x : Nat) => false) res from
    ⟨trivial, ⟨trivial, ⟨trivial, ⟨⟨rfl, trivial⟩, (Exists.elim h fun x4 h4 => ⟨x4, (And.elim (fun h5 k5 => ⟨⟨⟨trivial, trivial⟩, ⟨trivial, h5⟩⟩, ⟨⟨rfl, trivial⟩, (Exists.elim k5 fun x7 h7 => ⟨x7, (And.elim (fun h8 k8 => ⟨⟨⟨trivial, trivial⟩, ⟨trivial, h8⟩⟩, ⟨trivial, ⟨trivial, ⟨⟨rfl, trivial⟩, ⟨⟨rfl, trivial⟩, ⟨trivial, ⟨trivial, ⟨trivial, ⟨trivial, ⟨⟨⟨trivial, ⟨Sub.refl _, ⟨trivial, ⟨Sub.refl _, ⟨trivial, ⟨Sub.refl _, ⟨trivial, ⟨Sub.refl _, ⟨trivial, ⟨Sub.refl _, ⟨trivial, ⟨Sub.refl _, ⟨trivial, ⟨Sub.refl _, ⟨trivial, ⟨Sub.refl _, trivial⟩⟩⟩⟩⟩⟩⟩⟩⟩⟩⟩⟩⟩⟩⟩⟩, ⟨trivial, ⟨SubB.refl _, ⟨trivial, ⟨SubB.refl _, ⟨trivial, ⟨SubB.refl _, ⟨trivial, ⟨SubB.refl _, ⟨trivial, ⟨SubB.refl _, ⟨trivial, ⟨SubB.refl _, ⟨trivial, ⟨SubB.refl _, trivial⟩⟩⟩⟩⟩⟩⟩⟩⟩⟩⟩⟩⟩⟩⟩, k8⟩⟩⟩⟩⟩⟩⟩⟩⟩⟩) h7)⟩)⟩⟩) h4)⟩)⟩⟩⟩⟩)
theorem r7_0 (b : Int) (b0f : Nat → Int) (b1f : Nat → Int) (b2f : Nat → Bool) (b3f : Nat → Bool) (b4f : Nat → Bool) (b5f : Nat → Bool) (b6f : Nat → Bool) (res : AV)
    (h : (decide (b < (256 : Int)) = true →
    ((0 : Int) ≤ b ∧ b < (↑(256 : Nat) : Int)) ∧
    b.toNat < (256 : Nat) ∧
    (b2f b.toNat = false →
    (b2f b.toNat = true →
    L7_0 (IntKind.i64.wrap (b + (1 : Int))) b0f b1f b2f b3f (fun (i : Nat) => bif i.beq b.toNat then b3f b.toNat else b4f i)
    (fun (i : Nat) => bif i.beq b.toNat then b3f b.toNat else b5f i) (fun (i : Nat) => bif i.beq b.toNat then !b2f b.toNat else b6f i) res) ∧
    (b2f b.toNat = !true →
    L7_0 (IntKind.i64.wrap (b + (1 : Int))) b0f b1f b2f b3f (fun (i : Nat) => bif i.beq b.toNat then b3f b.toNat else b4f i)
    (fun (i : Nat) => bif i.beq b.toNat then false else b5f i) (fun (i : Nat) => bif i.beq b.toNat then !b2f b.toNat else b6f i) res)) ∧
    (b2f b.toNat = !false →
    (b2f b.toNat = true →
    L7_0 (IntKind.i64.wrap (b + (1 : Int))) b0f b1f b2f b3f (fun (i : Nat) => bif i.beq b.toNat then true else b4f i)
    (fun (i : Nat) => bif i.beq b.toNat then b3f b.toNat else b5f i) (fun (i : Nat) => bif i.beq b.toNat then !b2f b.toNat else b6f i) res) ∧
    (b2f b.toNat = !true →
    L7_0 (IntKind.i64.wrap (b + (1 : Int))) b0f b1f b2f b3f (fun (i : Nat) => bif i.beq b.toNat then true else b4f i)
    (fun (i : Nat) => bif i.beq b.toNat then false else b5f i) (fun (i : Nat) => bif i.beq b.toNat then !b2f b.toNat else b6f i) res))) ∧
  (decide (b < (256 : Int)) = false →
    ∃ (r : Nat → Int),
    Ok Proofs.Try.prog (23 : Nat)
    [AV.ar (4 : Nat) (1 : Nat) fun (i : Nat) => AV.sc (Value.int IntKind.u64 (b0f i)),
    AV.ar (4 : Nat) (1 : Nat) fun (i : Nat) => AV.sc (Value.int IntKind.u64 (b1f i))]
    [] (AV.ar (4 : Nat) (1 : Nat) fun (i0 : Nat) => AV.sc (Value.int IntKind.u64 (r i0))) [] ∧
    ∃ (r_1 : Nat → Int),
    Ok Proofs.Try.prog (21 : Nat) [AV.ar (256 : Nat) (1 : Nat) fun (i : Nat) => AV.sc (Value.bool (b4f i))] []
    (AV.ar (4 : Nat) (1 : Nat) fun (i0 : Nat) => AV.sc (Value.int IntKind.u64 (r_1 i0))) [] ∧
    (∀ (i : Nat), i < (4 : Nat) → (AV.sc (Value.int IntKind.u64 (r i))).sz = (1 : Nat) ∧ (AV.sc (Value.int IntKind.u64 (r_1 i))).sz = (1 : Nat)) ∧
    (cdec (∀ (i : Nat), i < (4 : Nat) → r i = r_1 i) = true →
    ∃ (r : Nat → Int),
    Ok Proofs.Try.prog (24 : Nat)
    [AV.ar (4 : Nat) (1 : Nat) fun (i : Nat) => AV.sc (Value.int IntKind.u64 (b0f i)),
    AV.ar (4 : Nat) (1 : Nat) fun (i : Nat) => AV.sc (Value.int IntKind.u64 (b1f i))]
    [] (AV.ar (4 : Nat) (1 : Nat) fun (i0 : Nat) => AV.sc (Value.int IntKind.u64 (r i0))) [] ∧
    ∃ (r_2 : Nat → Int),
    Ok Proofs.Try.prog (21 : Nat) [AV.ar (256 : Nat) (1 : Nat) fun (i : Nat) => AV.sc (Value.bool (b5f i))] []
    (AV.ar (4 : Nat) (1 : Nat) fun (i0 : Nat) => AV.sc (Value.int IntKind.u64 (r_2 i0))) [] ∧
    (∀ (i : Nat),
    i < (4 : Nat) → (AV.sc (Value.int IntKind.u64 (r i))).sz = (1 : Nat) ∧ (AV.sc (Value.int IntKind.u64 (r_2 i))).sz = (1 : Nat)) ∧
    (cdec (∀ (i : Nat), i < (4 : Nat) → r i = r_2 i) = true →
    ∃ (r : Nat → Int),
    Ok Proofs.Try.prog (25 : Nat) [AV.ar (4 : Nat) (1 : Nat) fun (i : Nat) => AV.sc (Value.int IntKind.u64 (b0f i))] []
    (AV.ar (4 : Nat) (1 : Nat) fun (i0 : Nat) => AV.sc (Value.int IntKind.u64 (r i0))) [] ∧
    ∃ (r_3 : Nat → Int),
    Ok Proofs.Try.prog (21 : Nat) [AV.ar (256 : Nat) (1 : Nat) fun (i : Nat) => AV.sc (Value.bool (b6f i))] []
    (AV.ar (4 : Nat) (1 : Nat) fun (i0 : Nat) => AV.sc (Value.int IntKind.u64 (r_3 i0))) [] ∧
    (∀ (i : Nat),
    i < (4 : Nat) →
    (AV.sc (Value.int IntKind.u64 (r i))).sz = (1 : Nat) ∧ (AV.sc (Value.int IntKind.u64 (r_3 i))).sz = (1 : Nat)) ∧
    (cdec (∀ (i : Nat), i < (4 : Nat) → r i = r_3 i) = true →
    ∃ (r : Bool), Ok Proofs.Try.prog (12 : Nat) [] [] (AV.sc (Value.bool r)) [] ∧ Sub (AV.sc (Value.bool r)) res) ∧
    (cdec (∀ (i : Nat), i < (4 : Nat) → r i = r_3 i) = !true → Sub (AV.sc (Value.bool false)) res)) ∧
    (cdec (∀ (i : Nat), i < (4 : Nat) → r i = r_2 i) = !true → Sub (AV.sc (Value.bool false)) res)) ∧
    (cdec (∀ (i : Nat), i < (4 : Nat) → r i = r_1 i) = !true → Sub (AV.sc (Value.bool false)) res))) :
    L7_0 b b0f b1f b2f b3f b4f b5f b6f res :=
  rule Go.Am.Seat.tabOk 7 [] Go.Proofs.Try.f7 hf7 [1, 1, 1, 0, 1, 0, 0] (s7_0 b b0f b1f b2f b3f b4f b5f b6f) (m7_0 b b0f b1f b2f b3f b4f b5f b6f) res [] 400
    ((((Orc.cut (nat_lit 4)
    (s7_0 (IntKind.i64.wrap (b + (1 : Int))) b0f b1f b2f b3f
    (fun (i : Nat) => bif i.beq b.toNat then bif false then true else b3f b.toNat else b4f i)
    (fun (i : Nat) => bif i.beq b.toNat then bif true then b3f b.toNat else false else b5f i) fun (i : Nat) =>
    bif i.beq b.toNat then !b2f b.toNat else b6f i)
    (m7_0 (IntKind.i64.wrap (b + (1 : Int))) b0f b1f b2f b3f
    (fun (i : Nat) => bif i.beq b.toNat then bif false then true else b3f b.toNat else b4f i)
    (fun (i : Nat) => bif i.beq b.toNat then bif true then b3f b.toNat else false else b5f i) fun (i : Nat) =>
    bif i.beq b.toNat then !b2f b.toNat else b6f i)
    [((1000 : Nat), some (1000 : Nat)), ((1001 : Nat), some (1001 : Nat)), ((1002 : Nat), some (1002 : Nat)),
    ((1003 : Nat), some (1003 : Nat)), ((1004 : Nat), some (1004 : Nat)), ((1005 : Nat), some (1005 : Nat)),
    ((1006 : Nat), some (1006 : Nat))]).yes.yes.br
    (Orc.cut (nat_lit 4)
    (s7_0 (IntKind.i64.wrap (b + (1 : Int))) b0f b1f b2f b3f
    (fun (i : Nat) => bif i.beq b.toNat then bif false then true else b3f b.toNat else b4f i)
    (fun (i : Nat) => bif i.beq b.toNat then false else b5f i) fun (i : Nat) => bif i.beq b.toNat then !b2f b.toNat else b6f i)
    (m7_0 (IntKind.i64.wrap (b + (1 : Int))) b0f b1f b2f b3f
    (fun (i : Nat) => bif i.beq b.toNat then bif false then true else b3f b.toNat else b4f i)
    (fun (i : Nat) => bif i.beq b.toNat then false else b5f i) fun (i : Nat) => bif i.beq b.toNat then !b2f b.toNat else b6f i)
    [((1000 : Nat), some (1000 : Nat)), ((1001 : Nat), some (1001 : Nat)), ((1002 : Nat), some (1002 : Nat)), ((1003 : Nat), some (1003 : Nat)),
    ((1004 : Nat), some (1004 : Nat)), ((1005 : Nat), some (1005 : Nat)), ((1006 : Nat), some (1006 : Nat))]).no.no).yes.yes.br
    ((Orc.cut (nat_lit 4)
    (s7_0 (IntKind.i64.wrap (b + (1 : Int))) b0f b1f b2f b3f (fun (i : Nat) => bif i.beq b.toNat then true else b4f i)
    (fun (i : Nat) => bif i.beq b.toNat then bif true then b3f b.toNat else false else b5f i) fun (i : Nat) =>
    bif i.beq b.toNat then !b2f b.toNat else b6f i)
    (m7_0 (IntKind.i64.wrap (b + (1 : Int))) b0f b1f b2f b3f (fun (i : Nat) => bif i.beq b.toNat then true else b4f i)
    (fun (i : Nat) => bif i.beq b.toNat then bif true then b3f b.toNat else false else b5f i) fun (i : Nat) =>
    bif i.beq b.toNat then !b2f b.toNat else b6f i)
    [((1000 : Nat), some (1000 : Nat)), ((1001 : Nat), some (1001 : Nat)), ((1002 : Nat), some (1002 : Nat)), ((1003 : Nat), some (1003 : Nat)),
    ((1004 : Nat), some (1004 : Nat)), ((1005 : Nat), some (1005 : Nat)), ((1006 : Nat), some (1006 : Nat))]).yes.yes.br
    (Orc.cut (nat_lit 4)
    (s7_0 (IntKind.i64.wrap (b + (1 : Int))) b0f b1f b2f b3f (fun (i : Nat) => bif i.beq b.toNat then true else b4f i)
    (fun (i : Nat) => bif i.beq b.toNat then false else b5f i) fun (i : Nat) => bif i.beq b.toNat then !b2f b.toNat else b6f i)
    (m7_0 (IntKind.i64.wrap (b + (1 : Int))) b0f b1f b2f b3f (fun (i : Nat) => bif i.beq b.toNat then true else b4f i)
    (fun (i : Nat) => bif i.beq b.toNat then false else b5f i) fun (i : Nat) => bif i.beq b.toNat then !b2f b.toNat else b6f i)
    [((1000 : Nat), some (1000 : Nat)), ((1001 : Nat), some (1001 : Nat)), ((1002 : Nat), some (1002 : Nat)), ((1003 : Nat), some (1003 : Nat)),
    ((1004 : Nat), some (1004 : Nat)), ((1005 : Nat), some (1005 : Nat)), ((1006 : Nat), some (1006 : Nat))]).no.no).no.no).br
  (Orc.call [] [] (fun (r23 : Nat → Int) => AV.ar (4 : Nat) (1 : Nat) fun (i0 : Nat) => AV.sc (Value.int IntKind.u64 (r23 i0))) (fun (r23 : Nat → Int) => [])
    fun (r23 : Nat → Int) =>
    Orc.call [] [] (fun (r21 : Nat → Int) => AV.ar (4 : Nat) (1 : Nat) fun (i0 : Nat) => AV.sc (Value.int IntKind.u64 (r21 i0))) (fun (r21 : Nat → Int) => [])
    fun (r21 : Nat → Int) =>
    (Orc.call [] [] (fun (r24 : Nat → Int) => AV.ar (4 : Nat) (1 : Nat) fun (i0 : Nat) => AV.sc (Value.int IntKind.u64 (r24 i0)))
    (fun (r24 : Nat → Int) => []) fun (r24 : Nat → Int) =>
    (Orc.call [] [] (fun (r21 : Nat → Int) => AV.ar (4 : Nat) (1 : Nat) fun (i0 : Nat) => AV.sc (Value.int IntKind.u64 (r21 i0)))
    (fun (r21 : Nat → Int) => []) fun (r21 : Nat → Int) =>
    (Orc.ch Ch.none
    (Orc.ch (Ch.p true)
    ((Orc.call [] [] (fun (r25 : Nat → Int) => AV.ar (4 : Nat) (1 : Nat) fun (i0 : Nat) => AV.sc (Value.int IntKind.u64 (r25 i0)))
    (fun (r25 : Nat → Int) => []) fun (r25 : Nat → Int) =>
    (Orc.call [] []
    (fun (r21 : Nat → Int) => AV.ar (4 : Nat) (1 : Nat) fun (i0 : Nat) => AV.sc (Value.int IntKind.u64 (r21 i0)))
    (fun (r21 : Nat → Int) => []) fun (r21 : Nat → Int) =>
    (Orc.ch Ch.none
    (Orc.ch (Ch.p true)
    ((Orc.call [] [] (fun (r12 : Bool) => AV.sc (Value.bool r12)) (fun (r12 : Bool) => []) fun (r12 : Bool) =>
    Orc.ch (Ch.p true) (Orc.fin (AV.sc (Value.bool r12)) [] [])).br
    (Orc.ch (Ch.p false) (Orc.fin (AV.sc (Value.bool false)) [] []))))).yes).yes.yes).yes.br
    (Orc.ch (Ch.p false) (Orc.ch (Ch.p false) (Orc.fin (AV.sc (Value.bool false)) [] [])).no).no.no.no.no))).yes).yes.yes).yes.yes.br
    (Orc.ch (Ch.p false) (Orc.ch (Ch.p false) (Orc.ch (Ch.p false) (Orc.fin (AV.sc (Value.bool false)) [] [])).no).no.no.no.no.no).no.no.no.no.no)) _ _ (by kernel_rfl) (by kernel_rfl) (show True ∧
  True ∧
    (decide (b < (256 : Int)) = true →
    True ∧
    True ∧
    ((0 : Int) ≤ b ∧ b < (↑(256 : Nat) : Int)) ∧
    (b.toNat * (1 : Nat) + (0 : Nat) = plus (0 : Nat) (b.toNat * (1 : Nat)) ∧ b.toNat < (256 : Nat) ∧ True) ∧
    True ∧
    (b2f b.toNat = false →
    True ∧
    false = false ∧
    ((0 : Int) ≤ b ∧ b < (↑(256 : Nat) : Int)) ∧
    false = false ∧
    (b.toNat * (1 : Nat) + (0 : Nat) = plus (0 : Nat) (b.toNat * (1 : Nat)) ∧ b.toNat < (256 : Nat) ∧ True) ∧
    True ∧
    ((0 : Int) ≤ b ∧ b < (↑(256 : Nat) : Int)) ∧
    (b.toNat * (1 : Nat) + (0 : Nat) = plus (0 : Nat) (b.toNat * (1 : Nat)) ∧ (b.toNat < (256 : Nat) ∧ True) ∧ True) ∧
    True ∧
    True ∧
    ((0 : Int) ≤ b ∧ b < (↑(256 : Nat) : Int)) ∧
    (b.toNat * (1 : Nat) + (0 : Nat) = plus (0 : Nat) (b.toNat * (1 : Nat)) ∧ b.toNat < (256 : Nat) ∧ True) ∧
    True ∧
    (b2f b.toNat = true →
    True ∧
    true = true ∧
    ((0 : Int) ≤ b ∧ b < (↑(256 : Nat) : Int)) ∧
    true = true ∧
    (b.toNat * (1 : Nat) + (0 : Nat) = plus (0 : Nat) (b.toNat * (1 : Nat)) ∧
    b.toNat < (256 : Nat) ∧ True) ∧
    True ∧
    ((0 : Int) ≤ b ∧ b < (↑(256 : Nat) : Int)) ∧
    (b.toNat * (1 : Nat) + (0 : Nat) = plus (0 : Nat) (b.toNat * (1 : Nat)) ∧
    (b.toNat < (256 : Nat) ∧ True) ∧ True) ∧
    True ∧
    True ∧
    ((0 : Int) ≤ b ∧ b < (↑(256 : Nat) : Int)) ∧
    (b.toNat * (1 : Nat) + (0 : Nat) = plus (0 : Nat) (b.toNat * (1 : Nat)) ∧
    b.toNat < (256 : Nat) ∧ True) ∧
    True ∧
    ((0 : Int) ≤ b ∧ b < (↑(256 : Nat) : Int)) ∧
    (b.toNat * (1 : Nat) + (0 : Nat) = plus (0 : Nat) (b.toNat * (1 : Nat)) ∧
    (b.toNat < (256 : Nat) ∧ True) ∧ True) ∧
    True ∧
    True ∧
    True ∧
    ((True ∧
    Sub (AV.pt (1000 : Nat) [] (0 : Nat))
    (AV.pt (1000 : Nat) [] (0 : Nat)) ∧
    True ∧
    Sub (AV.pt (1001 : Nat) [] (0 : Nat))
    (AV.pt (1001 : Nat) [] (0 : Nat)) ∧
    True ∧
    Sub (AV.pt (1002 : Nat) [] (0 : Nat))
    (AV.pt (1002 : Nat) [] (0 : Nat)) ∧
    True ∧
    Sub (AV.pt (1003 : Nat) [] (0 : Nat))
    (AV.pt (1003 : Nat) [] (0 : Nat)) ∧
    True ∧
    Sub (AV.pt (1004 : Nat) [] (0 : Nat))
    (AV.pt (1004 : Nat) [] (0 : Nat)) ∧
    True ∧
    Sub (AV.pt (1005 : Nat) [] (0 : Nat))
    (AV.pt (1005 : Nat) [] (0 : Nat)) ∧
    True ∧
    Sub (AV.pt (1006 : Nat) [] (0 : Nat))
    (AV.pt (1006 : Nat) [] (0 : Nat)) ∧
    True ∧
    Sub
    (AV.sc
    (Value.int IntKind.i64
    (IntKind.i64.wrap
    (b + (1 : Int)))))
    (AV.sc
    (Value.int IntKind.i64
    (IntKind.i64.wrap
    (b + (1 : Int))))) ∧
    True) ∧
    True ∧
    SubB
    (AV.ar (4 : Nat) (1 : Nat) fun (i0 : Nat) =>
    AV.sc (Value.int IntKind.u64 (b0f i0)))
    (AV.ar (4 : Nat) (1 : Nat) fun (i0 : Nat) =>
    AV.sc (Value.int IntKind.u64 (b0f i0))) ∧
    True ∧
    SubB
    (AV.ar (4 : Nat) (1 : Nat) fun (i0 : Nat) =>
    AV.sc (Value.int IntKind.u64 (b1f i0)))
    (AV.ar (4 : Nat) (1 : Nat) fun (i0 : Nat) =>
    AV.sc (Value.int IntKind.u64 (b1f i0))) ∧
    True ∧
    SubB
    (AV.ar (256 : Nat) (1 : Nat) fun (i0 : Nat) =>
    AV.sc (Value.bool (b2f i0)))
    (AV.ar (256 : Nat) (1 : Nat) fun (i0 : Nat) =>
    AV.sc (Value.bool (b2f i0))) ∧
    True ∧
    SubB
    (AV.ar (256 : Nat) (1 : Nat) fun (i0 : Nat) =>
    AV.sc (Value.bool (b3f i0)))
    (AV.ar (256 : Nat) (1 : Nat) fun (i0 : Nat) =>
    AV.sc (Value.bool (b3f i0))) ∧
    True ∧
    SubB
    (AV.ar (256 : Nat) (1 : Nat) fun (i : Nat) =>
    AV.sc
    (Value.bool
    (bif i.beq b.toNat then b3f b.toNat
    else b4f i)))
    (AV.ar (256 : Nat) (1 : Nat) fun (i0 : Nat) =>
    AV.sc
    (Value.bool
    (bif i0.beq b.toNat then b3f b.toNat
    else b4f i0))) ∧
    True ∧
    SubB
    (AV.ar (256 : Nat) (1 : Nat)
    fun (i : Nat) =>
    AV.sc
    (Value.bool
    (bif i.beq b.toNat then b3f b.toNat
    else b5f i)))
    (AV.ar (256 : Nat) (1 : Nat)
    fun (i0 : Nat) =>
    AV.sc
    (Value.bool
    (bif i0.beq b.toNat then b3f b.toNat
    else b5f i0))) ∧
    True ∧
    SubB
    (AV.ar (256 : Nat) (1 : Nat)
    fun (i : Nat) =>
    AV.sc
    (Value.bool
    (bif i.beq b.toNat then
    !b2f b.toNat
    else b6f i)))
    (AV.ar (256 : Nat) (1 : Nat)
    fun (i0 : Nat) =>
    AV.sc
    (Value.bool
    (bif i0.beq b.toNat then
    !b2f b.toNat
    else b6f i0))) ∧
    True) ∧
    L7_0 (IntKind.i64.wrap (b + (1 : Int))) b0f b1f b2f b3f
    (fun (i : Nat) => bif i.beq b.toNat then b3f b.toNat else b4f i)
    (fun (i : Nat) => bif i.beq b.toNat then b3f b.toNat else b5f i)
    (fun (i : Nat) => bif i.beq b.toNat then !b2f b.toNat else b6f i)
    res) ∧
    (b2f b.toNat = !true →
    true = true ∧
    (!true) = !true ∧
    true = true ∧
    (!true) = !true ∧
    true = true ∧
    True ∧
    ((0 : Int) ≤ b ∧ b < (↑(256 : Nat) : Int)) ∧
    (b.toNat * (1 : Nat) + (0 : Nat) = plus (0 : Nat) (b.toNat * (1 : Nat)) ∧
    (b.toNat < (256 : Nat) ∧ True) ∧ True) ∧
    True ∧
    True ∧
    ((0 : Int) ≤ b ∧ b < (↑(256 : Nat) : Int)) ∧
    (b.toNat * (1 : Nat) + (0 : Nat) = plus (0 : Nat) (b.toNat * (1 : Nat)) ∧
    b.toNat < (256 : Nat) ∧ True) ∧
    True ∧
    ((0 : Int) ≤ b ∧ b < (↑(256 : Nat) : Int)) ∧
    (b.toNat * (1 : Nat) + (0 : Nat) = plus (0 : Nat) (b.toNat * (1 : Nat)) ∧
    (b.toNat < (256 : Nat) ∧ True) ∧ True) ∧
    True ∧
    True ∧
    True ∧
    ((True ∧
    Sub (AV.pt (1000 : Nat) [] (0 : Nat))
    (AV.pt (1000 : Nat) [] (0 : Nat)) ∧
    True ∧
    Sub (AV.pt (1001 : Nat) [] (0 : Nat))
    (AV.pt (1001 : Nat) [] (0 : Nat)) ∧
    True ∧
    Sub (AV.pt (1002 : Nat) [] (0 : Nat))
    (AV.pt (1002 : Nat) [] (0 : Nat)) ∧
    True ∧
    Sub (AV.pt (1003 : Nat) [] (0 : Nat))
    (AV.pt (1003 : Nat) [] (0 : Nat)) ∧
    True ∧
    Sub (AV.pt (1004 : Nat) [] (0 : Nat))
    (AV.pt (1004 : Nat) [] (0 : Nat)) ∧
    True ∧
    Sub (AV.pt (1005 : Nat) [] (0 : Nat))
    (AV.pt (1005 : Nat) [] (0 : Nat)) ∧
    True ∧
    Sub (AV.pt (1006 : Nat) [] (0 : Nat))
    (AV.pt (1006 : Nat) [] (0 : Nat)) ∧
    True ∧
    Sub
    (AV.sc
    (Value.int IntKind.i64
    (IntKind.i64.wrap
    (b + (1 : Int)))))
    (AV.sc
    (Value.int IntKind.i64
    (IntKind.i64.wrap
    (b + (1 : Int))))) ∧
    True) ∧
    True ∧
    SubB
    (AV.ar (4 : Nat) (1 : Nat) fun (i0 : Nat) =>
    AV.sc (Value.int IntKind.u64 (b0f i0)))
    (AV.ar (4 : Nat) (1 : Nat) fun (i0 : Nat) =>
    AV.sc (Value.int IntKind.u64 (b0f i0))) ∧
    True ∧
    SubB
    (AV.ar (4 : Nat) (1 : Nat) fun (i0 : Nat) =>
    AV.sc (Value.int IntKind.u64 (b1f i0)))
    (AV.ar (4 : Nat) (1 : Nat) fun (i0 : Nat) =>
    AV.sc (Value.int IntKind.u64 (b1f i0))) ∧
    True ∧
    SubB
    (AV.ar (256 : Nat) (1 : Nat) fun (i0 : Nat) =>
    AV.sc (Value.bool (b2f i0)))
    (AV.ar (256 : Nat) (1 : Nat) fun (i0 : Nat) =>
    AV.sc (Value.bool (b2f i0))) ∧
    True ∧
    SubB
    (AV.ar (256 : Nat) (1 : Nat) fun (i0 : Nat) =>
    AV.sc (Value.bool (b3f i0)))
    (AV.ar (256 : Nat) (1 : Nat) fun (i0 : Nat) =>
    AV.sc (Value.bool (b3f i0))) ∧
    True ∧
    SubB
    (AV.ar (256 : Nat) (1 : Nat) fun (i : Nat) =>
    AV.sc
    (Value.bool
    (bif i.beq b.toNat then b3f b.toNat
    else b4f i)))
    (AV.ar (256 : Nat) (1 : Nat) fun (i0 : Nat) =>
    AV.sc
    (Value.bool
    (bif i0.beq b.toNat then b3f b.toNat
    else b4f i0))) ∧
    True ∧
    SubB
    (AV.ar (256 : Nat) (1 : Nat)
    fun (i : Nat) =>
    AV.sc
    (Value.bool
    (bif i.beq b.toNat then false
    else b5f i)))
    (AV.ar (256 : Nat) (1 : Nat)
    fun (i0 : Nat) =>
    AV.sc
    (Value.bool
    (bif i0.beq b.toNat then false
    else b5f i0))) ∧
    True ∧
    SubB
    (AV.ar (256 : Nat) (1 : Nat)
    fun (i : Nat) =>
    AV.sc
    (Value.bool
    (bif i.beq b.toNat then
    !b2f b.toNat
    else b6f i)))
    (AV.ar (256 : Nat) (1 : Nat)
    fun (i0 : Nat) =>
    AV.sc
    (Value.bool
    (bif i0.beq b.toNat then
    !b2f b.toNat
    else b6f i0))) ∧
    True) ∧
    L7_0 (IntKind.i64.wrap (b + (1 : Int))) b0f b1f b2f b3f
    (fun (i : Nat) => bif i.beq b.toNat then b3f b.toNat else b4f i)
    (fun (i : Nat) => bif i.beq b.toNat then false else b5f i)
    (fun (i : Nat) => bif i.beq b.toNat then !b2f b.toNat else b6f i)
    res)) ∧
    (b2f b.toNat = !false →
    true = true ∧
    (!false) = !false ∧
    true = true ∧
    (!false) = !false ∧
    true = true ∧
    True ∧
    ((0 : Int) ≤ b ∧ b < (↑(256 : Nat) : Int)) ∧
    (b.toNat * (1 : Nat) + (0 : Nat) = plus (0 : Nat) (b.toNat * (1 : Nat)) ∧ (b.toNat < (256 : Nat) ∧ True) ∧ True) ∧
    True ∧
    True ∧
    ((0 : Int) ≤ b ∧ b < (↑(256 : Nat) : Int)) ∧
    (b.toNat * (1 : Nat) + (0 : Nat) = plus (0 : Nat) (b.toNat * (1 : Nat)) ∧ b.toNat < (256 : Nat) ∧ True) ∧
    True ∧
    (b2f b.toNat = true →
    True ∧
    true = true ∧
    ((0 : Int) ≤ b ∧ b < (↑(256 : Nat) : Int)) ∧
    true = true ∧
    (b.toNat * (1 : Nat) + (0 : Nat) = plus (0 : Nat) (b.toNat * (1 : Nat)) ∧
    b.toNat < (256 : Nat) ∧ True) ∧
    True ∧
    ((0 : Int) ≤ b ∧ b < (↑(256 : Nat) : Int)) ∧
    (b.toNat * (1 : Nat) + (0 : Nat) = plus (0 : Nat) (b.toNat * (1 : Nat)) ∧
    (b.toNat < (256 : Nat) ∧ True) ∧ True) ∧
    True ∧
    True ∧
    ((0 : Int) ≤ b ∧ b < (↑(256 : Nat) : Int)) ∧
    (b.toNat * (1 : Nat) + (0 : Nat) = plus (0 : Nat) (b.toNat * (1 : Nat)) ∧
    b.toNat < (256 : Nat) ∧ True) ∧
    True ∧
    ((0 : Int) ≤ b ∧ b < (↑(256 : Nat) : Int)) ∧
    (b.toNat * (1 : Nat) + (0 : Nat) = plus (0 : Nat) (b.toNat * (1 : Nat)) ∧
    (b.toNat < (256 : Nat) ∧ True) ∧ True) ∧
    True ∧
    True ∧
    True ∧
    ((True ∧
    Sub (AV.pt (1000 : Nat) [] (0 : Nat))
    (AV.pt (1000 : Nat) [] (0 : Nat)) ∧
    True ∧
    Sub (AV.pt (1001 : Nat) [] (0 : Nat))
    (AV.pt (1001 : Nat) [] (0 : Nat)) ∧
    True ∧
    Sub (AV.pt (1002 : Nat) [] (0 : Nat))
    (AV.pt (1002 : Nat) [] (0 : Nat)) ∧
    True ∧
    Sub (AV.pt (1003 : Nat) [] (0 : Nat))
    (AV.pt (1003 : Nat) [] (0 : Nat)) ∧
    True ∧
    Sub (AV.pt (1004 : Nat) [] (0 : Nat))
    (AV.pt (1004 : Nat) [] (0 : Nat)) ∧
    True ∧
    Sub (AV.pt (1005 : Nat) [] (0 : Nat))
    (AV.pt (1005 : Nat) [] (0 : Nat)) ∧
    True ∧
    Sub (AV.pt (1006 : Nat) [] (0 : Nat))
    (AV.pt (1006 : Nat) [] (0 : Nat)) ∧
    True ∧
    Sub
    (AV.sc
    (Value.int IntKind.i64
    (IntKind.i64.wrap
    (b + (1 : Int)))))
    (AV.sc
    (Value.int IntKind.i64
    (IntKind.i64.wrap
    (b + (1 : Int))))) ∧
    True) ∧
    True ∧
    SubB
    (AV.ar (4 : Nat) (1 : Nat) fun (i0 : Nat) =>
    AV.sc (Value.int IntKind.u64 (b0f i0)))
    (AV.ar (4 : Nat) (1 : Nat) fun (i0 : Nat) =>
    AV.sc (Value.int IntKind.u64 (b0f i0))) ∧
    True ∧
    SubB
    (AV.ar (4 : Nat) (1 : Nat) fun (i0 : Nat) =>
    AV.sc (Value.int IntKind.u64 (b1f i0)))
    (AV.ar (4 : Nat) (1 : Nat) fun (i0 : Nat) =>
    AV.sc (Value.int IntKind.u64 (b1f i0))) ∧
    True ∧
    SubB
    (AV.ar (256 : Nat) (1 : Nat) fun (i0 : Nat) =>
    AV.sc (Value.bool (b2f i0)))
    (AV.ar (256 : Nat) (1 : Nat) fun (i0 : Nat) =>
    AV.sc (Value.bool (b2f i0))) ∧
    True ∧
    SubB
    (AV.ar (256 : Nat) (1 : Nat) fun (i0 : Nat) =>
    AV.sc (Value.bool (b3f i0)))
    (AV.ar (256 : Nat) (1 : Nat) fun (i0 : Nat) =>
    AV.sc (Value.bool (b3f i0))) ∧
    True ∧
    SubB
    (AV.ar (256 : Nat) (1 : Nat) fun (i : Nat) =>
    AV.sc
    (Value.bool
    (bif i.beq b.toNat then true
    else b4f i)))
    (AV.ar (256 : Nat) (1 : Nat) fun (i0 : Nat) =>
    AV.sc
    (Value.bool
    (bif i0.beq b.toNat then true
    else b4f i0))) ∧
    True ∧
    SubB
    (AV.ar (256 : Nat) (1 : Nat)
    fun (i : Nat) =>
    AV.sc
    (Value.bool
    (bif i.beq b.toNat then b3f b.toNat
    else b5f i)))
    (AV.ar (256 : Nat) (1 : Nat)
    fun (i0 : Nat) =>
    AV.sc
    (Value.bool
    (bif i0.beq b.toNat then b3f b.toNat
    else b5f i0))) ∧
    True ∧
    SubB
    (AV.ar (256 : Nat) (1 : Nat)
    fun (i : Nat) =>
    AV.sc
    (Value.bool
    (bif i.beq b.toNat then
    !b2f b.toNat
    else b6f i)))
    (AV.ar (256 : Nat) (1 : Nat)
    fun (i0 : Nat) =>
    AV.sc
    (Value.bool
    (bif i0.beq b.toNat then
    !b2f b.toNat
    else b6f i0))) ∧
    True) ∧
    L7_0 (IntKind.i64.wrap (b + (1 : Int))) b0f b1f b2f b3f
    (fun (i : Nat) => bif i.beq b.toNat then true else b4f i)
    (fun (i : Nat) => bif i.beq b.toNat then b3f b.toNat else b5f i)
    (fun (i : Nat) => bif i.beq b.toNat then !b2f b.toNat else b6f i)
    res) ∧
    (b2f b.toNat = !true →
    true = true ∧
    (!true) = !true ∧
    true = true ∧
    (!true) = !true ∧
    true = true ∧
    True ∧
    ((0 : Int) ≤ b ∧ b < (↑(256 : Nat) : Int)) ∧
    (b.toNat * (1 : Nat) + (0 : Nat) = plus (0 : Nat) (b.toNat * (1 : Nat)) ∧
    (b.toNat < (256 : Nat) ∧ True) ∧ True) ∧
    True ∧
    True ∧
    ((0 : Int) ≤ b ∧ b < (↑(256 : Nat) : Int)) ∧
    (b.toNat * (1 : Nat) + (0 : Nat) = plus (0 : Nat) (b.toNat * (1 : Nat)) ∧
    b.toNat < (256 : Nat) ∧ True) ∧
    True ∧
    ((0 : Int) ≤ b ∧ b < (↑(256 : Nat) : Int)) ∧
    (b.toNat * (1 : Nat) + (0 : Nat) = plus (0 : Nat) (b.toNat * (1 : Nat)) ∧
    (b.toNat < (256 : Nat) ∧ True) ∧ True) ∧
    True ∧
    True ∧
    True ∧
    ((True ∧
    Sub (AV.pt (1000 : Nat) [] (0 : Nat))
    (AV.pt (1000 : Nat) [] (0 : Nat)) ∧
    True ∧
    Sub (AV.pt (1001 : Nat) [] (0 : Nat))
    (AV.pt (1001 : Nat) [] (0 : Nat)) ∧
    True ∧
    Sub (AV.pt (1002 : Nat) [] (0 : Nat))
    (AV.pt (1002 : Nat) [] (0 : Nat)) ∧
    True ∧
    Sub (AV.pt (1003 : Nat) [] (0 : Nat))
    (AV.pt (1003 : Nat) [] (0 : Nat)) ∧
    True ∧
    Sub (AV.pt (1004 : Nat) [] (0 : Nat))
    (AV.pt (1004 : Nat) [] (0 : Nat)) ∧
    True ∧
    Sub (AV.pt (1005 : Nat) [] (0 : Nat))
    (AV.pt (1005 : Nat) [] (0 : Nat)) ∧
    True ∧
    Sub (AV.pt (1006 : Nat) [] (0 : Nat))
    (AV.pt (1006 : Nat) [] (0 : Nat)) ∧
    True ∧
    Sub
    (AV.sc
    (Value.int IntKind.i64
    (IntKind.i64.wrap
    (b + (1 : Int)))))
    (AV.sc
    (Value.int IntKind.i64
    (IntKind.i64.wrap
    (b + (1 : Int))))) ∧
    True) ∧
    True ∧
    SubB
    (AV.ar (4 : Nat) (1 : Nat) fun (i0 : Nat) =>
    AV.sc (Value.int IntKind.u64 (b0f i0)))
    (AV.ar (4 : Nat) (1 : Nat) fun (i0 : Nat) =>
    AV.sc (Value.int IntKind.u64 (b0f i0))) ∧
    True ∧
    SubB
    (AV.ar (4 : Nat) (1 : Nat) fun (i0 : Nat) =>
    AV.sc (Value.int IntKind.u64 (b1f i0)))
    (AV.ar (4 : Nat) (1 : Nat) fun (i0 : Nat) =>
    AV.sc (Value.int IntKind.u64 (b1f i0))) ∧
    True ∧
    SubB
    (AV.ar (256 : Nat) (1 : Nat) fun (i0 : Nat) =>
    AV.sc (Value.bool (b2f i0)))
    (AV.ar (256 : Nat) (1 : Nat) fun (i0 : Nat) =>
    AV.sc (Value.bool (b2f i0))) ∧
    True ∧
    SubB
    (AV.ar (256 : Nat) (1 : Nat) fun (i0 : Nat) =>
    AV.sc (Value.bool (b3f i0)))
    (AV.ar (256 : Nat) (1 : Nat) fun (i0 : Nat) =>
    AV.sc (Value.bool (b3f i0))) ∧
    True ∧
    SubB
    (AV.ar (256 : Nat) (1 : Nat) fun (i : Nat) =>
    AV.sc
    (Value.bool
    (bif i.beq b.toNat then true
    else b4f i)))
    (AV.ar (256 : Nat) (1 : Nat) fun (i0 : Nat) =>
    AV.sc
    (Value.bool
    (bif i0.beq b.toNat then true
    else b4f i0))) ∧
    True ∧
    SubB
    (AV.ar (256 : Nat) (1 : Nat)
    fun (i : Nat) =>
    AV.sc
    (Value.bool
    (bif i.beq b.toNat then false
    else b5f i)))
    (AV.ar (256 : Nat) (1 : Nat)
    fun (i0 : Nat) =>
    AV.sc
    (Value.bool
    (bif i0.beq b.toNat then false
    else b5f i0))) ∧
    True ∧
    SubB
    (AV.ar (256 : Nat) (1 : Nat)
    fun (i : Nat) =>
    AV.sc
    (Value.bool
    (bif i.beq b.toNat then
    !b2f b.toNat
    else b6f i)))
    (AV.ar (256 : Nat) (1 : Nat)
    fun (i0 : Nat) =>
    AV.sc
    (Value.bool
    (bif i0.beq b.toNat then
    !b2f b.toNat
    else b6f i0))) ∧
    True) ∧
    L7_0 (IntKind.i64.wrap (b + (1 : Int))) b0f b1f b2f b3f
    (fun (i : Nat) => bif i.beq b.toNat then true else b4f i)
    (fun (i : Nat) => bif i.beq b.toNat then false else b5f i)
    (fun (i : Nat) => bif i.beq b.toNat then !b2f b.toNat else b6f i)
    res))) ∧
    (decide (b < (256 : Int)) = false →
    ((0 : Nat) = (0 : Nat) ∧ True) ∧
    ((0 : Nat) = (0 : Nat) ∧ True) ∧
    ∃ (r : Nat → Int),
    ((True ∧ True ∧ True) ∧
    True ∧
    Ok Proofs.Try.prog (23 : Nat)
    [AV.ar (4 : Nat) (1 : Nat) fun (i : Nat) => AV.sc (Value.int IntKind.u64 (b0f i)),
    AV.ar (4 : Nat) (1 : Nat) fun (i : Nat) => AV.sc (Value.int IntKind.u64 (b1f i))]
    [] (AV.ar (4 : Nat) (1 : Nat) fun (i0 : Nat) => AV.sc (Value.int IntKind.u64 (r i0))) []) ∧
    ((0 : Nat) = (0 : Nat) ∧ True) ∧
    ∃ (r_1 : Nat → Int),
    ((True ∧ True) ∧
    True ∧
    Ok Proofs.Try.prog (21 : Nat) [AV.ar (256 : Nat) (1 : Nat) fun (i : Nat) => AV.sc (Value.bool (b4f i))] []
    (AV.ar (4 : Nat) (1 : Nat) fun (i0 : Nat) => AV.sc (Value.int IntKind.u64 (r_1 i0))) []) ∧
    (∀ (i : Nat),
    i < (4 : Nat) →
    (AV.sc (Value.int IntKind.u64 (r i))).sz = (1 : Nat) ∧
    (AV.sc (Value.int IntKind.u64 (r_1 i))).sz = (1 : Nat) ∧ false = false ∧ false = false ∧ True) ∧
    True ∧
    (cdec (∀ (i : Nat), i < (4 : Nat) → r i = r_1 i) = true →
    ((0 : Nat) = (0 : Nat) ∧ True) ∧
    cdec (∀ (i : Nat), i < (4 : Nat) → r i = r_1 i) = true ∧
    ((0 : Nat) = (0 : Nat) ∧ True) ∧
    cdec (∀ (i : Nat), i < (4 : Nat) → r i = r_1 i) = true ∧
    ∃ (r_2 : Nat → Int),
    ((True ∧ True ∧ True) ∧
    True ∧
    Ok Proofs.Try.prog (24 : Nat)
    [AV.ar (4 : Nat) (1 : Nat) fun (i : Nat) => AV.sc (Value.int IntKind.u64 (b0f i)),
    AV.ar (4 : Nat) (1 : Nat) fun (i : Nat) => AV.sc (Value.int IntKind.u64 (b1f i))]
    [] (AV.ar (4 : Nat) (1 : Nat) fun (i0 : Nat) => AV.sc (Value.int IntKind.u64 (r_2 i0))) []) ∧
    cdec (∀ (i : Nat), i < (4 : Nat) → r i = r_1 i) = true ∧
    ((0 : Nat) = (0 : Nat) ∧ True) ∧
    cdec (∀ (i : Nat), i < (4 : Nat) → r i = r_1 i) = true ∧
    ∃ (r_3 : Nat → Int),
    ((True ∧ True) ∧
    True ∧
    Ok Proofs.Try.prog (21 : Nat) [AV.ar (256 : Nat) (1 : Nat) fun (i : Nat) => AV.sc (Value.bool (b5f i))]
    [] (AV.ar (4 : Nat) (1 : Nat) fun (i0 : Nat) => AV.sc (Value.int IntKind.u64 (r_3 i0))) []) ∧
    cdec (∀ (i : Nat), i < (4 : Nat) → r i = r_1 i) = true ∧
    (∀ (i : Nat),
    i < (4 : Nat) →
    (AV.sc (Value.int IntKind.u64 (r_2 i))).sz = (1 : Nat) ∧
    (AV.sc (Value.int IntKind.u64 (r_3 i))).sz = (1 : Nat) ∧ false = false ∧ false = false ∧ True) ∧
    cdec (∀ (i : Nat), i < (4 : Nat) → r i = r_1 i) = true ∧
    True ∧
    (cdec (∀ (i : Nat), i < (4 : Nat) → r_2 i = r_3 i) = true →
    ((0 : Nat) = (0 : Nat) ∧ True) ∧
    cdec (∀ (i : Nat), i < (4 : Nat) → r_2 i = r_3 i) = true ∧
    ∃ (r : Nat → Int),
    ((True ∧ True) ∧
    True ∧
    Ok Proofs.Try.prog (25 : Nat)
    [AV.ar (4 : Nat) (1 : Nat) fun (i : Nat) => AV.sc (Value.int IntKind.u64 (b0f i))]
    []
    (AV.ar (4 : Nat) (1 : Nat) fun (i0 : Nat) => AV.sc (Value.int IntKind.u64 (r i0)))
    []) ∧
    cdec (∀ (i : Nat), i < (4 : Nat) → r_2 i = r_3 i) = true ∧
    ((0 : Nat) = (0 : Nat) ∧ True) ∧
    cdec (∀ (i : Nat), i < (4 : Nat) → r_2 i = r_3 i) = true ∧
    ∃ (r_4 : Nat → Int),
    ((True ∧ True) ∧
    True ∧
    Ok Proofs.Try.prog (21 : Nat)
    [AV.ar (256 : Nat) (1 : Nat) fun (i : Nat) =>
    AV.sc (Value.bool (b6f i))]
    []
    (AV.ar (4 : Nat) (1 : Nat) fun (i0 : Nat) =>
    AV.sc (Value.int IntKind.u64 (r_4 i0)))
    []) ∧
    cdec (∀ (i : Nat), i < (4 : Nat) → r_2 i = r_3 i) = true ∧
    (∀ (i : Nat),
    i < (4 : Nat) →
    (AV.sc (Value.int IntKind.u64 (r i))).sz = (1 : Nat) ∧
    (AV.sc (Value.int IntKind.u64 (r_4 i))).sz = (1 : Nat) ∧
    false = false ∧ false = false ∧ True) ∧
    cdec (∀ (i : Nat), i < (4 : Nat) → r_2 i = r_3 i) = true ∧
    True ∧
    (cdec (∀ (i : Nat), i < (4 : Nat) → r i = r_4 i) = true →
    ∃ (r_5 : Bool),
    (True ∧
    True ∧
    Ok Proofs.Try.prog (12 : Nat) [] []
    (AV.sc (Value.bool r_5)) []) ∧
    cdec (∀ (i : Nat), i < (4 : Nat) → r i = r_4 i) = true ∧
    True ∧
    True ∧
    ((True ∧
    Sub (AV.sc (Value.bool r_5))
    (AV.sc (Value.bool r_5)) ∧
    True) ∧
    True) ∧
    Sub (AV.sc (Value.bool r_5)) res ∧ SubOut [] []) ∧
    (cdec (∀ (i : Nat), i < (4 : Nat) → r i = r_4 i) = !true →
    true = true ∧
    cdec (∀ (i : Nat), i < (4 : Nat) → r i = r_4 i) = false ∧
    True ∧
    True ∧
    ((True ∧
    Sub (AV.sc (Value.bool false))
    (AV.sc (Value.bool false)) ∧
    True) ∧
    True) ∧
    Sub (AV.sc (Value.bool false)) res ∧ SubOut [] [])) ∧
    (cdec (∀ (i : Nat), i < (4 : Nat) → r_2 i = r_3 i) = !true →
    true = true ∧
    cdec (∀ (i : Nat), i < (4 : Nat) → r_2 i = r_3 i) = !true ∧
    true = true ∧
    cdec (∀ (i : Nat), i < (4 : Nat) → r_2 i = r_3 i) = !true ∧
    true = true ∧
    cdec (∀ (i : Nat), i < (4 : Nat) → r_2 i = r_3 i) = !true ∧
    true = true ∧
    cdec (∀ (i : Nat), i < (4 : Nat) → r_2 i = r_3 i) = !true ∧
    true = true ∧
    cdec (∀ (i : Nat), i < (4 : Nat) → r_2 i = r_3 i) = false ∧
    True ∧
    false = !true ∧
    true = true ∧
    false = false ∧
    True ∧
    True ∧
    ((True ∧
    Sub (AV.sc (Value.bool false))
    (AV.sc (Value.bool false)) ∧
    True) ∧
    True) ∧
    Sub (AV.sc (Value.bool false)) res ∧ SubOut [] [])) ∧
    (cdec (∀ (i : Nat), i < (4 : Nat) → r i = r_1 i) = !true →
    true = true ∧
    cdec (∀ (i : Nat), i < (4 : Nat) → r i = r_1 i) = !true ∧
    true = true ∧
    cdec (∀ (i : Nat), i < (4 : Nat) → r i = r_1 i) = !true ∧
    true = true ∧
    cdec (∀ (i : Nat), i < (4 : Nat) → r i = r_1 i) = !true ∧
    true = true ∧
    cdec (∀ (i : Nat), i < (4 : Nat) → r i = r_1 i) = !true ∧
    true = true ∧
    cdec (∀ (i : Nat), i < (4 : Nat) → r i = r_1 i) = !true ∧
    true = true ∧
    cdec (∀ (i : Nat), i < (4 : Nat) → r i = r_1 i) = false ∧
    True ∧
    false = !true ∧
    true = true ∧
    false = !true ∧
    true = true ∧
    false = !true ∧
    true = true ∧
    false = !true ∧
    true = true ∧
    false = !true ∧
    true = true ∧
    false = false ∧
    True ∧
    false = !true ∧
    true = true ∧
    false = false ∧
    True ∧
    True ∧
    ((True ∧
    Sub (AV.sc (Value.bool false)) (AV.sc (Value.bool false)) ∧
    True) ∧
    True) ∧
    Sub (AV.sc (Value.bool false)) res ∧ SubOut [] [])) from
    ⟨trivial, ⟨trivial, (And.elim (fun h2 k2 => ⟨(fun x3 => (fun h3 => ⟨trivial, ⟨trivial, (And.elim (fun h6 k6 => ⟨(And.elim (fun h7 k7 => ⟨h7, k7⟩) h6), (And.elim (fun h7 k7 => ⟨⟨rfl, ((fun h9 => ⟨h9, trivial⟩) h7)⟩, ⟨trivial, (And.elim (fun h9 k9 => ⟨(fun x10 => (fun h10 => ⟨trivial, ⟨rfl, ⟨(And.elim (fun h14 k14 => ⟨h14, k14⟩) h6), ⟨rfl, ⟨⟨rfl, ⟨h7, trivial⟩⟩, ⟨trivial, ⟨(And.elim (fun h18 k18 => ⟨h18, k18⟩) h6), ⟨⟨rfl, ⟨⟨h7, trivial⟩, trivial⟩⟩, ⟨trivial, ⟨trivial, ⟨(And.elim (fun h22 k22 => ⟨h22, k22⟩) h6), ⟨⟨rfl, ⟨h7, trivial⟩⟩, ⟨trivial, (And.elim (fun h24 k24 => ⟨(fun x25 => (fun h25 => ⟨trivial, ⟨rfl, ⟨(And.elim (fun h29 k29 => ⟨h29, k29⟩) h6), ⟨rfl, ⟨⟨rfl, ⟨h7, trivial⟩⟩, ⟨trivial, ⟨(And.elim (fun h33 k33 => ⟨h33, k33⟩) h6), ⟨⟨rfl, ⟨⟨h7, trivial⟩, trivial⟩⟩, ⟨trivial, ⟨trivial, ⟨(And.elim (fun h37 k37 => ⟨h37, k37⟩) h6), ⟨⟨rfl, ⟨h7, trivial⟩⟩, ⟨trivial, ⟨(And.elim (fun h40 k40 => ⟨h40, k40⟩) h6), ⟨⟨rfl, ⟨⟨h7, trivial⟩, trivial⟩⟩, ⟨trivial, ⟨trivial, ⟨trivial, ⟨⟨⟨trivial, ⟨Sub.refl _, ⟨trivial, ⟨Sub.refl _, ⟨trivial, ⟨Sub.refl _, ⟨trivial, ⟨Sub.refl _, ⟨trivial, ⟨Sub.refl _, ⟨trivial, ⟨Sub.refl _, ⟨trivial, ⟨Sub.refl _, ⟨trivial, ⟨Sub.refl _, trivial⟩⟩⟩⟩⟩⟩⟩⟩⟩⟩⟩⟩⟩⟩⟩⟩, ⟨trivial, ⟨SubB.refl _, ⟨trivial, ⟨SubB.refl _, ⟨trivial, ⟨SubB.refl _, ⟨trivial, ⟨SubB.refl _, ⟨trivial, ⟨SubB.refl _, ⟨trivial, ⟨SubB.refl _, ⟨trivial, ⟨SubB.refl _, trivial⟩⟩⟩⟩⟩⟩⟩⟩⟩⟩⟩⟩⟩⟩⟩, h25⟩⟩⟩⟩⟩⟩⟩⟩⟩⟩⟩⟩⟩⟩⟩⟩⟩⟩⟩) (h24 x25)), (fun x25 => (fun h25 => ⟨rfl, ⟨rfl, ⟨rfl, ⟨rfl, ⟨rfl, ⟨trivial, ⟨(And.elim (fun h33 k33 => ⟨h33, k33⟩) h6), ⟨⟨rfl, ⟨⟨h7, trivial⟩, trivial⟩⟩, ⟨trivial, ⟨trivial, ⟨(And.elim (fun h37 k37 => ⟨h37, k37⟩) h6), ⟨⟨rfl, ⟨h7, trivial⟩⟩, ⟨trivial, ⟨(And.elim (fun h40 k40 => ⟨h40, k40⟩) h6), ⟨⟨rfl, ⟨⟨h7, trivial⟩, trivial⟩⟩, ⟨trivial, ⟨trivial, ⟨trivial, ⟨⟨⟨trivial, ⟨Sub.refl _, ⟨trivial, ⟨Sub.refl _, ⟨trivial, ⟨Sub.refl _, ⟨trivial, ⟨Sub.refl _, ⟨trivial, ⟨Sub.refl _, ⟨trivial, ⟨Sub.refl _, ⟨trivial, ⟨Sub.refl _, ⟨trivial, ⟨Sub.refl _, trivial⟩⟩⟩⟩⟩⟩⟩⟩⟩⟩⟩⟩⟩⟩⟩⟩, ⟨trivial, ⟨SubB.refl _, ⟨trivial, ⟨SubB.refl _, ⟨trivial, ⟨SubB.refl _, ⟨trivial, ⟨SubB.refl _, ⟨trivial, ⟨SubB.refl _, ⟨trivial, ⟨SubB.refl _, ⟨trivial, ⟨SubB.refl _, trivial⟩⟩⟩⟩⟩⟩⟩⟩⟩⟩⟩⟩⟩⟩⟩, h25⟩⟩⟩⟩⟩⟩⟩⟩⟩⟩⟩⟩⟩⟩⟩⟩⟩⟩⟩) (k24 x25))⟩) h10)⟩⟩⟩⟩⟩⟩⟩⟩⟩⟩⟩⟩⟩) (h9 x10)), (fun x10 => (fun h10 => ⟨rfl, ⟨rfl, ⟨rfl, ⟨rfl, ⟨rfl, ⟨trivial, ⟨(And.elim (fun h18 k18 => ⟨h18, k18⟩) h6), ⟨⟨rfl, ⟨⟨h7, trivial⟩, trivial⟩⟩, ⟨trivial, ⟨trivial, ⟨(And.elim (fun h22 k22 => ⟨h22, k22⟩) h6), ⟨⟨rfl, ⟨h7, trivial⟩⟩, ⟨trivial, (And.elim (fun h24 k24 => ⟨(fun x25 => (fun h25 => ⟨trivial, ⟨rfl, ⟨(And.elim (fun h29 k29 => ⟨h29, k29⟩) h6), ⟨rfl, ⟨⟨rfl, ⟨h7, trivial⟩⟩, ⟨trivial, ⟨(And.elim (fun h33 k33 => ⟨h33, k33⟩) h6), ⟨⟨rfl, ⟨⟨h7, trivial⟩, trivial⟩⟩, ⟨trivial, ⟨trivial, ⟨(And.elim (fun h37 k37 => ⟨h37, k37⟩) h6), ⟨⟨rfl, ⟨h7, trivial⟩⟩, ⟨trivial, ⟨(And.elim (fun h40 k40 => ⟨h40, k40⟩) h6), ⟨⟨rfl, ⟨⟨h7, trivial⟩, trivial⟩⟩, ⟨trivial, ⟨trivial, ⟨trivial, ⟨⟨⟨trivial, ⟨Sub.refl _, ⟨trivial, ⟨Sub.refl _, ⟨trivial, ⟨Sub.refl _, ⟨trivial, ⟨Sub.refl _, ⟨trivial, ⟨Sub.refl _, ⟨trivial, ⟨Sub.refl _, ⟨trivial, ⟨Sub.refl _, ⟨trivial, ⟨Sub.refl _, trivial⟩⟩⟩⟩⟩⟩⟩⟩⟩⟩⟩⟩⟩⟩⟩⟩, ⟨trivial, ⟨SubB.refl _, ⟨trivial, ⟨SubB.refl _, ⟨trivial, ⟨SubB.refl _, ⟨trivial, ⟨SubB.refl _, ⟨trivial, ⟨SubB.refl _, ⟨trivial, ⟨SubB.refl _, ⟨trivial, ⟨SubB.refl _, trivial⟩⟩⟩⟩⟩⟩⟩⟩⟩⟩⟩⟩⟩⟩⟩, h25⟩⟩⟩⟩⟩⟩⟩⟩⟩⟩⟩⟩⟩⟩⟩⟩⟩⟩⟩) (h24 x25)), (fun x25 => (fun h25 => ⟨rfl, ⟨rfl, ⟨rfl, ⟨rfl, ⟨rfl, ⟨trivial, ⟨(And.elim (fun h33 k33 => ⟨h33, k33⟩) h6), ⟨⟨rfl, ⟨⟨h7, trivial⟩, trivial⟩⟩, ⟨trivial, ⟨trivial, ⟨(And.elim (fun h37 k37 => ⟨h37, k37⟩) h6), ⟨⟨rfl, ⟨h7, trivial⟩⟩, ⟨trivial, ⟨(And.elim (fun h40 k40 => ⟨h40, k40⟩) h6), ⟨⟨rfl, ⟨⟨h7, trivial⟩, trivial⟩⟩, ⟨trivial, ⟨trivial, ⟨trivial, ⟨⟨⟨trivial, ⟨Sub.refl _, ⟨trivial, ⟨Sub.refl _, ⟨trivial, ⟨Sub.refl _, ⟨trivial, ⟨Sub.refl _, ⟨trivial, ⟨Sub.refl _, ⟨trivial, ⟨Sub.refl _, ⟨trivial, ⟨Sub.refl _, ⟨trivial, ⟨Sub.refl _, trivial⟩⟩⟩⟩⟩⟩⟩⟩⟩⟩⟩⟩⟩⟩⟩⟩, ⟨trivial, ⟨SubB.refl _, ⟨trivial, ⟨SubB.refl _, ⟨trivial, ⟨SubB.refl _, ⟨trivial, ⟨SubB.refl _, ⟨trivial, ⟨SubB.refl _, ⟨trivial, ⟨SubB.refl _, ⟨trivial, ⟨SubB.refl _, trivial⟩⟩⟩⟩⟩⟩⟩⟩⟩⟩⟩⟩⟩⟩⟩, h25⟩⟩⟩⟩⟩⟩⟩⟩⟩⟩⟩⟩⟩⟩⟩⟩⟩⟩⟩) (k24 x25))⟩) h10)⟩⟩⟩⟩⟩⟩⟩⟩⟩⟩⟩⟩⟩) (k9 x10))⟩) k7)⟩⟩) k6)⟩) h3)⟩⟩) (h2 x3)), (fun x3 => (fun h3 => ⟨⟨rfl, trivial⟩, ⟨⟨rfl, trivial⟩, (Exists.elim h3 fun x6 h6 => ⟨x6, (And.elim (fun h7 k7 => ⟨⟨⟨trivial, ⟨trivial, trivial⟩⟩, ⟨trivial, h7⟩⟩, ⟨⟨rfl, trivial⟩, (Exists.elim k7 fun x9 h9 => ⟨x9, (And.elim (fun h10 k10 => ⟨⟨⟨trivial, trivial⟩, ⟨trivial, h10⟩⟩, (And.elim (fun h11 k11 => ⟨(fun x12 => (fun h12 => (fun x13 => (fun h13 => (And.elim (fun h14 k14 => ⟨h14, ((fun h15 => ⟨h15, ⟨rfl, ⟨rfl, trivial⟩⟩⟩) k14)⟩) h13)) (h12 x13))) (h11 x12)), ⟨trivial, (And.elim (fun h13 k13 => ⟨(fun x14 => (fun h14 => ⟨⟨rfl, trivial⟩, ⟨x14, ⟨⟨rfl, trivial⟩, ⟨x14, (Exists.elim h14 fun x19 h19 => ⟨x19, (And.elim (fun h20 k20 => ⟨⟨⟨trivial, ⟨trivial, trivial⟩⟩, ⟨trivial, h20⟩⟩, ⟨x14, ⟨⟨rfl, trivial⟩, ⟨x14, (Exists.elim k20 fun x24 h24 => ⟨x24, (And.elim (fun h25 k25 => ⟨⟨⟨trivial, trivial⟩, ⟨trivial, h25⟩⟩, ⟨x14, (And.elim (fun h27 k27 => ⟨(fun x28 => (fun h28 => (fun x29 => (fun h29 => (And.elim (fun h30 k30 => ⟨h30, ((fun h31 => ⟨h31, ⟨rfl, ⟨rfl, trivial⟩⟩⟩) k30)⟩) h29)) (h28 x29))) (h27 x28)), ⟨x14, ⟨trivial, (And.elim (fun h30 k30 => ⟨(fun x31 => (fun h31 => ⟨⟨rfl, trivial⟩, ⟨x31, (Exists.elim h31 fun x34 h34 => ⟨x34, (And.elim (fun h35 k35 => ⟨⟨⟨trivial, trivial⟩, ⟨trivial, h35⟩⟩, ⟨x31, ⟨⟨rfl, trivial⟩, ⟨x31, (Exists.elim k35 fun x39 h39 => ⟨x39, (And.elim (fun h40 k40 => ⟨⟨⟨trivial, trivial⟩, ⟨trivial, h40⟩⟩, ⟨x31, (And.elim (fun h42 k42 => ⟨(fun x43 => (fun h43 => (fun x44 => (fun h44 => (And.elim (fun h45 k45 => ⟨h45, ((fun h46 => ⟨h46, ⟨rfl, ⟨rfl, trivial⟩⟩⟩) k45)⟩) h44)) (h43 x44))) (h42 x43)), ⟨x31, ⟨trivial, (And.elim (fun h45 k45 => ⟨(fun x46 => (fun h46 => (Exists.elim h46 fun x47 h47 => ⟨x47, (And.elim (fun h48 k48 => ⟨⟨trivial, ⟨trivial, h48⟩⟩, ⟨x46, ⟨trivial, ⟨trivial, ⟨⟨⟨trivial, ⟨Sub.refl _, trivial⟩⟩, trivial⟩, ((fun h53 => ⟨h53, trivial⟩) k48)⟩⟩⟩⟩⟩) h47)⟩)) (h45 x46)), (fun x46 => (fun h46 => ⟨rfl, ⟨x46, ⟨trivial, ⟨trivial, ⟨⟨⟨trivial, ⟨Sub.refl _, trivial⟩⟩, trivial⟩, ((fun h52 => ⟨h52, trivial⟩) h46)⟩⟩⟩⟩⟩) (k45 x46))⟩) k42)⟩⟩⟩) k40)⟩⟩) h39)⟩)⟩⟩⟩⟩) h34)⟩)⟩⟩) (h30 x31)), (fun x31 => (fun h31 => ⟨rfl, ⟨x31, ⟨rfl, ⟨x31, ⟨rfl, ⟨x31, ⟨rfl, ⟨x31, ⟨rfl, ⟨x31, ⟨trivial, ⟨rfl, ⟨rfl, ⟨rfl, ⟨trivial, ⟨trivial, ⟨⟨⟨trivial, ⟨Sub.refl _, trivial⟩⟩, trivial⟩, ((fun h49 => ⟨h49, trivial⟩) h31)⟩⟩⟩⟩⟩⟩⟩⟩⟩⟩⟩⟩⟩⟩⟩⟩⟩) (k30 x31))⟩) k27)⟩⟩⟩) k25)⟩⟩) h24)⟩)⟩⟩⟩⟩) h19)⟩)⟩⟩⟩⟩) (h13 x14)), (fun x14 => (fun h14 => ⟨rfl, ⟨x14, ⟨rfl, ⟨x14, ⟨rfl, ⟨x14, ⟨rfl, ⟨x14, ⟨rfl, ⟨x14, ⟨rfl, ⟨x14, ⟨trivial, ⟨rfl, ⟨rfl, ⟨rfl, ⟨rfl, ⟨rfl, ⟨rfl, ⟨rfl, ⟨rfl, ⟨rfl, ⟨rfl, ⟨rfl, ⟨trivial, ⟨rfl, ⟨rfl, ⟨rfl, ⟨trivial, ⟨trivial, ⟨⟨⟨trivial, ⟨Sub.refl _, trivial⟩⟩, trivial⟩, ((fun h46 => ⟨h46, trivial⟩) h14)⟩⟩⟩⟩⟩⟩⟩⟩⟩⟩⟩⟩⟩⟩⟩⟩⟩⟩⟩⟩⟩⟩⟩⟩⟩⟩⟩⟩⟩⟩⟩) (k13 x14))⟩) k11)⟩⟩) k10)⟩) h9)⟩)⟩⟩) h6)⟩)⟩⟩) (k2 x3))⟩) h)⟩⟩)
theorem hf9 : Go.Proofs.Try.prog.funcs[9]? = some Go.Proofs.Try.f9 := by kernel_rfl
abbrev s9_e (sf : Nat → Int) (b : Int) (c : Int) : List (Nat × AV) := [(0, (.ar 4 1 (fun i0 => (.sc (.int .u64 (sf i0)))))), (1, (.sc (.int .u8 b))), (2, (.sc (.int .u8 c)))]
abbrev m9_e (sf : Nat → Int) (b : Int) (c : Int) : List (Nat × Nat × AV) := []
def L9_e (sf : Nat → Int) (b : Int) (c : Int) (res : AV) : Prop := Goes ⟨Go.Proofs.Try.prog, 9, [], res, []⟩ (place Go.Proofs.Try.f9 []) (s9_e sf b c) (m9_e sf b c)
theorem a9_e (sf : Nat → Int) (b : Int) (c : Int) (res : AV) (h : (∀ slot, fact (look .undef (s9_e sf b c) slot)) → L9_e sf b c res) : L9_e sf b c res :=
  assumeRule 9 [] Go.Proofs.Try.f9 hf9 [] (s9_e sf b c) (m9_e sf b c) res [] _ (by kernel_rfl) h
theorem o9 (sf : Nat → Int) (b : Int) (c : Int) (res : AV) (hnew : newOnly res) (h : L9_e sf b c res) : Ok Go.Proofs.Try.prog 9 [(.ar 4 1 (fun i0 => (.sc (.int .u64 (sf i0))))), (.sc (.int .u8 b)), (.sc (.int .u8 c))] [] res [] :=
  okRule2 9 Go.Proofs.Try.f9 hf9 [(.ar 4 1 (fun i0 => (.sc (.int .u64 (sf i0))))), (.sc (.int .u8 b)), (.sc (.int .u8 c))] [] res [] [] rfl (by kernel_rfl) (by kernel_rfl) (by kernel_rfl) ⟨hnew, by simp⟩ (L9_e sf b c res) (by kernel_rfl) h
theorem r9_e (sf : Nat → Int) (b : Int) (c : Int) (res : AV)
    (h : ∃ (r : Nat → Int),
  Ok Proofs.Try.prog (22 : Nat) [AV.sc (Value.int IntKind.u8 b), AV.sc (Value.int IntKind.u8 b)] []
    (AV.ar (4 : Nat) (1 : Nat) fun (i0 : Nat) => AV.sc (Value.int IntKind.u64 (r i0))) [] ∧
    ∃ (r_1 : Nat → Int),
    Ok Proofs.Try.prog (23 : Nat)
    [AV.ar (4 : Nat) (1 : Nat) fun (i : Nat) => AV.sc (Value.int IntKind.u64 (sf i)),
    AV.ar (4 : Nat) (1 : Nat) fun (i : Nat) => AV.sc (Value.int IntKind.u64 (r i))]
    [] (AV.ar (4 : Nat) (1 : Nat) fun (i0 : Nat) => AV.sc (Value.int IntKind.u64 (r_1 i0))) [] ∧
    ∃ (r_2 : Bool),
    Ok Proofs.Try.prog (15 : Nat) [AV.ar (4 : Nat) (1 : Nat) fun (i : Nat) => AV.sc (Value.int IntKind.u64 (r_1 i)), AV.sc (Value.int IntKind.u8 b)] []
    (AV.sc (Value.bool r_2)) [] ∧
    ((!r_2) = false →
    ((c != b) = true →
    ∃ (r_3 : Bool),
    Ok Proofs.Try.prog (15 : Nat)
    [AV.ar (4 : Nat) (1 : Nat) fun (i : Nat) => AV.sc (Value.int IntKind.u64 (r_1 i)), AV.sc (Value.int IntKind.u8 c)] []
    (AV.sc (Value.bool r_3)) [] ∧
    ∃ (r_4 : Bool),
    Ok Proofs.Try.prog (15 : Nat)
    [AV.ar (4 : Nat) (1 : Nat) fun (i : Nat) => AV.sc (Value.int IntKind.u64 (sf i)), AV.sc (Value.int IntKind.u8 c)] []
    (AV.sc (Value.bool r_4)) [] ∧
    ((!r_3 == r_4) = false →
    ∃ (r_5 : Int),
    Ok Proofs.Try.prog (16 : Nat) [AV.ar (4 : Nat) (1 : Nat) fun (i : Nat) => AV.sc (Value.int IntKind.u64 (r i))] []
    (AV.sc (Value.int IntKind.i64 r_5)) [] ∧
    ((r_5 != (1 : Int)) = false →
    ∃ (r_6 : Nat → Int),
    Ok Proofs.Try.prog (24 : Nat)
    [AV.ar (4 : Nat) (1 : Nat) fun (i : Nat) => AV.sc (Value.int IntKind.u64 (r_1 i)),
    AV.ar (4 : Nat) (1 : Nat) fun (i : Nat) => AV.sc (Value.int IntKind.u64 (r i))]
    [] (AV.ar (4 : Nat) (1 : Nat) fun (i0 : Nat) => AV.sc (Value.int IntKind.u64 (r_6 i0))) [] ∧
    (∀ (i : Nat),
    i < (4 : Nat) →
    (AV.sc (Value.int IntKind.u64 (r_6 i))).sz = (1 : Nat) ∧
    (AV.sc (Value.int IntKind.u64 (r i))).sz = (1 : Nat)) ∧
    ((!cdec (∀ (i : Nat), i < (4 : Nat) → r_6 i = r i)) = true → Sub (AV.sc (Value.bool false)) res) ∧
    ((!cdec (∀ (i : Nat), i < (4 : Nat) → r_6 i = r i)) = false →
    ∃ (r : ByteArray),
    Ok Proofs.Try.prog (13 : Nat)
    [AV.ar (4 : Nat) (1 : Nat) fun (i : Nat) => AV.sc (Value.int IntKind.u64 (sf i))] []
    (AV.sc (Value.string r)) [] ∧
    ∃ (r_7 : Nat → Int),
    Ok Proofs.Try.prog (25 : Nat)
    [AV.ar (4 : Nat) (1 : Nat) fun (i : Nat) => AV.sc (Value.int IntKind.u64 (sf i))] []
    (AV.ar (4 : Nat) (1 : Nat) fun (i0 : Nat) => AV.sc (Value.int IntKind.u64 (r_7 i0))) [] ∧
    ∃ (r_8 : ByteArray),
    Ok Proofs.Try.prog (13 : Nat)
    [AV.ar (4 : Nat) (1 : Nat) fun (i : Nat) => AV.sc (Value.int IntKind.u64 (r_7 i))] []
    (AV.sc (Value.string r_8)) [] ∧
    ∃ (r_9 : Int),
    Ok Proofs.Try.prog (16 : Nat)
    [AV.ar (4 : Nat) (1 : Nat) fun (i : Nat) => AV.sc (Value.int IntKind.u64 (sf i))] []
    (AV.sc (Value.int IntKind.i64 r_9)) [] ∧
    (decide (r_9 < (128 : Int)) = true →
    (((↑r_8.size : Int) == IntKind.i64.wrap ((↑r.size : Int) + (1 : Int))) = true →
    ((0 : Int) ≤ (1 : Int) ∧
    (1 : Int) ≤ (↑r.size : Int) ∧ (↑r.size : Int) ≤ (↑r.size : Int)) ∧
    (ByteArray.mk #[(91 : UInt8), (94 : UInt8)]).size +
    (r.extract (Int.toNat (1 : Int)) (↑r.size : Int).toNat).size ≤
    (9223372036854775807 : Nat) ∧
    ((r_8.toList ==
    (ByteArray.mk #[(91 : UInt8), (94 : UInt8)] ++
    r.extract (Int.toNat (1 : Int)) (↑r.size : Int).toNat).toList) =
    true →
    ∃ (r : Bool),
    Ok Proofs.Try.prog (12 : Nat) [] [] (AV.sc (Value.bool r)) [] ∧
    Sub (AV.sc (Value.bool r)) res) ∧
    ((r_8.toList ==
    (ByteArray.mk #[(91 : UInt8), (94 : UInt8)] ++
    r.extract (Int.toNat (1 : Int)) (↑r.size : Int).toNat).toList) =
    !true →
    Sub (AV.sc (Value.bool false)) res)) ∧
    (((↑r_8.size : Int) == IntKind.i64.wrap ((↑r.size : Int) + (1 : Int))) = !true →
    Sub (AV.sc (Value.bool false)) res)) ∧
    (decide (r_9 < (128 : Int)) = false →
    ∃ (r_10 : Int),
    Ok Proofs.Try.prog (16 : Nat)
    [AV.ar (4 : Nat) (1 : Nat) fun (i : Nat) => AV.sc (Value.int IntKind.u64 (sf i))] []
    (AV.sc (Value.int IntKind.i64 r_10)) [] ∧
    (decide (r_10 > (128 : Int)) = true →
    (((↑r.size : Int) == IntKind.i64.wrap ((↑r_8.size : Int) + (1 : Int))) = true →
    ((0 : Int) ≤ (1 : Int) ∧
    (1 : Int) ≤ (↑r_8.size : Int) ∧ (↑r_8.size : Int) ≤ (↑r_8.size : Int)) ∧
    (ByteArray.mk #[(91 : UInt8), (94 : UInt8)]).size +
    (r_8.extract (Int.toNat (1 : Int)) (↑r_8.size : Int).toNat).size ≤
    (9223372036854775807 : Nat) ∧
    ((r.toList ==
    (ByteArray.mk #[(91 : UInt8), (94 : UInt8)] ++
    r_8.extract (Int.toNat (1 : Int))
    (↑r_8.size : Int).toNat).toList) =
    true →
    ∃ (r : Bool),
    Ok Proofs.Try.prog (12 : Nat) [] [] (AV.sc (Value.bool r)) [] ∧
    Sub (AV.sc (Value.bool r)) res) ∧
    ((r.toList ==
    (ByteArray.mk #[(91 : UInt8), (94 : UInt8)] ++
    r_8.extract (Int.toNat (1 : Int))
    (↑r_8.size : Int).toNat).toList) =
    !true →
    Sub (AV.sc (Value.bool false)) res)) ∧
    (((↑r.size : Int) == IntKind.i64.wrap ((↑r_8.size : Int) + (1 : Int))) = !true →
    Sub (AV.sc (Value.bool false)) res)) ∧
    (decide (r_10 > (128 : Int)) = false →
    ∃ (r : Bool),
    Ok Proofs.Try.prog (12 : Nat) [] [] (AV.sc (Value.bool r)) [] ∧
    Sub (AV.sc (Value.bool r)) res)))) ∧
    ((r_5 != (1 : Int)) = !false → Sub (AV.sc (Value.bool false)) res)) ∧
    ((!r_3 == r_4) = !false → Sub (AV.sc (Value.bool false)) res)) ∧
    ((c != b) = !true →
    ∃ (r_3 : Int),
    Ok Proofs.Try.prog (16 : Nat) [AV.ar (4 : Nat) (1 : Nat) fun (i : Nat) => AV.sc (Value.int IntKind.u64 (r i))] []
    (AV.sc (Value.int IntKind.i64 r_3)) [] ∧
    ((r_3 != (1 : Int)) = false →
    ∃ (r_4 : Nat → Int),
    Ok Proofs.Try.prog (24 : Nat)
    [AV.ar (4 : Nat) (1 : Nat) fun (i : Nat) => AV.sc (Value.int IntKind.u64 (r_1 i)),
    AV.ar (4 : Nat) (1 : Nat) fun (i : Nat) => AV.sc (Value.int IntKind.u64 (r i))]
    [] (AV.ar (4 : Nat) (1 : Nat) fun (i0 : Nat) => AV.sc (Value.int IntKind.u64 (r_4 i0))) [] ∧
    (∀ (i : Nat),
    i < (4 : Nat) →
    (AV.sc (Value.int IntKind.u64 (r_4 i))).sz = (1 : Nat) ∧ (AV.sc (Value.int IntKind.u64 (r i))).sz = (1 : Nat)) ∧
    ((!cdec (∀ (i : Nat), i < (4 : Nat) → r_4 i = r i)) = true → Sub (AV.sc (Value.bool false)) res) ∧
    ((!cdec (∀ (i : Nat), i < (4 : Nat) → r_4 i = r i)) = false →
    ∃ (r : ByteArray),
    Ok Proofs.Try.prog (13 : Nat) [AV.ar (4 : Nat) (1 : Nat) fun (i : Nat) => AV.sc (Value.int IntKind.u64 (sf i))] []
    (AV.sc (Value.string r)) [] ∧
    ∃ (r_5 : Nat → Int),
    Ok Proofs.Try.prog (25 : Nat) [AV.ar (4 : Nat) (1 : Nat) fun (i : Nat) => AV.sc (Value.int IntKind.u64 (sf i))] []
    (AV.ar (4 : Nat) (1 : Nat) fun (i0 : Nat) => AV.sc (Value.int IntKind.u64 (r_5 i0))) [] ∧
    ∃ (r_6 : ByteArray),
    Ok Proofs.Try.prog (13 : Nat) [AV.ar (4 : Nat) (1 : Nat) fun (i : Nat) => AV.sc (Value.int IntKind.u64 (r_5 i))]
    [] (AV.sc (Value.string r_6)) [] ∧
    ∃ (r_7 : Int),
    Ok Proofs.Try.prog (16 : Nat)
    [AV.ar (4 : Nat) (1 : Nat) fun (i : Nat) => AV.sc (Value.int IntKind.u64 (sf i))] []
    (AV.sc (Value.int IntKind.i64 r_7)) [] ∧
    (decide (r_7 < (128 : Int)) = true →
    (((↑r_6.size : Int) == IntKind.i64.wrap ((↑r.size : Int) + (1 : Int))) = true →
    ((0 : Int) ≤ (1 : Int) ∧ (1 : Int) ≤ (↑r.size : Int) ∧ (↑r.size : Int) ≤ (↑r.size : Int)) ∧
    (ByteArray.mk #[(91 : UInt8), (94 : UInt8)]).size +
    (r.extract (Int.toNat (1 : Int)) (↑r.size : Int).toNat).size ≤
    (9223372036854775807 : Nat) ∧
    ((r_6.toList ==
    (ByteArray.mk #[(91 : UInt8), (94 : UInt8)] ++
    r.extract (Int.toNat (1 : Int)) (↑r.size : Int).toNat).toList) =
    true →
    ∃ (r : Bool),
    Ok Proofs.Try.prog (12 : Nat) [] [] (AV.sc (Value.bool r)) [] ∧
    Sub (AV.sc (Value.bool r)) res) ∧
    ((r_6.toList ==
    (ByteArray.mk #[(91 : UInt8), (94 : UInt8)] ++
    r.extract (Int.toNat (1 : Int)) (↑r.size : Int).toNat).toList) =
    !true →
    Sub (AV.sc (Value.bool false)) res)) ∧
    (((↑r_6.size : Int) == IntKind.i64.wrap ((↑r.size : Int) + (1 : Int))) = !true →
    Sub (AV.sc (Value.bool false)) res)) ∧
    (decide (r_7 < (128 : Int)) = false →
    ∃ (r_8 : Int),
    Ok Proofs.Try.prog (16 : Nat)
    [AV.ar (4 : Nat) (1 : Nat) fun (i : Nat) => AV.sc (Value.int IntKind.u64 (sf i))] []
    (AV.sc (Value.int IntKind.i64 r_8)) [] ∧
    (decide (r_8 > (128 : Int)) = true →
    (((↑r.size : Int) == IntKind.i64.wrap ((↑r_6.size : Int) + (1 : Int))) = true →
    ((0 : Int) ≤ (1 : Int) ∧
    (1 : Int) ≤ (↑r_6.size : Int) ∧ (↑r_6.size : Int) ≤ (↑r_6.size : Int)) ∧
    (ByteArray.mk #[(91 : UInt8), (94 : UInt8)]).size +
    (r_6.extract (Int.toNat (1 : Int)) (↑r_6.size : Int).toNat).size ≤
    (9223372036854775807 : Nat) ∧
    ((r.toList ==
    (ByteArray.mk #[(91 : UInt8), (94 : UInt8)] ++
    r_6.extract (Int.toNat (1 : Int)) (↑r_6.size : Int).toNat).toList) =
    true →
    ∃ (r : Bool),
    Ok Proofs.Try.prog (12 : Nat) [] [] (AV.sc (Value.bool r)) [] ∧
    Sub (AV.sc (Value.bool r)) res) ∧
    ((r.toList ==
    (ByteArray.mk #[(91 : UInt8), (94 : UInt8)] ++
    r_6.extract (Int.toNat (1 : Int)) (↑r_6.size : Int).toNat).toList) =
    !true →
    Sub (AV.sc (Value.bool false)) res)) ∧
    (((↑r.size : Int) == IntKind.i64.wrap ((↑r_6.size : Int) + (1 : Int))) = !true →
    Sub (AV.sc (Value.bool false)) res)) ∧
    (decide (r_8 > (128 : Int)) = false →
    ∃ (r : Bool),
    Ok Proofs.Try.prog (12 : Nat) [] [] (AV.sc (Value.bool r)) [] ∧
    Sub (AV.sc (Value.bool r)) res)))) ∧
    ((r_3 != (1 : Int)) = !false → Sub (AV.sc (Value.bool false)) res))) ∧
    ((!r_2) = !false → Sub (AV.sc (Value.bool false)) res)) :
    L9_e sf b c res :=
  rule Go.Am.Seat.tabOk 9 [] Go.Proofs.Try.f9 hf9 [] (s9_e sf b c) (m9_e sf b c) res [] 400
    (Orc.call [] [] (fun (r22 : Nat → Int) => AV.ar (4 : Nat) (1 : Nat) fun (i0 : Nat) => AV.sc (Value.int IntKind.u64 (r22 i0))) (fun (r22 : Nat → Int) => [])
  fun (r22 : Nat → Int) =>
  Orc.call [] [] (fun (r23 : Nat → Int) => AV.ar (4 : Nat) (1 : Nat) fun (i0 : Nat) => AV.sc (Value.int IntKind.u64 (r23 i0))) (fun (r23 : Nat → Int) => [])
    fun (r23 : Nat → Int) =>
    Orc.call [] [] (fun (r15 : Bool) => AV.sc (Value.bool r15)) (fun (r15 : Bool) => []) fun (r15 : Bool) =>
    ((Orc.call [] [] (fun (r15 : Bool) => AV.sc (Value.bool r15)) (fun (r15 : Bool) => []) fun (r15 : Bool) =>
    (Orc.call [] [] (fun (r15 : Bool) => AV.sc (Value.bool r15)) (fun (r15 : Bool) => []) fun (r15 : Bool) =>
    (Orc.ch (Ch.p true)
    (Orc.ch (Ch.p false)
    ((Orc.call [] [] (fun (r16 : Int) => AV.sc (Value.int IntKind.i64 r16)) (fun (r16 : Int) => []) fun (r16 : Int) =>
    (Orc.ch Ch.none
    (Orc.ch (Ch.p false)
    ((Orc.call [] []
    (fun (r24 : Nat → Int) =>
    AV.ar (4 : Nat) (1 : Nat) fun (i0 : Nat) => AV.sc (Value.int IntKind.u64 (r24 i0)))
    (fun (r24 : Nat → Int) => []) fun (r24 : Nat → Int) =>
    (Orc.ch Ch.none
    (Orc.ch (Ch.p false)
    ((Orc.fin (AV.sc (Value.bool false)) [] []).br
    (Orc.call [] [] (fun (r13 : ByteArray) => AV.sc (Value.string r13))
    (fun (r13 : ByteArray) => []) fun (r13 : ByteArray) =>
    Orc.call [] []
    (fun (r25 : Nat → Int) =>
    AV.ar (4 : Nat) (1 : Nat) fun (i0 : Nat) =>
    AV.sc (Value.int IntKind.u64 (r25 i0)))
    (fun (r25 : Nat → Int) => []) fun (r25 : Nat → Int) =>
    Orc.call [] [] (fun (r13 : ByteArray) => AV.sc (Value.string r13))
    (fun (r13 : ByteArray) => []) fun (r13 : ByteArray) =>
    Orc.call [] [] (fun (r16 : Int) => AV.sc (Value.int IntKind.i64 r16))
    (fun (r16 : Int) => []) fun (r16 : Int) =>
    (((Orc.call [] [] (fun (r12 : Bool) => AV.sc (Value.bool r12))
    (fun (r12 : Bool) => []) fun (r12 : Bool) =>
    Orc.fin
    (AV.sc (Value.bool (bif true then r12 else false)))
    [] []).br
    (Orc.fin (AV.sc (Value.bool false)) []
    [])).yes.yes.yes.yes.br
    (Orc.fin (AV.sc (Value.bool false)) [] []).no.no.no.no.no).br
    (Orc.call [] [] (fun (r16 : Int) => AV.sc (Value.int IntKind.i64 r16))
    (fun (r16 : Int) => []) fun (r16 : Int) =>
    (((Orc.call [] [] (fun (r12 : Bool) => AV.sc (Value.bool r12))
    (fun (r12 : Bool) => []) fun (r12 : Bool) =>
    Orc.fin
    (AV.sc
    (Value.bool (bif true then r12 else false)))
    [] []).br
    (Orc.fin (AV.sc (Value.bool false)) []
    [])).yes.yes.yes.yes.br
    (Orc.fin (AV.sc (Value.bool false)) [] []).no.no.no.no.no).br
    (Orc.call [] [] (fun (r12 : Bool) => AV.sc (Value.bool r12))
    (fun (r12 : Bool) => []) fun (r12 : Bool) =>
    Orc.fin (AV.sc (Value.bool r12)) [] [])))))).yes.yes).yes.yes.br
    (Orc.ch (Ch.p true) (Orc.fin (AV.sc (Value.bool false)) [] []).yes).no.no.no.no))).yes).yes.br
    (Orc.ch (Ch.p true)
    (Orc.ch (Ch.p true)
    (Orc.fin (AV.sc (Value.bool false)) []
    []).yes).no.no.no.no.no).no.no))).yes.yes).yes.yes.yes).yes.yes.br
    (Orc.ch (Ch.p false)
    (Orc.ch (Ch.p false)
    (Orc.call [] [] (fun (r16 : Int) => AV.sc (Value.int IntKind.i64 r16)) (fun (r16 : Int) => []) fun (r16 : Int) =>
    (Orc.ch Ch.none
    (Orc.ch (Ch.p false)
    ((Orc.call [] []
    (fun (r24 : Nat → Int) =>
    AV.ar (4 : Nat) (1 : Nat) fun (i0 : Nat) => AV.sc (Value.int IntKind.u64 (r24 i0)))
    (fun (r24 : Nat → Int) => []) fun (r24 : Nat → Int) =>
    (Orc.ch Ch.none
    (Orc.ch (Ch.p false)
    ((Orc.fin (AV.sc (Value.bool false)) [] []).br
    (Orc.call [] [] (fun (r13 : ByteArray) => AV.sc (Value.string r13))
    (fun (r13 : ByteArray) => []) fun (r13 : ByteArray) =>
    Orc.call [] []
    (fun (r25 : Nat → Int) =>
    AV.ar (4 : Nat) (1 : Nat) fun (i0 : Nat) => AV.sc (Value.int IntKind.u64 (r25 i0)))
    (fun (r25 : Nat → Int) => []) fun (r25 : Nat → Int) =>
    Orc.call [] [] (fun (r13 : ByteArray) => AV.sc (Value.string r13))
    (fun (r13 : ByteArray) => []) fun (r13 : ByteArray) =>
    Orc.call [] [] (fun (r16 : Int) => AV.sc (Value.int IntKind.i64 r16))
    (fun (r16 : Int) => []) fun (r16 : Int) =>
    (((Orc.call [] [] (fun (r12 : Bool) => AV.sc (Value.bool r12))
    (fun (r12 : Bool) => []) fun (r12 : Bool) =>
    Orc.fin (AV.sc (Value.bool (bif true then r12 else false))) []
    []).br
    (Orc.fin (AV.sc (Value.bool false)) [] [])).yes.yes.yes.yes.br
    (Orc.fin (AV.sc (Value.bool false)) [] []).no.no.no.no.no).br
    (Orc.call [] [] (fun (r16 : Int) => AV.sc (Value.int IntKind.i64 r16))
    (fun (r16 : Int) => []) fun (r16 : Int) =>
    (((Orc.call [] [] (fun (r12 : Bool) => AV.sc (Value.bool r12))
    (fun (r12 : Bool) => []) fun (r12 : Bool) =>
    Orc.fin
    (AV.sc (Value.bool (bif true then r12 else false))) []
    []).br
    (Orc.fin (AV.sc (Value.bool false)) [] [])).yes.yes.yes.yes.br
    (Orc.fin (AV.sc (Value.bool false)) [] []).no.no.no.no.no).br
    (Orc.call [] [] (fun (r12 : Bool) => AV.sc (Value.bool r12))
    (fun (r12 : Bool) => []) fun (r12 : Bool) =>
    Orc.fin (AV.sc (Value.bool r12)) [] [])))))).yes.yes).yes.yes.br
    (Orc.ch (Ch.p true)
    (Orc.fin (AV.sc (Value.bool false)) []
    []).yes).no.no.no.no))).yes).yes.yes)).yes.no.no.no.no.no.no).yes.yes.yes.br
    (Orc.ch (Ch.p true) (Orc.ch (Ch.p true) (Orc.ch (Ch.p true) (Orc.fin (AV.sc (Value.bool false)) [] []).yes).no.no.no.no.no).no.no.no).no.no.no.no) _ _ (by kernel_rfl) (by kernel_rfl) (show True ∧
  True ∧
    True ∧
    True ∧
    ∃ (r : Nat → Int),
    ((True ∧ True ∧ True) ∧
    True ∧
    Ok Proofs.Try.prog (22 : Nat) [AV.sc (Value.int IntKind.u8 b), AV.sc (Value.int IntKind.u8 b)] []
    (AV.ar (4 : Nat) (1 : Nat) fun (i0 : Nat) => AV.sc (Value.int IntKind.u64 (r i0))) []) ∧
    True ∧
    ((0 : Nat) = (0 : Nat) ∧ True) ∧
    ((0 : Nat) = (0 : Nat) ∧ True) ∧
    ((0 : Nat) = (0 : Nat) ∧ True) ∧
    ∃ (r_1 : Nat → Int),
    ((True ∧ True ∧ True) ∧
    True ∧
    Ok Proofs.Try.prog (23 : Nat)
    [AV.ar (4 : Nat) (1 : Nat) fun (i : Nat) => AV.sc (Value.int IntKind.u64 (sf i)),
    AV.ar (4 : Nat) (1 : Nat) fun (i : Nat) => AV.sc (Value.int IntKind.u64 (r i))]
    [] (AV.ar (4 : Nat) (1 : Nat) fun (i0 : Nat) => AV.sc (Value.int IntKind.u64 (r_1 i0))) []) ∧
    True ∧
    ((0 : Nat) = (0 : Nat) ∧ True) ∧
    ((0 : Nat) = (0 : Nat) ∧ True) ∧
    True ∧
    ∃ (r_2 : Bool),
    ((True ∧ True ∧ True) ∧
    True ∧
    Ok Proofs.Try.prog (15 : Nat)
    [AV.ar (4 : Nat) (1 : Nat) fun (i : Nat) => AV.sc (Value.int IntKind.u64 (r_1 i)), AV.sc (Value.int IntKind.u8 b)] []
    (AV.sc (Value.bool r_2)) []) ∧
    True ∧
    True ∧
    ((!r_2) = false →
    True ∧
    (!r_2) = false ∧
    True ∧
    (!r_2) = false ∧
    True ∧
    (!r_2) = false ∧
    True ∧
    ((c != b) = true →
    ((0 : Nat) = (0 : Nat) ∧ True) ∧
    (c != b) = true ∧
    True ∧
    (c != b) = true ∧
    ∃ (r_3 : Bool),
    ((True ∧ True ∧ True) ∧
    True ∧
    Ok Proofs.Try.prog (15 : Nat)
    [AV.ar (4 : Nat) (1 : Nat) fun (i : Nat) =>
    AV.sc (Value.int IntKind.u64 (r_1 i)),
    AV.sc (Value.int IntKind.u8 c)]
    [] (AV.sc (Value.bool r_3)) []) ∧
    (c != b) = true ∧
    ((0 : Nat) = (0 : Nat) ∧ True) ∧
    (c != b) = true ∧
    True ∧
    (c != b) = true ∧
    ∃ (r_4 : Bool),
    ((True ∧ True ∧ True) ∧
    True ∧
    Ok Proofs.Try.prog (15 : Nat)
    [AV.ar (4 : Nat) (1 : Nat) fun (i : Nat) =>
    AV.sc (Value.int IntKind.u64 (sf i)),
    AV.sc (Value.int IntKind.u8 c)]
    [] (AV.sc (Value.bool r_4)) []) ∧
    (c != b) = true ∧
    True ∧
    (!r_2) = false ∧
    (c != b) = true ∧
    (!r_2) = false ∧
    True ∧
    ((!r_3 == r_4) = false →
    ((0 : Nat) = (0 : Nat) ∧ True) ∧
    (!r_3 == r_4) = false ∧
    ∃ (r_5 : Int),
    ((True ∧ True) ∧
    True ∧
    Ok Proofs.Try.prog (16 : Nat)
    [AV.ar (4 : Nat) (1 : Nat)
    fun (i : Nat) =>
    AV.sc (Value.int IntKind.u64 (r i))]
    [] (AV.sc (Value.int IntKind.i64 r_5))
    []) ∧
    (!r_3 == r_4) = false ∧
    True ∧
    (!r_3 == r_4) = false ∧
    True ∧
    ((r_5 != (1 : Int)) = false →
    ((0 : Nat) = (0 : Nat) ∧ True) ∧
    (r_5 != (1 : Int)) = false ∧
    ((0 : Nat) = (0 : Nat) ∧ True) ∧
    (r_5 != (1 : Int)) = false ∧
    ∃ (r_6 : Nat → Int),
    ((True ∧ True ∧ True) ∧
    True ∧
    Ok Proofs.Try.prog
    (24 : Nat)
    [AV.ar (4 : Nat)
    (1 : Nat)
    fun
    (i : Nat) =>
    AV.sc
    (Value.int
    IntKind.u64
    (r_1 i)),
    AV.ar (4 : Nat)
    (1 : Nat)
    fun
    (i : Nat) =>
    AV.sc
    (Value.int
    IntKind.u64
    (r i))]
    []
    (AV.ar (4 : Nat)
    (1 : Nat)
    fun
    (i0 : Nat) =>
    AV.sc
    (Value.int
    IntKind.u64
    (r_6 i0)))
    []) ∧
    (r_5 != (1 : Int)) =
    false ∧
    ((0 : Nat) =
    (0 : Nat) ∧
    True) ∧
    (r_5 != (1 : Int)) =
    false ∧
    (∀ (i : Nat),
    i <
    (4 :
    Nat) →
    (AV.sc
    (Value.int
    IntKind.u64
    (r_6
    i))).sz =
    (1 :
    Nat) ∧
    (AV.sc
    (Value.int
    IntKind.u64
    (r
    i))).sz =
    (1 :
    Nat) ∧
    false =
    false ∧
    false =
    false ∧
    True) ∧
    (r_5 !=
    (1 :
    Int)) =
    false ∧
    ((!cdec
    (∀
    (i :
    Nat),
    i <
    (4 :
    Nat) →
    r_6
    i =
    r
    i)) =
    true →
    True ∧
    True ∧
    ((True ∧
    Sub
    (AV.sc
    (Value.bool
    false))
    (AV.sc
    (Value.bool
    false)) ∧
    True) ∧
    True) ∧
    Sub
    (AV.sc
    (Value.bool
    false))
    res ∧
    SubOut
    []
    []) ∧
    ((!cdec
    (∀
    (i :
    Nat),
    i <
    (4 :
    Nat) →
    r_6
    i =
    r
    i)) =
    false →
    ((0 :
    Nat) =
    (0 :
    Nat) ∧
    True) ∧
    ∃ (r :
    ByteArray),
    ((True ∧
    True) ∧
    True ∧
    Ok
    Proofs.Try.prog
    (13 :
    Nat)
    [AV.ar
    (4 :
    Nat)
    (1 :
    Nat)
    fun
    (i :
    Nat) =>
    AV.sc
    (Value.int
    IntKind.u64
    (sf
    i))]
    []
    (AV.sc
    (Value.string
    r))
    []) ∧
    ((0 :
    Nat) =
    (0 :
    Nat) ∧
    True) ∧
    ∃
    (r_7
    :
    Nat →
    Int),
    ((True ∧
    True) ∧
    True ∧
    Ok
    Proofs.Try.prog
    (25 :
    Nat)
    [AV.ar
    (4 :
    Nat)
    (1 :
    Nat)
    fun
    (i :
    Nat) =>
    AV.sc
    (Value.int
    IntKind.u64
    (sf
    i))]
    []
    (AV.ar
    (4 :
    Nat)
    (1 :
    Nat)
    fun
    (i0 :
    Nat) =>
    AV.sc
    (Value.int
    IntKind.u64
    (r_7
    i0)))
    []) ∧
    ∃
    (r_8
    :
    ByteArray),
    ((True ∧
    True) ∧
    True ∧
    Ok
    Proofs.Try.prog
    (13 :
    Nat)
    [AV.ar
    (4 :
    Nat)
    (1 :
    Nat)
    fun
    (i :
    Nat) =>
    AV.sc
    (Value.int
    IntKind.u64
    (r_7
    i))]
    []
    (AV.sc
    (Value.string
    r_8))
    []) ∧
    True ∧
    True ∧
    ((0 :
    Nat) =
    (0 :
    Nat) ∧
    True) ∧
    ∃
    (r_9
    :
    Int),
    ((True ∧
    True) ∧
    True ∧
    Ok
    Proofs.Try.prog
    (16 :
    Nat)
    [AV.ar
    (4 :
    Nat)
    (1 :
    Nat)
    fun
    (i :
    Nat) =>
    AV.sc
    (Value.int
    IntKind.u64
    (sf
    i))]
    []
    (AV.sc
    (Value.int
    IntKind.i64
    r_9))
    []) ∧
    True ∧
    (decide
    (r_9 <
    (128 :
    Int)) =
    true →
    True ∧
    True ∧
    True ∧
    True ∧
    True ∧
    True ∧
    True ∧
    (((↑r_8.size :
    Int) ==
    IntKind.i64.wrap
    ((↑r.size :
    Int) +
    (1 :
    Int))) =
    true →
    True ∧
    true =
    true ∧
    True ∧
    true =
    true ∧
    ((0 :
    Int) ≤
    (1 :
    Int) ∧
    (1 :
    Int) ≤
    (↑r.size :
    Int) ∧
    (↑r.size :
    Int) ≤
    (↑r.size :
    Int)) ∧
    true =
    true ∧
    (ByteArray.mk
    #[(91 :
    UInt8),
    (94 :
    UInt8)]).size +
    (r.extract
    (Int.toNat
    (1 :
    Int))
    (↑r.size :
    Int).toNat).size ≤
    (9223372036854775807 :
    Nat) ∧
    true =
    true ∧
    True ∧
    True ∧
    True ∧
    ((r_8.toList ==
    (ByteArray.mk
    #[(91 :
    UInt8),
    (94 :
    UInt8)] ++
    r.extract
    (Int.toNat
    (1 :
    Int))
    (↑r.size :
    Int).toNat).toList) =
    true →
    ∃
    (r
    :
    Bool),
    (True ∧
    True ∧
    Ok
    Proofs.Try.prog
    (12 :
    Nat)
    []
    []
    (AV.sc
    (Value.bool
    r))
    []) ∧
    True ∧
    True ∧
    True ∧
    ((True ∧
    Sub
    (AV.sc
    (Value.bool
    r))
    (AV.sc
    (Value.bool
    r)) ∧
    True) ∧
    True) ∧
    Sub
    (AV.sc
    (Value.bool
    r))
    res ∧
    SubOut
    []
    []) ∧
    ((r_8.toList ==
    (ByteArray.mk
    #[(91 :
    UInt8),
    (94 :
    UInt8)] ++
    r.extract
    (Int.toNat
    (1 :
    Int))
    (↑r.size :
    Int).toNat).toList) =
    !true →
    true =
    true ∧
    True ∧
    True ∧
    True ∧
    ((True ∧
    Sub
    (AV.sc
    (Value.bool
    false))
    (AV.sc
    (Value.bool
    false)) ∧
    True) ∧
    True) ∧
    Sub
    (AV.sc
    (Value.bool
    false))
    res ∧
    SubOut
    []
    [])) ∧
    (((↑r_8.size :
    Int) ==
    IntKind.i64.wrap
    ((↑r.size :
    Int) +
    (1 :
    Int))) =
    !true →
    true =
    true ∧
    (!true) =
    !true ∧
    true =
    true ∧
    (!true) =
    !true ∧
    true =
    true ∧
    (!true) =
    !true ∧
    true =
    true ∧
    (!true) =
    !true ∧
    true =
    true ∧
    True ∧
    True ∧
    false =
    !true ∧
    true =
    true ∧
    True ∧
    True ∧
    True ∧
    ((True ∧
    Sub
    (AV.sc
    (Value.bool
    false))
    (AV.sc
    (Value.bool
    false)) ∧
    True) ∧
    True) ∧
    Sub
    (AV.sc
    (Value.bool
    false))
    res ∧
    SubOut
    []
    [])) ∧
    (decide
    (r_9 <
    (128 :
    Int)) =
    false →
    ((0 :
    Nat) =
    (0 :
    Nat) ∧
    True) ∧
    ∃
    (r_10
    :
    Int),
    ((True ∧
    True) ∧
    True ∧
    Ok
    Proofs.Try.prog
    (16 :
    Nat)
    [AV.ar
    (4 :
    Nat)
    (1 :
    Nat)
    fun
    (i :
    Nat) =>
    AV.sc
    (Value.int
    IntKind.u64
    (sf
    i))]
    []
    (AV.sc
    (Value.int
    IntKind.i64
    r_10))
    []) ∧
    True ∧
    (decide
    (r_10 >
    (128 :
    Int)) =
    true →
    True ∧
    True ∧
    True ∧
    True ∧
    True ∧
    True ∧
    True ∧
    (((↑r.size :
    Int) ==
    IntKind.i64.wrap
    ((↑r_8.size :
    Int) +
    (1 :
    Int))) =
    true →
    True ∧
    true =
    true ∧
    True ∧
    true =
    true ∧
    ((0 :
    Int) ≤
    (1 :
    Int) ∧
    (1 :
    Int) ≤
    (↑r_8.size :
    Int) ∧
    (↑r_8.size :
    Int) ≤
    (↑r_8.size :
    Int)) ∧
    true =
    true ∧
    (ByteArray.mk
    #[(91 :
    UInt8),
    (94 :
    UInt8)]).size +
    (r_8.extract
    (Int.toNat
    (1 :
    Int))
    (↑r_8.size :
    Int).toNat).size ≤
    (9223372036854775807 :
    Nat) ∧
    true =
    true ∧
    True ∧
    True ∧
    True ∧
    ((r.toList ==
    (ByteArray.mk
    #[(91 :
    UInt8),
    (94 :
    UInt8)] ++
    r_8.extract
    (Int.toNat
    (1 :
    Int))
    (↑r_8.size :
    Int).toNat).toList) =
    true →
    ∃
    (r
    :
    Bool),
    (True ∧
    True ∧
    Ok
    Proofs.Try.prog
    (12 :
    Nat)
    []
    []
    (AV.sc
    (Value.bool
    r))
    []) ∧
    True ∧
    True ∧
    True ∧
    ((True ∧
    Sub
    (AV.sc
    (Value.bool
    r))
    (AV.sc
    (Value.bool
    r)) ∧
    True) ∧
    True) ∧
    Sub
    (AV.sc
    (Value.bool
    r))
    res ∧
    SubOut
    []
    []) ∧
    ((r.toList ==
    (ByteArray.mk
    #[(91 :
    UInt8),
    (94 :
    UInt8)] ++
    r_8.extract
    (Int.toNat
    (1 :
    Int))
    (↑r_8.size :
    Int).toNat).toList) =
    !true →
    true =
    true ∧
    True ∧
    True ∧
    True ∧
    ((True ∧
    Sub
    (AV.sc
    (Value.bool
    false))
    (AV.sc
    (Value.bool
    false)) ∧
    True) ∧
    True) ∧
    Sub
    (AV.sc
    (Value.bool
    false))
    res ∧
    SubOut
    []
    [])) ∧
    (((↑r.size :
    Int) ==
    IntKind.i64.wrap
    ((↑r_8.size :
    Int) +
    (1 :
    Int))) =
    !true →
    true =
    true ∧
    (!true) =
    !true ∧
    true =
    true ∧
    (!true) =
    !true ∧
    true =
    true ∧
    (!true) =
    !true ∧
    true =
    true ∧
    (!true) =
    !true ∧
    true =
    true ∧
    True ∧
    True ∧
    false =
    !true ∧
    true =
    true ∧
    True ∧
    True ∧
    True ∧
    ((True ∧
    Sub
    (AV.sc
    (Value.bool
    false))
    (AV.sc
    (Value.bool
    false)) ∧
    True) ∧
    True) ∧
    Sub
    (AV.sc
    (Value.bool
    false))
    res ∧
    SubOut
    []
    [])) ∧
    (decide
    (r_10 >
    (128 :
    Int)) =
    false →
    ∃
    (r
    :
    Bool),
    (True ∧
    True ∧
    Ok
    Proofs.Try.prog
    (12 :
    Nat)
    []
    []
    (AV.sc
    (Value.bool
    r))
    []) ∧
    True ∧
    True ∧
    ((True ∧
    Sub
    (AV.sc
    (Value.bool
    r))
    (AV.sc
    (Value.bool
    r)) ∧
    True) ∧
    True) ∧
    Sub
    (AV.sc
    (Value.bool
    r))
    res ∧
    SubOut
    []
    [])))) ∧
    ((r_5 != (1 : Int)) = !false →
    true = true ∧
    (r_5 != (1 : Int)) = !false ∧
    true = true ∧
    (r_5 != (1 : Int)) = !false ∧
    true = true ∧
    (r_5 != (1 : Int)) =
    !false ∧
    true = true ∧
    (r_5 != (1 : Int)) =
    !false ∧
    true = true ∧
    (r_5 !=
    (1 : Int)) =
    true ∧
    true = true ∧
    True ∧
    True ∧
    ((True ∧
    Sub
    (AV.sc
    (Value.bool
    false))
    (AV.sc
    (Value.bool
    false)) ∧
    True) ∧
    True) ∧
    Sub
    (AV.sc
    (Value.bool
    false))
    res ∧
    SubOut
    []
    [])) ∧
    ((!r_3 == r_4) = !false →
    true = true ∧
    (!r_3 == r_4) = !false ∧
    true = true ∧
    (!r_3 == r_4) = !false ∧
    true = true ∧
    (!r_3 == r_4) = true ∧
    True ∧
    true = !false ∧
    true = true ∧
    true = !false ∧
    true = true ∧
    true = !false ∧
    true = true ∧
    true = !false ∧
    true = true ∧
    true = !false ∧
    true = true ∧
    true = true ∧
    true = true ∧
    True ∧
    True ∧
    ((True ∧
    Sub
    (AV.sc
    (Value.bool
    false))
    (AV.sc
    (Value.bool
    false)) ∧
    True) ∧
    True) ∧
    Sub
    (AV.sc
    (Value.bool
    false))
    res ∧
    SubOut []
    [])) ∧
    ((c != b) = !true →
    true = true ∧
    (c != b) = !true ∧
    true = true ∧
    (c != b) = !true ∧
    true = true ∧
    (c != b) = !true ∧
    true = true ∧
    (c != b) = !true ∧
    true = true ∧
    (c != b) = !true ∧
    true = true ∧
    (c != b) = !true ∧
    true = true ∧
    (!r_2) = false ∧
    (c != b) = false ∧
    (!r_2) = false ∧
    True ∧
    false = false ∧
    ((0 : Nat) = (0 : Nat) ∧ True) ∧
    false = false ∧
    ∃ (r_3 : Int),
    ((True ∧ True) ∧
    True ∧
    Ok Proofs.Try.prog (16 : Nat)
    [AV.ar (4 : Nat) (1 : Nat) fun (i : Nat) =>
    AV.sc (Value.int IntKind.u64 (r i))]
    [] (AV.sc (Value.int IntKind.i64 r_3)) []) ∧
    false = false ∧
    True ∧
    false = false ∧
    True ∧
    ((r_3 != (1 : Int)) = false →
    ((0 : Nat) = (0 : Nat) ∧ True) ∧
    (r_3 != (1 : Int)) = false ∧
    ((0 : Nat) = (0 : Nat) ∧ True) ∧
    (r_3 != (1 : Int)) = false ∧
    ∃ (r_4 : Nat → Int),
    ((True ∧ True ∧ True) ∧
    True ∧
    Ok Proofs.Try.prog
    (24 : Nat)
    [AV.ar (4 : Nat)
    (1 : Nat)
    fun (i : Nat) =>
    AV.sc
    (Value.int
    IntKind.u64
    (r_1 i)),
    AV.ar (4 : Nat)
    (1 : Nat)
    fun (i : Nat) =>
    AV.sc
    (Value.int
    IntKind.u64
    (r i))]
    []
    (AV.ar (4 : Nat)
    (1 : Nat)
    fun (i0 : Nat) =>
    AV.sc
    (Value.int
    IntKind.u64
    (r_4 i0)))
    []) ∧
    (r_3 != (1 : Int)) = false ∧
    ((0 : Nat) = (0 : Nat) ∧
    True) ∧
    (r_3 != (1 : Int)) =
    false ∧
    (∀ (i : Nat),
    i < (4 : Nat) →
    (AV.sc
    (Value.int
    IntKind.u64
    (r_4
    i))).sz =
    (1 : Nat) ∧
    (AV.sc
    (Value.int
    IntKind.u64
    (r
    i))).sz =
    (1 : Nat) ∧
    false =
    false ∧
    false =
    false ∧
    True) ∧
    (r_3 != (1 : Int)) =
    false ∧
    ((!cdec
    (∀
    (i :
    Nat),
    i <
    (4 :
    Nat) →
    r_4
    i =
    r
    i)) =
    true →
    True ∧
    True ∧
    ((True ∧
    Sub
    (AV.sc
    (Value.bool
    false))
    (AV.sc
    (Value.bool
    false)) ∧
    True) ∧
    True) ∧
    Sub
    (AV.sc
    (Value.bool
    false))
    res ∧
    SubOut
    []
    []) ∧
    ((!cdec
    (∀
    (i :
    Nat),
    i <
    (4 :
    Nat) →
    r_4
    i =
    r
    i)) =
    false →
    ((0 : Nat) =
    (0 :
    Nat) ∧
    True) ∧
    ∃ (r :
    ByteArray),
    ((True ∧
    True) ∧
    True ∧
    Ok
    Proofs.Try.prog
    (13 :
    Nat)
    [AV.ar
    (4 :
    Nat)
    (1 :
    Nat)
    fun
    (i :
    Nat) =>
    AV.sc
    (Value.int
    IntKind.u64
    (sf
    i))]
    []
    (AV.sc
    (Value.string
    r))
    []) ∧
    ((0 :
    Nat) =
    (0 :
    Nat) ∧
    True) ∧
    ∃ (r_5 :
    Nat →
    Int),
    ((True ∧
    True) ∧
    True ∧
    Ok
    Proofs.Try.prog
    (25 :
    Nat)
    [AV.ar
    (4 :
    Nat)
    (1 :
    Nat)
    fun
    (i :
    Nat) =>
    AV.sc
    (Value.int
    IntKind.u64
    (sf
    i))]
    []
    (AV.ar
    (4 :
    Nat)
    (1 :
    Nat)
    fun
    (i0 :
    Nat) =>
    AV.sc
    (Value.int
    IntKind.u64
    (r_5
    i0)))
    []) ∧
    ∃
    (r_6
    :
    ByteArray),
    ((True ∧
    True) ∧
    True ∧
    Ok
    Proofs.Try.prog
    (13 :
    Nat)
    [AV.ar
    (4 :
    Nat)
    (1 :
    Nat)
    fun
    (i :
    Nat) =>
    AV.sc
    (Value.int
    IntKind.u64
    (r_5
    i))]
    []
    (AV.sc
    (Value.string
    r_6))
    []) ∧
    True ∧
    True ∧
    ((0 :
    Nat) =
    (0 :
    Nat) ∧
    True) ∧
    ∃
    (r_7
    :
    Int),
    ((True ∧
    True) ∧
    True ∧
    Ok
    Proofs.Try.prog
    (16 :
    Nat)
    [AV.ar
    (4 :
    Nat)
    (1 :
    Nat)
    fun
    (i :
    Nat) =>
    AV.sc
    (Value.int
    IntKind.u64
    (sf
    i))]
    []
    (AV.sc
    (Value.int
    IntKind.i64
    r_7))
    []) ∧
    True ∧
    (decide
    (r_7 <
    (128 :
    Int)) =
    true →
    True ∧
    True ∧
    True ∧
    True ∧
    True ∧
    True ∧
    True ∧
    (((↑r_6.size :
    Int) ==
    IntKind.i64.wrap
    ((↑r.size :
    Int) +
    (1 :
    Int))) =
    true →
    True ∧
    true =
    true ∧
    True ∧
    true =
    true ∧
    ((0 :
    Int) ≤
    (1 :
    Int) ∧
    (1 :
    Int) ≤
    (↑r.size :
    Int) ∧
    (↑r.size :
    Int) ≤
    (↑r.size :
    Int)) ∧
    true =
    true ∧
    (ByteArray.mk
    #[(91 :
    UInt8),
    (94 :
    UInt8)]).size +
    (r.extract
    (Int.toNat
    (1 :
    Int))
    (↑r.size :
    Int).toNat).size ≤
    (9223372036854775807 :
    Nat) ∧
    true =
    true ∧
    True ∧
    True ∧
    True ∧
    ((r_6.toList ==
    (ByteArray.mk
    #[(91 :
    UInt8),
    (94 :
    UInt8)] ++
    r.extract
    (Int.toNat
    (1 :
    Int))
    (↑r.size :
    Int).toNat).toList) =
    true →
    ∃
    (r
    :
    Bool),
    (True ∧
    True ∧
    Ok
    Proofs.Try.prog
    (12 :
    Nat)
    []
    []
    (AV.sc
    (Value.bool
    r))
    []) ∧
    True ∧
    True ∧
    True ∧
    ((True ∧
    Sub
    (AV.sc
    (Value.bool
    r))
    (AV.sc
    (Value.bool
    r)) ∧
    True) ∧
    True) ∧
    Sub
    (AV.sc
    (Value.bool
    r))
    res ∧
    SubOut
    []
    []) ∧
    ((r_6.toList ==
    (ByteArray.mk
    #[(91 :
    UInt8),
    (94 :
    UInt8)] ++
    r.extract
    (Int.toNat
    (1 :
    Int))
    (↑r.size :
    Int).toNat).toList) =
    !true →
    true =
    true ∧
    True ∧
    True ∧
    True ∧
    ((True ∧
    Sub
    (AV.sc
    (Value.bool
    false))
    (AV.sc
    (Value.bool
    false)) ∧
    True) ∧
    True) ∧
    Sub
    (AV.sc
    (Value.bool
    false))
    res ∧
    SubOut
    []
    [])) ∧
    (((↑r_6.size :
    Int) ==
    IntKind.i64.wrap
    ((↑r.size :
    Int) +
    (1 :
    Int))) =
    !true →
    true =
    true ∧
    (!true) =
    !true ∧
    true =
    true ∧
    (!true) =
    !true ∧
    true =
    true ∧
    (!true) =
    !true ∧
    true =
    true ∧
    (!true) =
    !true ∧
    true =
    true ∧
    True ∧
    True ∧
    false =
    !true ∧
    true =
    true ∧
    True ∧
    True ∧
    True ∧
    ((True ∧
    Sub
    (AV.sc
    (Value.bool
    false))
    (AV.sc
    (Value.bool
    false)) ∧
    True) ∧
    True) ∧
    Sub
    (AV.sc
    (Value.bool
    false))
    res ∧
    SubOut
    []
    [])) ∧
    (decide
    (r_7 <
    (128 :
    Int)) =
    false →
    ((0 :
    Nat) =
    (0 :
    Nat) ∧
    True) ∧
    ∃
    (r_8
    :
    Int),
    ((True ∧
    True) ∧
    True ∧
    Ok
    Proofs.Try.prog
    (16 :
    Nat)
    [AV.ar
    (4 :
    Nat)
    (1 :
    Nat)
    fun
    (i :
    Nat) =>
    AV.sc
    (Value.int
    IntKind.u64
    (sf
    i))]
    []
    (AV.sc
    (Value.int
    IntKind.i64
    r_8))
    []) ∧
    True ∧
    (decide
    (r_8 >
    (128 :
    Int)) =
    true →
    True ∧
    True ∧
    True ∧
    True ∧
    True ∧
    True ∧
    True ∧
    (((↑r.size :
    Int) ==
    IntKind.i64.wrap
    ((↑r_6.size :
    Int) +
    (1 :
    Int))) =
    true →
    True ∧
    true =
    true ∧
    True ∧
    true =
    true ∧
    ((0 :
    Int) ≤
    (1 :
    Int) ∧
    (1 :
    Int) ≤
    (↑r_6.size :
    Int) ∧
    (↑r_6.size :
    Int) ≤
    (↑r_6.size :
    Int)) ∧
    true =
    true ∧
    (ByteArray.mk
    #[(91 :
    UInt8),
    (94 :
    UInt8)]).size +
    (r_6.extract
    (Int.toNat
    (1 :
    Int))
    (↑r_6.size :
    Int).toNat).size ≤
    (9223372036854775807 :
    Nat) ∧
    true =
    true ∧
    True ∧
    True ∧
    True ∧
    ((r.toList ==
    (ByteArray.mk
    #[(91 :
    UInt8),
    (94 :
    UInt8)] ++
    r_6.extract
    (Int.toNat
    (1 :
    Int))
    (↑r_6.size :
    Int).toNat).toList) =
    true →
    ∃
    (r
    :
    Bool),
    (True ∧
    True ∧
    Ok
    Proofs.Try.prog
    (12 :
    Nat)
    []
    []
    (AV.sc
    (Value.bool
    r))
    []) ∧
    True ∧
    True ∧
    True ∧
    ((True ∧
    Sub
    (AV.sc
    (Value.bool
    r))
    (AV.sc
    (Value.bool
    r)) ∧
    True) ∧
    True) ∧
    Sub
    (AV.sc
    (Value.bool
    r))
    res ∧
    SubOut
    []
    []) ∧
    ((r.toList ==
    (ByteArray.mk
    #[(91 :
    UInt8),
    (94 :
    UInt8)] ++
    r_6.extract
    (Int.toNat
    (1 :
    Int))
    (↑r_6.size :
    Int).toNat).toList) =
    !true →
    true =
    true ∧
    True ∧
    True ∧
    True ∧
    ((True ∧
    Sub
    (AV.sc
    (Value.bool
    false))
    (AV.sc
    (Value.bool
    false)) ∧
    True) ∧
    True) ∧
    Sub
    (AV.sc
    (Value.bool
    false))
    res ∧
    SubOut
    []
    [])) ∧
    (((↑r.size :
    Int) ==
    IntKind.i64.wrap
    ((↑r_6.size :
    Int) +
    (1 :
    Int))) =
    !true →
    true =
    true ∧
    (!true) =
    !true ∧
    true =
    true ∧
    (!true) =
    !true ∧
    true =
    true ∧
    (!true) =
    !true ∧
    true =
    true ∧
    (!true) =
    !true ∧
    true =
    true ∧
    True ∧
    True ∧
    false =
    !true ∧
    true =
    true ∧
    True ∧
    True ∧
    True ∧
    ((True ∧
    Sub
    (AV.sc
    (Value.bool
    false))
    (AV.sc
    (Value.bool
    false)) ∧
    True) ∧
    True) ∧
    Sub
    (AV.sc
    (Value.bool
    false))
    res ∧
    SubOut
    []
    [])) ∧
    (decide
    (r_8 >
    (128 :
    Int)) =
    false →
    ∃
    (r
    :
    Bool),
    (True ∧
    True ∧
    Ok
    Proofs.Try.prog
    (12 :
    Nat)
    []
    []
    (AV.sc
    (Value.bool
    r))
    []) ∧
    True ∧
    True ∧
    ((True ∧
    Sub
    (AV.sc
    (Value.bool
    r))
    (AV.sc
    (Value.bool
    r)) ∧
    True) ∧
    True) ∧
    Sub
    (AV.sc
    (Value.bool
    r))
    res ∧
    SubOut
    []
    [])))) ∧
    ((r_3 != (1 : Int)) = !false →
    true = true ∧
    (r_3 != (1 : Int)) = !false ∧
    true = true ∧
    (r_3 != (1 : Int)) = !false ∧
    true = true ∧
    (r_3 != (1 : Int)) = !false ∧
    true = true ∧
    (r_3 != (1 : Int)) =
    !false ∧
    true = true ∧
    (r_3 != (1 : Int)) =
    true ∧
    true = true ∧
    True ∧
    True ∧
    ((True ∧
    Sub
    (AV.sc
    (Value.bool
    false))
    (AV.sc
    (Value.bool
    false)) ∧
    True) ∧
    True) ∧
    Sub
    (AV.sc
    (Value.bool
    false))
    res ∧
    SubOut []
    []))) ∧
    ((!r_2) = !false →
    true = true ∧
    (!r_2) = !false ∧
    true = true ∧
    (!r_2) = !false ∧
    true = true ∧
    (!r_2) = !false ∧
    true = true ∧
    true = true ∧
    true = true ∧
    true = true ∧
    true = true ∧
    true = true ∧
    true = true ∧
    true = true ∧
    (!r_2) = !false ∧
    true = true ∧
    (!r_2) = true ∧
    True ∧
    true = !false ∧
    true = true ∧
    true = !false ∧
    true = true ∧
    true = !false ∧
    true = true ∧
    true = true ∧
    True ∧
    true = !false ∧
    true = true ∧
    true = !false ∧
    true = true ∧
    true = !false ∧
    true = true ∧
    true = !false ∧
    true = true ∧
    true = !false ∧
    true = true ∧
    true = true ∧
    true = true ∧
    True ∧
    True ∧
    ((True ∧
    Sub (AV.sc (Value.bool false))
    (AV.sc
    (Value.bool false)) ∧
    True) ∧
    True) ∧
    Sub (AV.sc (Value.bool false))
    res ∧
    SubOut [] []) from
    ⟨trivial, ⟨trivial, ⟨trivial, ⟨trivial, (Exists.elim h fun x4 h4 => ⟨x4, (And.elim (fun h5 k5 => ⟨⟨⟨trivial, ⟨trivial, trivial⟩⟩, ⟨trivial, h5⟩⟩, ⟨trivial, ⟨⟨rfl, trivial⟩, ⟨⟨rfl, trivial⟩, ⟨⟨rfl, trivial⟩, (Exists.elim k5 fun x10 h10 => ⟨x10, (And.elim (fun h11 k11 => ⟨⟨⟨trivial, ⟨trivial, trivial⟩⟩, ⟨trivial, h11⟩⟩, ⟨trivial, ⟨⟨rfl, trivial⟩, ⟨⟨rfl, trivial⟩, ⟨trivial, (Exists.elim k11 fun x16 h16 => ⟨x16, (And.elim (fun h17 k17 => ⟨⟨⟨trivial, ⟨trivial, trivial⟩⟩, ⟨trivial, h17⟩⟩, ⟨trivial, ⟨trivial, (And.elim (fun h20 k20 => ⟨(fun x21 => (fun h21 => ⟨trivial, ⟨x21, ⟨trivial, ⟨x21, ⟨trivial, ⟨x21, ⟨trivial, (And.elim (fun h29 k29 => ⟨(fun x30 => (fun h30 => ⟨⟨rfl, trivial⟩, ⟨x30, ⟨trivial, ⟨x30, (Exists.elim h30 fun x35 h35 => ⟨x35, (And.elim (fun h36 k36 => ⟨⟨⟨trivial, ⟨trivial, trivial⟩⟩, ⟨trivial, h36⟩⟩, ⟨x30, ⟨⟨rfl, trivial⟩, ⟨x30, ⟨trivial, ⟨x30, (Exists.elim k36 fun x42 h42 => ⟨x42, (And.elim (fun h43 k43 => ⟨⟨⟨trivial, ⟨trivial, trivial⟩⟩, ⟨trivial, h43⟩⟩, ⟨x30, ⟨trivial, ⟨x21, ⟨x30, ⟨x21, ⟨trivial, (And.elim (fun h50 k50 => ⟨(fun x51 => (fun h51 => ⟨⟨rfl, trivial⟩, ⟨x51, (Exists.elim h51 fun x54 h54 => ⟨x54, (And.elim (fun h55 k55 => ⟨⟨⟨trivial, trivial⟩, ⟨trivial, h55⟩⟩, ⟨x51, ⟨trivial, ⟨x51, ⟨trivial, (And.elim (fun h60 k60 => ⟨(fun x61 => (fun h61 => ⟨⟨rfl, trivial⟩, ⟨x61, ⟨⟨rfl, trivial⟩, ⟨x61, (Exists.elim h61 fun x66 h66 => ⟨x66, (And.elim (fun h67 k67 => ⟨⟨⟨trivial, ⟨trivial, trivial⟩⟩, ⟨trivial, h67⟩⟩, ⟨x61, ⟨⟨rfl, trivial⟩, ⟨x61, (And.elim (fun h71 k71 => ⟨(fun x72 => (fun h72 => (fun x73 => (fun h73 => (And.elim (fun h74 k74 => ⟨h74, ((fun h75 => ⟨h75, ⟨rfl, ⟨rfl, trivial⟩⟩⟩) k74)⟩) h73)) (h72 x73))) (h71 x72)), ⟨x61, (And.elim (fun h73 k73 => ⟨(fun x74 => (fun h74 => ⟨trivial, ⟨trivial, ⟨⟨⟨trivial, ⟨Sub.refl _, trivial⟩⟩, trivial⟩, ((fun h78 => ⟨h78, trivial⟩) h74)⟩⟩⟩) (h73 x74)), (fun x74 => (fun h74 => ⟨⟨rfl, trivial⟩, (Exists.elim h74 fun x76 h76 => ⟨x76, (And.elim (fun h77 k77 => ⟨⟨⟨trivial, trivial⟩, ⟨trivial, h77⟩⟩, ⟨⟨rfl, trivial⟩, (Exists.elim k77 fun x79 h79 => ⟨x79, (And.elim (fun h80 k80 => ⟨⟨⟨trivial, trivial⟩, ⟨trivial, h80⟩⟩, (Exists.elim k80 fun x81 h81 => ⟨x81, (And.elim (fun h82 k82 => ⟨⟨⟨trivial, trivial⟩, ⟨trivial, h82⟩⟩, ⟨trivial, ⟨trivial, ⟨⟨rfl, trivial⟩, (Exists.elim k82 fun x86 h86 => ⟨x86, (And.elim (fun h87 k87 => ⟨⟨⟨trivial, trivial⟩, ⟨trivial, h87⟩⟩, ⟨trivial, (And.elim (fun h89 k89 => ⟨(fun x90 => (fun h90 => ⟨trivial, ⟨trivial, ⟨trivial, ⟨trivial, ⟨trivial, ⟨trivial, ⟨trivial, (And.elim (fun h98 k98 => ⟨(fun x99 => (fun h99 => ⟨trivial, ⟨rfl, ⟨trivial, ⟨rfl, (And.elim (fun h104 k104 => ⟨(And.elim (fun h105 k105 => ⟨h105, (And.elim (fun h106 k106 => ⟨h106, k106⟩) k105)⟩) h104), ⟨rfl, (And.elim (fun h106 k106 => ⟨h106, ⟨rfl, ⟨trivial, ⟨trivial, ⟨trivial, (And.elim (fun h111 k111 => ⟨(fun x112 => (fun h112 => (Exists.elim h112 fun x113 h113 => ⟨x113, (And.elim (fun h114 k114 => ⟨⟨trivial, ⟨trivial, h114⟩⟩, ⟨trivial, ⟨trivial, ⟨trivial, ⟨⟨⟨trivial, ⟨Sub.refl _, trivial⟩⟩, trivial⟩, ((fun h119 => ⟨h119, trivial⟩) k114)⟩⟩⟩⟩⟩) h113)⟩)) (h111 x112)), (fun x112 => (fun h112 => ⟨rfl, ⟨trivial, ⟨trivial, ⟨trivial, ⟨⟨⟨trivial, ⟨Sub.refl _, trivial⟩⟩, trivial⟩, ((fun h118 => ⟨h118, trivial⟩) h112)⟩⟩⟩⟩⟩) (k111 x112))⟩) k106)⟩⟩⟩⟩⟩) k104)⟩⟩) h99)⟩⟩⟩⟩) (h98 x99)), (fun x99 => (fun h99 => ⟨rfl, ⟨rfl, ⟨rfl, ⟨rfl, ⟨rfl, ⟨rfl, ⟨rfl, ⟨rfl, ⟨rfl, ⟨trivial, ⟨trivial, ⟨rfl, ⟨rfl, ⟨trivial, ⟨trivial, ⟨trivial, ⟨⟨⟨trivial, ⟨Sub.refl _, trivial⟩⟩, trivial⟩, ((fun h117 => ⟨h117, trivial⟩) h99)⟩⟩⟩⟩⟩⟩⟩⟩⟩⟩⟩⟩⟩⟩⟩⟩⟩) (k98 x99))⟩) h90)⟩⟩⟩⟩⟩⟩⟩) (h89 x90)), (fun x90 => (fun h90 => ⟨⟨rfl, trivial⟩, (Exists.elim h90 fun x92 h92 => ⟨x92, (And.elim (fun h93 k93 => ⟨⟨⟨trivial, trivial⟩, ⟨trivial, h93⟩⟩, ⟨trivial, (And.elim (fun h95 k95 => ⟨(fun x96 => (fun h96 => ⟨trivial, ⟨trivial, ⟨trivial, ⟨trivial, ⟨trivial, ⟨trivial, ⟨trivial, (And.elim (fun h104 k104 => ⟨(fun x105 => (fun h105 => ⟨trivial, ⟨rfl, ⟨trivial, ⟨rfl, (And.elim (fun h110 k110 => ⟨(And.elim (fun h111 k111 => ⟨h111, (And.elim (fun h112 k112 => ⟨h112, k112⟩) k111)⟩) h110), ⟨rfl, (And.elim (fun h112 k112 => ⟨h112, ⟨rfl, ⟨trivial, ⟨trivial, ⟨trivial, (And.elim (fun h117 k117 => ⟨(fun x118 => (fun h118 => (Exists.elim h118 fun x119 h119 => ⟨x119, (And.elim (fun h120 k120 => ⟨⟨trivial, ⟨trivial, h120⟩⟩, ⟨trivial, ⟨trivial, ⟨trivial, ⟨⟨⟨trivial, ⟨Sub.refl _, trivial⟩⟩, trivial⟩, ((fun h125 => ⟨h125, trivial⟩) k120)⟩⟩⟩⟩⟩) h119)⟩)) (h117 x118)), (fun x118 => (fun h118 => ⟨rfl, ⟨trivial, ⟨trivial, ⟨trivial, ⟨⟨⟨trivial, ⟨Sub.refl _, trivial⟩⟩, trivial⟩, ((fun h124 => ⟨h124, trivial⟩) h118)⟩⟩⟩⟩⟩) (k117 x118))⟩) k112)⟩⟩⟩⟩⟩) k110)⟩⟩) h105)⟩⟩⟩⟩) (h104 x105)), (fun x105 => (fun h105 => ⟨rfl, ⟨rfl, ⟨rfl, ⟨rfl, ⟨rfl, ⟨rfl, ⟨rfl, ⟨rfl, ⟨rfl, ⟨trivial, ⟨trivial, ⟨rfl, ⟨rfl, ⟨trivial, ⟨trivial, ⟨trivial, ⟨⟨⟨trivial, ⟨Sub.refl _, trivial⟩⟩, trivial⟩, ((fun h123 => ⟨h123, trivial⟩) h105)⟩⟩⟩⟩⟩⟩⟩⟩⟩⟩⟩⟩⟩⟩⟩⟩⟩) (k104 x105))⟩) h96)⟩⟩⟩⟩⟩⟩⟩) (h95 x96)), (fun x96 => (fun h96 => (Exists.elim h96 fun x97 h97 => ⟨x97, (And.elim (fun h98 k98 => ⟨⟨trivial, ⟨trivial, h98⟩⟩, ⟨trivial, ⟨trivial, ⟨⟨⟨trivial, ⟨Sub.refl _, trivial⟩⟩, trivial⟩, ((fun h102 => ⟨h102, trivial⟩) k98)⟩⟩⟩⟩) h97)⟩)) (k95 x96))⟩) k93)⟩⟩) h92)⟩)⟩) (k89 x90))⟩) k87)⟩⟩) h86)⟩)⟩⟩⟩⟩) h81)⟩)⟩) h79)⟩)⟩⟩) h76)⟩)⟩) (k73 x74))⟩) k71)⟩⟩) k67)⟩⟩⟩⟩) h66)⟩)⟩⟩⟩⟩) (h60 x61)), (fun x61 => (fun h61 => ⟨rfl, ⟨x61, ⟨rfl, ⟨x61, ⟨rfl, ⟨x61, ⟨rfl, ⟨x61, ⟨rfl, ⟨x61, ⟨rfl, ⟨trivial, ⟨trivial, ⟨⟨⟨trivial, ⟨Sub.refl _, trivial⟩⟩, trivial⟩, ((fun h76 => ⟨h76, trivial⟩) h61)⟩⟩⟩⟩⟩⟩⟩⟩⟩⟩⟩⟩⟩⟩) (k60 x61))⟩) k55)⟩⟩⟩⟩⟩) h54)⟩)⟩⟩) (h50 x51)), (fun x51 => (fun h51 => ⟨rfl, ⟨x51, ⟨rfl, ⟨x51, ⟨rfl, ⟨x51, ⟨trivial, ⟨rfl, ⟨rfl, ⟨rfl, ⟨rfl, ⟨rfl, ⟨rfl, ⟨rfl, ⟨rfl, ⟨rfl, ⟨rfl, ⟨rfl, ⟨rfl, ⟨trivial, ⟨trivial, ⟨⟨⟨trivial, ⟨Sub.refl _, trivial⟩⟩, trivial⟩, ((fun h74 => ⟨h74, trivial⟩) h51)⟩⟩⟩⟩⟩⟩⟩⟩⟩⟩⟩⟩⟩⟩⟩⟩⟩⟩⟩⟩⟩⟩) (k50 x51))⟩) k43)⟩⟩⟩⟩⟩⟩⟩) h42)⟩)⟩⟩⟩⟩⟩⟩) h35)⟩)⟩⟩⟩⟩) (h29 x30)), (fun x30 => (fun h30 => ⟨rfl, ⟨x30, ⟨rfl, ⟨x30, ⟨rfl, ⟨x30, ⟨rfl, ⟨x30, ⟨rfl, ⟨x30, ⟨rfl, ⟨x30, ⟨rfl, ⟨x21, ⟨x30, ⟨x21, ⟨trivial, ⟨rfl, ⟨⟨rfl, trivial⟩, ⟨rfl, (Exists.elim h30 fun x51 h51 => ⟨x51, (And.elim (fun h52 k52 => ⟨⟨⟨trivial, trivial⟩, ⟨trivial, h52⟩⟩, ⟨rfl, ⟨trivial, ⟨rfl, ⟨trivial, (And.elim (fun h57 k57 => ⟨(fun x58 => (fun h58 => ⟨⟨rfl, trivial⟩, ⟨x58, ⟨⟨rfl, trivial⟩, ⟨x58, (Exists.elim h58 fun x63 h63 => ⟨x63, (And.elim (fun h64 k64 => ⟨⟨⟨trivial, ⟨trivial, trivial⟩⟩, ⟨trivial, h64⟩⟩, ⟨x58, ⟨⟨rfl, trivial⟩, ⟨x58, (And.elim (fun h68 k68 => ⟨(fun x69 => (fun h69 => (fun x70 => (fun h70 => (And.elim (fun h71 k71 => ⟨h71, ((fun h72 => ⟨h72, ⟨rfl, ⟨rfl, trivial⟩⟩⟩) k71)⟩) h70)) (h69 x70))) (h68 x69)), ⟨x58, (And.elim (fun h70 k70 => ⟨(fun x71 => (fun h71 => ⟨trivial, ⟨trivial, ⟨⟨⟨trivial, ⟨Sub.refl _, trivial⟩⟩, trivial⟩, ((fun h75 => ⟨h75, trivial⟩) h71)⟩⟩⟩) (h70 x71)), (fun x71 => (fun h71 => ⟨⟨rfl, trivial⟩, (Exists.elim h71 fun x73 h73 => ⟨x73, (And.elim (fun h74 k74 => ⟨⟨⟨trivial, trivial⟩, ⟨trivial, h74⟩⟩, ⟨⟨rfl, trivial⟩, (Exists.elim k74 fun x76 h76 => ⟨x76, (And.elim (fun h77 k77 => ⟨⟨⟨trivial, trivial⟩, ⟨trivial, h77⟩⟩, (Exists.elim k77 fun x78 h78 => ⟨x78, (And.elim (fun h79 k79 => ⟨⟨⟨trivial, trivial⟩, ⟨trivial, h79⟩⟩, ⟨trivial, ⟨trivial, ⟨⟨rfl, trivial⟩, (Exists.elim k79 fun x83 h83 => ⟨x83, (And.elim (fun h84 k84 => ⟨⟨⟨trivial, trivial⟩, ⟨trivial, h84⟩⟩, ⟨trivial, (And.elim (fun h86 k86 => ⟨(fun x87 => (fun h87 => ⟨trivial, ⟨trivial, ⟨trivial, ⟨trivial, ⟨trivial, ⟨trivial, ⟨trivial, (And.elim (fun h95 k95 => ⟨(fun x96 => (fun h96 => ⟨trivial, ⟨rfl, ⟨trivial, ⟨rfl, (And.elim (fun h101 k101 => ⟨(And.elim (fun h102 k102 => ⟨h102, (And.elim (fun h103 k103 => ⟨h103, k103⟩) k102)⟩) h101), ⟨rfl, (And.elim (fun h103 k103 => ⟨h103, ⟨rfl, ⟨trivial, ⟨trivial, ⟨trivial, (And.elim (fun h108 k108 => ⟨(fun x109 => (fun h109 => (Exists.elim h109 fun x110 h110 => ⟨x110, (And.elim (fun h111 k111 => ⟨⟨trivial, ⟨trivial, h111⟩⟩, ⟨trivial, ⟨trivial, ⟨trivial, ⟨⟨⟨trivial, ⟨Sub.refl _, trivial⟩⟩, trivial⟩, ((fun h116 => ⟨h116, trivial⟩) k111)⟩⟩⟩⟩⟩) h110)⟩)) (h108 x109)), (fun x109 => (fun h109 => ⟨rfl, ⟨trivial, ⟨trivial, ⟨trivial, ⟨⟨⟨trivial, ⟨Sub.refl _, trivial⟩⟩, trivial⟩, ((fun h115 => ⟨h115, trivial⟩) h109)⟩⟩⟩⟩⟩) (k108 x109))⟩) k103)⟩⟩⟩⟩⟩) k101)⟩⟩) h96)⟩⟩⟩⟩) (h95 x96)), (fun x96 => (fun h96 => ⟨rfl, ⟨rfl, ⟨rfl, ⟨rfl, ⟨rfl, ⟨rfl, ⟨rfl, ⟨rfl, ⟨rfl, ⟨trivial, ⟨trivial, ⟨rfl, ⟨rfl, ⟨trivial, ⟨trivial, ⟨trivial, ⟨⟨⟨trivial, ⟨Sub.refl _, trivial⟩⟩, trivial⟩, ((fun h114 => ⟨h114, trivial⟩) h96)⟩⟩⟩⟩⟩⟩⟩⟩⟩⟩⟩⟩⟩⟩⟩⟩⟩) (k95 x96))⟩) h87)⟩⟩⟩⟩⟩⟩⟩) (h86 x87)), (fun x87 => (fun h87 => ⟨⟨rfl, trivial⟩, (Exists.elim h87 fun x89 h89 => ⟨x89, (And.elim (fun h90 k90 => ⟨⟨⟨trivial, trivial⟩, ⟨trivial, h90⟩⟩, ⟨trivial, (And.elim (fun h92 k92 => ⟨(fun x93 => (fun h93 => ⟨trivial, ⟨trivial, ⟨trivial, ⟨trivial, ⟨trivial, ⟨trivial, ⟨trivial, (And.elim (fun h101 k101 => ⟨(fun x102 => (fun h102 => ⟨trivial, ⟨rfl, ⟨trivial, ⟨rfl, (And.elim (fun h107 k107 => ⟨(And.elim (fun h108 k108 => ⟨h108, (And.elim (fun h109 k109 => ⟨h109, k109⟩) k108)⟩) h107), ⟨rfl, (And.elim (fun h109 k109 => ⟨h109, ⟨rfl, ⟨trivial, ⟨trivial, ⟨trivial, (And.elim (fun h114 k114 => ⟨(fun x115 => (fun h115 => (Exists.elim h115 fun x116 h116 => ⟨x116, (And.elim (fun h117 k117 => ⟨⟨trivial, ⟨trivial, h117⟩⟩, ⟨trivial, ⟨trivial, ⟨trivial, ⟨⟨⟨trivial, ⟨Sub.refl _, trivial⟩⟩, trivial⟩, ((fun h122 => ⟨h122, trivial⟩) k117)⟩⟩⟩⟩⟩) h116)⟩)) (h114 x115)), (fun x115 => (fun h115 => ⟨rfl, ⟨trivial, ⟨trivial, ⟨trivial, ⟨⟨⟨trivial, ⟨Sub.refl _, trivial⟩⟩, trivial⟩, ((fun h121 => ⟨h121, trivial⟩) h115)⟩⟩⟩⟩⟩) (k114 x115))⟩) k109)⟩⟩⟩⟩⟩) k107)⟩⟩) h102)⟩⟩⟩⟩) (h101 x102)), (fun x102 => (fun h102 => ⟨rfl, ⟨rfl, ⟨rfl, ⟨rfl, ⟨rfl, ⟨rfl, ⟨rfl, ⟨rfl, ⟨rfl, ⟨trivial, ⟨trivial, ⟨rfl, ⟨rfl, ⟨trivial, ⟨trivial, ⟨trivial, ⟨⟨⟨trivial, ⟨Sub.refl _, trivial⟩⟩, trivial⟩, ((fun h120 => ⟨h120, trivial⟩) h102)⟩⟩⟩⟩⟩⟩⟩⟩⟩⟩⟩⟩⟩⟩⟩⟩⟩) (k101 x102))⟩) h93)⟩⟩⟩⟩⟩⟩⟩) (h92 x93)), (fun x93 => (fun h93 => (Exists.elim h93 fun x94 h94 => ⟨x94, (And.elim (fun h95 k95 => ⟨⟨trivial, ⟨trivial, h95⟩⟩, ⟨trivial, ⟨trivial, ⟨⟨⟨trivial, ⟨Sub.refl _, trivial⟩⟩, trivial⟩, ((fun h99 => ⟨h99, trivial⟩) k95)⟩⟩⟩⟩) h94)⟩)) (k92 x93))⟩) k90)⟩⟩) h89)⟩)⟩) (k86 x87))⟩) k84)⟩⟩) h83)⟩)⟩⟩⟩⟩) h78)⟩)⟩) h76)⟩)⟩⟩) h73)⟩)⟩) (k70 x71))⟩) k68)⟩⟩) k64)⟩⟩⟩⟩) h63)⟩)⟩⟩⟩⟩) (h57 x58)), (fun x58 => (fun h58 => ⟨rfl, ⟨x58, ⟨rfl, ⟨x58, ⟨rfl, ⟨x58, ⟨rfl, ⟨x58, ⟨rfl, ⟨x58, ⟨rfl, ⟨trivial, ⟨trivial, ⟨⟨⟨trivial, ⟨Sub.refl _, trivial⟩⟩, trivial⟩, ((fun h73 => ⟨h73, trivial⟩) h58)⟩⟩⟩⟩⟩⟩⟩⟩⟩⟩⟩⟩⟩⟩) (k57 x58))⟩) k52)⟩⟩⟩⟩⟩) h51)⟩)⟩⟩⟩⟩⟩⟩⟩⟩⟩⟩⟩⟩⟩⟩⟩⟩⟩⟩⟩⟩) (k29 x30))⟩) h21)⟩⟩⟩⟩⟩⟩⟩) (h20 x21)), (fun x21 => (fun h21 => ⟨rfl, ⟨x21, ⟨rfl, ⟨x21, ⟨rfl, ⟨x21, ⟨rfl, ⟨rfl, ⟨rfl, ⟨rfl, ⟨rfl, ⟨rfl, ⟨rfl, ⟨rfl, ⟨x21, ⟨rfl, ⟨x21, ⟨trivial, ⟨rfl, ⟨rfl, ⟨rfl, ⟨rfl, ⟨rfl, ⟨rfl, ⟨rfl, ⟨trivial, ⟨rfl, ⟨rfl, ⟨rfl, ⟨rfl, ⟨rfl, ⟨rfl, ⟨rfl, ⟨rfl, ⟨rfl, ⟨rfl, ⟨rfl, ⟨rfl, ⟨trivial, ⟨trivial, ⟨⟨⟨trivial, ⟨Sub.refl _, trivial⟩⟩, trivial⟩, ((fun h63 => ⟨h63, trivial⟩) h21)⟩⟩⟩⟩⟩⟩⟩⟩⟩⟩⟩⟩⟩⟩⟩⟩⟩⟩⟩⟩⟩⟩⟩⟩⟩⟩⟩⟩⟩⟩⟩⟩⟩⟩⟩⟩⟩⟩⟩⟩⟩) (k20 x21))⟩) k17)⟩⟩⟩) h16)⟩)⟩⟩⟩⟩⟩) h10)⟩)⟩⟩⟩⟩⟩) h4)⟩)⟩⟩⟩⟩)
theorem hf10 : Go.Proofs.Try.prog.funcs[10]? = some Go.Proofs.Try.f10 := by kernel_rfl
abbrev s10_e (text : ByteArray) : List (Nat × AV) := [(0, (.sc (.string text)))]
abbrev m10_e (text : ByteArray) : List (Nat × Nat × AV) := []
def L10_e (text : ByteArray) (res : AV) : Prop := Goes ⟨Go.Proofs.Try.prog, 10, [], res, []⟩ (place Go.Proofs.Try.f10 []) (s10_e text) (m10_e text)
theorem a10_e (text : ByteArray) (res : AV) (h : (∀ slot, fact (look .undef (s10_e text) slot)) → L10_e text res) : L10_e text res :=
  assumeRule 10 [] Go.Proofs.Try.f10 hf10 [] (s10_e text) (m10_e text) res [] _ (by kernel_rfl) h
theorem o10 (text : ByteArray) (res : AV) (hnew : newOnly res) (h : L10_e text res) : Ok Go.Proofs.Try.prog 10 [(.sc (.string text))] [] res [] :=
  okRule2 10 Go.Proofs.Try.f10 hf10 [(.sc (.string text))] [] res [] [] rfl (by kernel_rfl) (by kernel_rfl) (by kernel_rfl) ⟨hnew, by simp⟩ (L10_e text res) (by kernel_rfl) h
theorem r10_e (text : ByteArray) (res : AV)
    (h : ∃ (r : (Nat → Int) × Int × Bool),
  Ok Proofs.Try.prog (26 : Nat) [AV.sc (Value.string text), AV.sc (Value.int IntKind.i64 (0 : Int))] []
    (AV.cons (1 : Nat) (AV.ar (4 : Nat) (1 : Nat) fun (i0 : Nat) => AV.sc (Value.int IntKind.u64 (r.fst i0)))
    (AV.cons (1 : Nat) (AV.sc (Value.int IntKind.i64 r.snd.fst)) (AV.cons (1 : Nat) (AV.sc (Value.bool r.snd.snd)) AV.nil))).tup
    [] ∧
    ((!r.snd.snd) = false →
    ((r.snd.fst != (↑text.size : Int)) = true →
    Sub
    (AV.cons (1 : Nat) (AV.ar (4 : Nat) (1 : Nat) fun (x : Nat) => AV.sc (Value.int IntKind.u64 (0 : Int)))
    (AV.cons (1 : Nat) (AV.sc (Value.int IntKind.i64 (50 : Int))) AV.nil)).tup
    res) ∧
    ((r.snd.fst != (↑text.size : Int)) = false →
    Sub
    (AV.cons (1 : Nat) (AV.ar (4 : Nat) (1 : Nat) fun (i0 : Nat) => AV.sc (Value.int IntKind.u64 (r.fst i0)))
    (AV.cons (1 : Nat) (AV.sc (Value.int IntKind.i64 (0 : Int))) AV.nil)).tup
    res)) ∧
    ((!r.snd.snd) = !false →
    Sub
    (AV.cons (1 : Nat) (AV.ar (4 : Nat) (1 : Nat) fun (x : Nat) => AV.sc (Value.int IntKind.u64 (0 : Int)))
    (AV.cons (1 : Nat) (AV.sc (Value.int IntKind.i64 (50 : Int))) AV.nil)).tup
    res)) :
    L10_e text res :=
  rule Go.Am.Seat.tabOk 10 [] Go.Proofs.Try.f10 hf10 [] (s10_e text) (m10_e text) res [] 400
    (Orc.call [] []
  (fun (r26 : (Nat → Int) × Int × Bool) =>
    (AV.cons (1 : Nat) (AV.ar (4 : Nat) (1 : Nat) fun (i0 : Nat) => AV.sc (Value.int IntKind.u64 (r26.fst i0)))
    (AV.cons (1 : Nat) (AV.sc (Value.int IntKind.i64 r26.snd.fst)) (AV.cons (1 : Nat) (AV.sc (Value.bool r26.snd.snd)) AV.nil))).tup)
  (fun (r26 : (Nat → Int) × Int × Bool) => []) fun (r26 : (Nat → Int) × Int × Bool) =>
  ((Orc.fin
    (AV.cons (1 : Nat) (AV.ar (4 : Nat) (1 : Nat) fun (x : Nat) => AV.sc (Value.int IntKind.u64 (0 : Int)))
    (AV.cons (1 : Nat) (AV.sc (Value.int IntKind.i64 (50 : Int))) AV.nil)).tup
    [] []).br
    (Orc.fin
    (AV.cons (1 : Nat) (AV.ar (4 : Nat) (1 : Nat) fun (i0 : Nat) => AV.sc (Value.int IntKind.u64 (r26.fst i0)))
    (AV.cons (1 : Nat) (AV.sc (Value.int IntKind.i64 (0 : Int))) AV.nil)).tup
    [] [])).yes.yes.yes.br
    (Orc.fin
    (AV.cons (1 : Nat) (AV.ar (4 : Nat) (1 : Nat) fun (x : Nat) => AV.sc (Value.int IntKind.u64 (0 : Int)))
    (AV.cons (1 : Nat) (AV.sc (Value.int IntKind.i64 (50 : Int))) AV.nil)).tup
    [] []).yes.no.no.no) _ _ (by kernel_rfl) (by kernel_rfl) (show True ∧
  True ∧
    True ∧
    ∃ (r : (Nat → Int) × Int × Bool),
    ((True ∧ True ∧ True) ∧
    True ∧
    Ok Proofs.Try.prog (26 : Nat) [AV.sc (Value.string text), AV.sc (Value.int IntKind.i64 (0 : Int))] []
    (AV.cons (1 : Nat) (AV.ar (4 : Nat) (1 : Nat) fun (i0 : Nat) => AV.sc (Value.int IntKind.u64 (r.fst i0)))
    (AV.cons (1 : Nat) (AV.sc (Value.int IntKind.i64 r.snd.fst)) (AV.cons (1 : Nat) (AV.sc (Value.bool r.snd.snd)) AV.nil))).tup
    []) ∧
    True ∧
    True ∧
    True ∧
    True ∧
    True ∧
    ((0 : Nat) = (0 : Nat) ∧ True) ∧
    True ∧
    True ∧
    True ∧
    True ∧
    True ∧
    ((!r.snd.snd) = false →
    True ∧
    false = false ∧
    True ∧
    false = false ∧
    True ∧
    false = false ∧
    True ∧
    True ∧
    ((r.snd.fst != (↑text.size : Int)) = true →
    True ∧
    ((0 : Nat) = (0 : Nat) ∧ True) ∧
    True ∧
    (((0 : Nat) = (0 : Nat) ∧ True) ∧ True ∧ True) ∧
    (((True ∧ True ∧ True) ∧
    Sub
    (AV.cons (1 : Nat)
    (AV.ar (4 : Nat) (1 : Nat) fun (x : Nat) =>
    AV.sc (Value.int IntKind.u64 (0 : Int)))
    (AV.cons (1 : Nat) (AV.sc (Value.int IntKind.i64 (50 : Int))) AV.nil)).tup
    (AV.cons (1 : Nat)
    (AV.ar (4 : Nat) (1 : Nat) fun (x : Nat) =>
    AV.sc (Value.int IntKind.u64 (0 : Int)))
    (AV.cons (1 : Nat) (AV.sc (Value.int IntKind.i64 (50 : Int))) AV.nil)).tup ∧
    True) ∧
    True) ∧
    Sub
    (AV.cons (1 : Nat)
    (AV.ar (4 : Nat) (1 : Nat) fun (x : Nat) => AV.sc (Value.int IntKind.u64 (0 : Int)))
    (AV.cons (1 : Nat) (AV.sc (Value.int IntKind.i64 (50 : Int))) AV.nil)).tup
    res ∧
    SubOut [] []) ∧
    ((r.snd.fst != (↑text.size : Int)) = false →
    ((0 : Nat) = (0 : Nat) ∧ True) ∧
    ((0 : Nat) = (0 : Nat) ∧ True) ∧
    True ∧
    (((0 : Nat) = (0 : Nat) ∧ True) ∧ True ∧ True) ∧
    (((True ∧ True ∧ True) ∧
    Sub
    (AV.cons (1 : Nat)
    (AV.ar (4 : Nat) (1 : Nat) fun (i0 : Nat) =>
    AV.sc (Value.int IntKind.u64 (r.fst i0)))
    (AV.cons (1 : Nat) (AV.sc (Value.int IntKind.i64 (0 : Int))) AV.nil)).tup
    (AV.cons (1 : Nat)
    (AV.ar (4 : Nat) (1 : Nat) fun (i0 : Nat) =>
    AV.sc (Value.int IntKind.u64 (r.fst i0)))
    (AV.cons (1 : Nat) (AV.sc (Value.int IntKind.i64 (0 : Int))) AV.nil)).tup ∧
    True) ∧
    True) ∧
    Sub
    (AV.cons (1 : Nat)
    (AV.ar (4 : Nat) (1 : Nat) fun (i0 : Nat) => AV.sc (Value.int IntKind.u64 (r.fst i0)))
    (AV.cons (1 : Nat) (AV.sc (Value.int IntKind.i64 (0 : Int))) AV.nil)).tup
    res ∧
    SubOut [] [])) ∧
    ((!r.snd.snd) = !false →
    true = true ∧
    (!false) = !false ∧
    true = true ∧
    (!false) = !false ∧
    true = true ∧
    (!false) = !false ∧
    true = true ∧
    True ∧
    true = true ∧
    True ∧
    ((0 : Nat) = (0 : Nat) ∧ True) ∧
    True ∧
    (((0 : Nat) = (0 : Nat) ∧ True) ∧ True ∧ True) ∧
    (((True ∧ True ∧ True) ∧
    Sub
    (AV.cons (1 : Nat)
    (AV.ar (4 : Nat) (1 : Nat) fun (x : Nat) => AV.sc (Value.int IntKind.u64 (0 : Int)))
    (AV.cons (1 : Nat) (AV.sc (Value.int IntKind.i64 (50 : Int))) AV.nil)).tup
    (AV.cons (1 : Nat)
    (AV.ar (4 : Nat) (1 : Nat) fun (x : Nat) => AV.sc (Value.int IntKind.u64 (0 : Int)))
    (AV.cons (1 : Nat) (AV.sc (Value.int IntKind.i64 (50 : Int))) AV.nil)).tup ∧
    True) ∧
    True) ∧
    Sub
    (AV.cons (1 : Nat)
    (AV.ar (4 : Nat) (1 : Nat) fun (x : Nat) => AV.sc (Value.int IntKind.u64 (0 : Int)))
    (AV.cons (1 : Nat) (AV.sc (Value.int IntKind.i64 (50 : Int))) AV.nil)).tup
    res ∧
    SubOut [] []) from
    ⟨trivial, ⟨trivial, ⟨trivial, (Exists.elim h fun x3 h3 => ⟨x3, (And.elim (fun h4 k4 => ⟨⟨⟨trivial, ⟨trivial, trivial⟩⟩, ⟨trivial, h4⟩⟩, ⟨trivial, ⟨trivial, ⟨trivial, ⟨trivial, ⟨trivial, ⟨⟨rfl, trivial⟩, ⟨trivial, ⟨trivial, ⟨trivial, ⟨trivial, ⟨trivial, (And.elim (fun h16 k16 => ⟨(fun x17 => (fun h17 => ⟨trivial, ⟨rfl, ⟨trivial, ⟨rfl, ⟨trivial, ⟨rfl, ⟨trivial, ⟨trivial, (And.elim (fun h26 k26 => ⟨(fun x27 => (fun h27 => ⟨trivial, ⟨⟨rfl, trivial⟩, ⟨trivial, ⟨⟨⟨rfl, trivial⟩, ⟨trivial, trivial⟩⟩, ⟨⟨⟨⟨trivial, ⟨trivial, trivial⟩⟩, ⟨Sub.refl _, trivial⟩⟩, trivial⟩, ((fun h33 => ⟨h33, trivial⟩) h27)⟩⟩⟩⟩⟩) (h26 x27)), (fun x27 => (fun h27 => ⟨⟨rfl, trivial⟩, ⟨⟨rfl, trivial⟩, ⟨trivial, ⟨⟨⟨rfl, trivial⟩, ⟨trivial, trivial⟩⟩, ⟨⟨⟨⟨trivial, ⟨trivial, trivial⟩⟩, ⟨Sub.refl _, trivial⟩⟩, trivial⟩, ((fun h33 => ⟨h33, trivial⟩) h27)⟩⟩⟩⟩⟩) (k26 x27))⟩) h17)⟩⟩⟩⟩⟩⟩⟩⟩) (h16 x17)), (fun x17 => (fun h17 => ⟨rfl, ⟨rfl, ⟨rfl, ⟨rfl, ⟨rfl, ⟨rfl, ⟨rfl, ⟨trivial, ⟨rfl, ⟨trivial, ⟨⟨rfl, trivial⟩, ⟨trivial, ⟨⟨⟨rfl, trivial⟩, ⟨trivial, trivial⟩⟩, ⟨⟨⟨⟨trivial, ⟨trivial, trivial⟩⟩, ⟨Sub.refl _, trivial⟩⟩, trivial⟩, ((fun h32 => ⟨h32, trivial⟩) h17)⟩⟩⟩⟩⟩⟩⟩⟩⟩⟩⟩⟩⟩⟩) (k16 x17))⟩) k4)⟩⟩⟩⟩⟩⟩⟩⟩⟩⟩⟩⟩) h3)⟩)⟩⟩⟩)
theorem hf12 : Go.Proofs.Try.prog.funcs[12]? = some Go.Proofs.Try.f12 := by kernel_rfl
abbrev s12_e : List (Nat × AV) := []
abbrev m12_e : List (Nat × Nat × AV) := []
def L12_e (res : AV) : Prop := Goes ⟨Go.Proofs.Try.prog, 12, [], res, []⟩ (place Go.Proofs.Try.f12 []) (s12_e ) (m12_e )
theorem a12_e (res : AV) (h : (∀ slot, fact (look .undef (s12_e ) slot)) → L12_e  res) : L12_e  res :=
  assumeRule 12 [] Go.Proofs.Try.f12 hf12 [] (s12_e ) (m12_e ) res [] _ (by kernel_rfl) h
theorem o12 (res : AV) (hnew : newOnly res) (h : L12_e  res) : Ok Go.Proofs.Try.prog 12 [] [] res [] :=
  okRule2 12 Go.Proofs.Try.f12 hf12 [] [] res [] [] rfl (by kernel_rfl) (by kernel_rfl) (by kernel_rfl) ⟨hnew, by simp⟩ (L12_e  res) (by kernel_rfl) h
theorem r12_e (res : AV)
    (h : ∃ (r : Nat → Int),
  Ok Proofs.Try.prog (17 : Nat) [AV.sc (Value.string (ByteArray.mk #[(99 : UInt8), (97 : UInt8), (98 : UInt8)]))] []
    (AV.ar (4 : Nat) (1 : Nat) fun (i0 : Nat) => AV.sc (Value.int IntKind.u64 (r i0))) [] ∧
    ∃ (r_1 : (Nat → Int) × Int),
    Ok Proofs.Try.prog (10 : Nat) [AV.sc (Value.string (ByteArray.mk #[(91 : UInt8), (97 : UInt8), (45 : UInt8), (99 : UInt8), (93 : UInt8)]))] []
    (AV.cons (1 : Nat) (AV.ar (4 : Nat) (1 : Nat) fun (i0 : Nat) => AV.sc (Value.int IntKind.u64 (r_1.fst i0)))
    (AV.cons (1 : Nat) (AV.sc (Value.int IntKind.i64 r_1.snd)) AV.nil)).tup
    [] ∧
    ∃ (r_2 : Bool),
    Ok Proofs.Try.prog (15 : Nat)
    [AV.ar (4 : Nat) (1 : Nat) fun (i : Nat) => AV.sc (Value.int IntKind.u64 (r i)), AV.sc (Value.int IntKind.u8 (98 : Int))] []
    (AV.sc (Value.bool r_2)) [] ∧
    (r_2 = true →
    ∃ (r_3 : Bool),
    Ok Proofs.Try.prog (15 : Nat)
    [AV.ar (4 : Nat) (1 : Nat) fun (i : Nat) => AV.sc (Value.int IntKind.u64 (r i)), AV.sc (Value.int IntKind.u8 (100 : Int))] []
    (AV.sc (Value.bool r_3)) [] ∧
    ((!r_3) = true →
    ∃ (r_4 : ByteArray),
    Ok Proofs.Try.prog (14 : Nat) [AV.ar (4 : Nat) (1 : Nat) fun (i : Nat) => AV.sc (Value.int IntKind.u64 (r i))] []
    (AV.sc (Value.string r_4)) [] ∧
    ((r_4.toList == (ByteArray.mk #[(97 : UInt8), (98 : UInt8), (99 : UInt8)]).toList) = true →
    ∃ (r_5 : ByteArray),
    Ok Proofs.Try.prog (13 : Nat) [AV.ar (4 : Nat) (1 : Nat) fun (i : Nat) => AV.sc (Value.int IntKind.u64 (r i))] []
    (AV.sc (Value.string r_5)) [] ∧
    ((r_5.toList == (ByteArray.mk #[(91 : UInt8), (97 : UInt8), (45 : UInt8), (99 : UInt8), (93 : UInt8)]).toList) = true →
    (∀ (i : Nat),
    i < (4 : Nat) →
    (AV.sc (Value.int IntKind.u64 (r_1.fst i))).sz = (1 : Nat) ∧
    (AV.sc (Value.int IntKind.u64 (r i))).sz = (1 : Nat)) ∧
    (cdec (∀ (i : Nat), i < (4 : Nat) → r_1.fst i = r i) = true → Sub (AV.sc (Value.bool (r_1.snd == (0 : Int)))) res) ∧
    (cdec (∀ (i : Nat), i < (4 : Nat) → r_1.fst i = r i) = !true → Sub (AV.sc (Value.bool false)) res)) ∧
    ((r_5.toList == (ByteArray.mk #[(91 : UInt8), (97 : UInt8), (45 : UInt8), (99 : UInt8), (93 : UInt8)]).toList) = !true →
    Sub (AV.sc (Value.bool false)) res)) ∧
    ((r_4.toList == (ByteArray.mk #[(97 : UInt8), (98 : UInt8), (99 : UInt8)]).toList) = !true →
    Sub (AV.sc (Value.bool false)) res)) ∧
    ((!r_3) = !true → Sub (AV.sc (Value.bool false)) res)) ∧
    (r_2 = !true → Sub (AV.sc (Value.bool false)) res)) :
    L12_e  res :=
  rule Go.Am.Seat.tabOk 12 [] Go.Proofs.Try.f12 hf12 [] (s12_e ) (m12_e ) res [] 400
    (Orc.call [] [] (fun (r17 : Nat → Int) => AV.ar (4 : Nat) (1 : Nat) fun (i0 : Nat) => AV.sc (Value.int IntKind.u64 (r17 i0))) (fun (r17 : Nat → Int) => [])
  fun (r17 : Nat → Int) =>
  Orc.call [] []
    (fun (r10 : (Nat → Int) × Int) =>
    (AV.cons (1 : Nat) (AV.ar (4 : Nat) (1 : Nat) fun (i0 : Nat) => AV.sc (Value.int IntKind.u64 (r10.fst i0)))
    (AV.cons (1 : Nat) (AV.sc (Value.int IntKind.i64 r10.snd)) AV.nil)).tup)
    (fun (r10 : (Nat → Int) × Int) => []) fun (r10 : (Nat → Int) × Int) =>
    Orc.call [] [] (fun (r15 : Bool) => AV.sc (Value.bool r15)) (fun (r15 : Bool) => []) fun (r15 : Bool) =>
    (Orc.call [] [] (fun (r15 : Bool) => AV.sc (Value.bool r15)) (fun (r15 : Bool) => []) fun (r15 : Bool) =>
    ((Orc.call [] [] (fun (r14 : ByteArray) => AV.sc (Value.string r14)) (fun (r14 : ByteArray) => []) fun (r14 : ByteArray) =>
    ((Orc.call [] [] (fun (r13 : ByteArray) => AV.sc (Value.string r13)) (fun (r13 : ByteArray) => []) fun (r13 : ByteArray) =>
    (((Orc.fin (AV.sc (Value.bool (bif true then r10.snd == (0 : Int) else false))) [] []).yes.br
    (Orc.fin (AV.sc (Value.bool false)) [] []).no).yes.yes.br
    (Orc.fin (AV.sc (Value.bool false)) [] []).no.no.no.no).yes).yes.br
    (Orc.fin (AV.sc (Value.bool false)) [] []).no.no.no.no.no.no.no).yes).yes.br
    (Orc.fin (AV.sc (Value.bool false)) [] []).no.no.no.no.no.no.no.no.no.no).yes).yes.br
    (Orc.fin (AV.sc (Value.bool false)) [] []).no.no.no.no.no.no.no.no.no.no.no.no.no) _ _ (by kernel_rfl) (by kernel_rfl) (show True ∧
  ∃ (r : Nat → Int),
    ((True ∧ True) ∧
    True ∧
    Ok Proofs.Try.prog (17 : Nat) [AV.sc (Value.string (ByteArray.mk #[(99 : UInt8), (97 : UInt8), (98 : UInt8)]))] []
    (AV.ar (4 : Nat) (1 : Nat) fun (i0 : Nat) => AV.sc (Value.int IntKind.u64 (r i0))) []) ∧
    True ∧
    ((0 : Nat) = (0 : Nat) ∧ True) ∧
    ∃ (r_1 : (Nat → Int) × Int),
    ((True ∧ True) ∧
    True ∧
    Ok Proofs.Try.prog (10 : Nat) [AV.sc (Value.string (ByteArray.mk #[(91 : UInt8), (97 : UInt8), (45 : UInt8), (99 : UInt8), (93 : UInt8)]))] []
    (AV.cons (1 : Nat) (AV.ar (4 : Nat) (1 : Nat) fun (i0 : Nat) => AV.sc (Value.int IntKind.u64 (r_1.fst i0)))
    (AV.cons (1 : Nat) (AV.sc (Value.int IntKind.i64 r_1.snd)) AV.nil)).tup
    []) ∧
    True ∧
    True ∧
    True ∧
    True ∧
    ((0 : Nat) = (0 : Nat) ∧ True) ∧
    True ∧
    ((0 : Nat) = (0 : Nat) ∧ True) ∧
    ∃ (r_2 : Bool),
    ((True ∧ True ∧ True) ∧
    True ∧
    Ok Proofs.Try.prog (15 : Nat)
    [AV.ar (4 : Nat) (1 : Nat) fun (i : Nat) => AV.sc (Value.int IntKind.u64 (r i)), AV.sc (Value.int IntKind.u8 (98 : Int))]
    [] (AV.sc (Value.bool r_2)) []) ∧
    True ∧
    (r_2 = true →
    ((0 : Nat) = (0 : Nat) ∧ True) ∧
    true = true ∧
    ∃ (r_3 : Bool),
    ((True ∧ True ∧ True) ∧
    True ∧
    Ok Proofs.Try.prog (15 : Nat)
    [AV.ar (4 : Nat) (1 : Nat) fun (i : Nat) => AV.sc (Value.int IntKind.u64 (r i)),
    AV.sc (Value.int IntKind.u8 (100 : Int))]
    [] (AV.sc (Value.bool r_3)) []) ∧
    true = true ∧
    True ∧
    True ∧
    True ∧
    ((!r_3) = true →
    ((0 : Nat) = (0 : Nat) ∧ True) ∧
    true = true ∧
    ∃ (r_4 : ByteArray),
    ((True ∧ True) ∧
    True ∧
    Ok Proofs.Try.prog (14 : Nat)
    [AV.ar (4 : Nat) (1 : Nat) fun (i : Nat) => AV.sc (Value.int IntKind.u64 (r i))] []
    (AV.sc (Value.string r_4)) []) ∧
    true = true ∧
    True ∧
    True ∧
    True ∧
    ((r_4.toList == (ByteArray.mk #[(97 : UInt8), (98 : UInt8), (99 : UInt8)]).toList) =
    true →
    ((0 : Nat) = (0 : Nat) ∧ True) ∧
    true = true ∧
    ∃ (r_5 : ByteArray),
    ((True ∧ True) ∧
    True ∧
    Ok Proofs.Try.prog (13 : Nat)
    [AV.ar (4 : Nat) (1 : Nat) fun (i : Nat) =>
    AV.sc (Value.int IntKind.u64 (r i))]
    [] (AV.sc (Value.string r_5)) []) ∧
    true = true ∧
    True ∧
    True ∧
    True ∧
    ((r_5.toList ==
    (ByteArray.mk
    #[(91 : UInt8), (97 : UInt8), (45 : UInt8),
    (99 : UInt8), (93 : UInt8)]).toList) =
    true →
    ((0 : Nat) = (0 : Nat) ∧ True) ∧
    true = true ∧
    ((0 : Nat) = (0 : Nat) ∧ True) ∧
    true = true ∧
    (∀ (i : Nat),
    i < (4 : Nat) →
    (AV.sc (Value.int IntKind.u64 (r_1.fst i))).sz =
    (1 : Nat) ∧
    (AV.sc (Value.int IntKind.u64 (r i))).sz =
    (1 : Nat) ∧
    false = false ∧ false = false ∧ True) ∧
    True ∧
    True ∧
    (cdec
    (∀ (i : Nat),
    i < (4 : Nat) → r_1.fst i = r i) =
    true →
    True ∧
    true = true ∧
    True ∧
    True ∧
    True ∧
    True ∧
    ((True ∧
    Sub
    (AV.sc
    (Value.bool
    (r_1.snd ==
    (0 : Int))))
    (AV.sc
    (Value.bool
    (r_1.snd ==
    (0 : Int)))) ∧
    True) ∧
    True) ∧
    Sub
    (AV.sc
    (Value.bool
    (r_1.snd ==
    (0 : Int))))
    res ∧
    SubOut [] []) ∧
    (cdec
    (∀ (i : Nat),
    i < (4 : Nat) → r_1.fst i = r i) =
    !true →
    true = true ∧
    (!true) = !true ∧
    true = true ∧
    True ∧
    True ∧
    True ∧
    ((True ∧
    Sub
    (AV.sc
    (Value.bool false))
    (AV.sc
    (Value.bool
    false)) ∧
    True) ∧
    True) ∧
    Sub (AV.sc (Value.bool false))
    res ∧
    SubOut [] [])) ∧
    ((r_5.toList ==
    (ByteArray.mk
    #[(91 : UInt8), (97 : UInt8), (45 : UInt8),
    (99 : UInt8), (93 : UInt8)]).toList) =
    !true →
    true = true ∧
    (!true) = !true ∧
    true = true ∧
    (!true) = !true ∧
    true = true ∧
    True ∧
    True ∧
    false = !true ∧
    true = true ∧
    (!true) = !true ∧
    true = true ∧
    True ∧
    True ∧
    True ∧
    ((True ∧
    Sub
    (AV.sc
    (Value.bool false))
    (AV.sc
    (Value.bool false)) ∧
    True) ∧
    True) ∧
    Sub (AV.sc (Value.bool false))
    res ∧
    SubOut [] [])) ∧
    ((r_4.toList == (ByteArray.mk #[(97 : UInt8), (98 : UInt8), (99 : UInt8)]).toList) =
    !true →
    true = true ∧
    (!true) = !true ∧
    true = true ∧
    (!true) = !true ∧
    true = true ∧
    True ∧
    True ∧
    false = !true ∧
    true = true ∧
    (!true) = !true ∧
    true = true ∧
    (!true) = !true ∧
    true = true ∧
    True ∧
    True ∧
    false = !true ∧
    true = true ∧
    (!true) = !true ∧
    true = true ∧
    True ∧
    True ∧
    True ∧
    ((True ∧
    Sub (AV.sc (Value.bool false))
    (AV.sc (Value.bool false)) ∧
    True) ∧
    True) ∧
    Sub (AV.sc (Value.bool false)) res ∧
    SubOut [] [])) ∧
    ((!r_3) = !true →
    true = true ∧
    (!true) = !true ∧
    true = true ∧
    (!true) = !true ∧
    true = true ∧
    True ∧
    True ∧
    false = !true ∧
    true = true ∧
    (!true) = !true ∧
    true = true ∧
    (!true) = !true ∧
    true = true ∧
    True ∧
    True ∧
    false = !true ∧
    true = true ∧
    (!true) = !true ∧
    true = true ∧
    (!true) = !true ∧
    true = true ∧
    True ∧
    True ∧
    false = !true ∧
    true = true ∧
    (!true) = !true ∧
    true = true ∧
    True ∧
    True ∧
    True ∧
    ((True ∧
    Sub (AV.sc (Value.bool false))
    (AV.sc (Value.bool false)) ∧
    True) ∧
    True) ∧
    Sub (AV.sc (Value.bool false)) res ∧
    SubOut [] [])) ∧
    (r_2 = !true →
    true = true ∧
    (!true) = !true ∧
    true = true ∧
    (!true) = !true ∧
    true = true ∧
    True ∧
    True ∧
    false = !true ∧
    true = true ∧
    (!true) = !true ∧
    true = true ∧
    (!true) = !true ∧
    true = true ∧
    True ∧
    True ∧
    false = !true ∧
    true = true ∧
    (!true) = !true ∧
    true = true ∧
    (!true) = !true ∧
    true = true ∧
    True ∧
    True ∧
    false = !true ∧
    true = true ∧
    (!true) = !true ∧
    true = true ∧
    (!true) = !true ∧
    true = true ∧
    True ∧
    True ∧
    false = !true ∧
    true = true ∧
    (!true) = !true ∧
    true = true ∧
    True ∧
    True ∧
    True ∧
    ((True ∧
    Sub (AV.sc (Value.bool false))
    (AV.sc (Value.bool false)) ∧
    True) ∧
    True) ∧
    Sub (AV.sc (Value.bool false)) res ∧
    SubOut [] []) from
    ⟨trivial, (Exists.elim h fun x1 h1 => ⟨x1, (And.elim (fun h2 k2 => ⟨⟨⟨trivial, trivial⟩, ⟨trivial, h2⟩⟩, ⟨trivial, ⟨⟨rfl, trivial⟩, (Exists.elim k2 fun x5 h5 => ⟨x5, (And.elim (fun h6 k6 => ⟨⟨⟨trivial, trivial⟩, ⟨trivial, h6⟩⟩, ⟨trivial, ⟨trivial, ⟨trivial, ⟨trivial, ⟨⟨rfl, trivial⟩, ⟨trivial, ⟨⟨rfl, trivial⟩, (Exists.elim k6 fun x14 h14 => ⟨x14, (And.elim (fun h15 k15 => ⟨⟨⟨trivial, ⟨trivial, trivial⟩⟩, ⟨trivial, h15⟩⟩, ⟨trivial, (And.elim (fun h17 k17 => ⟨(fun x18 => (fun h18 => ⟨⟨rfl, trivial⟩, ⟨rfl, (Exists.elim h18 fun x21 h21 => ⟨x21, (And.elim (fun h22 k22 => ⟨⟨⟨trivial, ⟨trivial, trivial⟩⟩, ⟨trivial, h22⟩⟩, ⟨rfl, ⟨trivial, ⟨trivial, ⟨trivial, (And.elim (fun h27 k27 => ⟨(fun x28 => (fun h28 => ⟨⟨rfl, trivial⟩, ⟨rfl, (Exists.elim h28 fun x31 h31 => ⟨x31, (And.elim (fun h32 k32 => ⟨⟨⟨trivial, trivial⟩, ⟨trivial, h32⟩⟩, ⟨rfl, ⟨trivial, ⟨trivial, ⟨trivial, (And.elim (fun h37 k37 => ⟨(fun x38 => (fun h38 => ⟨⟨rfl, trivial⟩, ⟨rfl, (Exists.elim h38 fun x41 h41 => ⟨x41, (And.elim (fun h42 k42 => ⟨⟨⟨trivial, trivial⟩, ⟨trivial, h42⟩⟩, ⟨rfl, ⟨trivial, ⟨trivial, ⟨trivial, (And.elim (fun h47 k47 => ⟨(fun x48 => (fun h48 => ⟨⟨rfl, trivial⟩, ⟨rfl, ⟨⟨rfl, trivial⟩, ⟨rfl, (And.elim (fun h53 k53 => ⟨(fun x54 => (fun h54 => (fun x55 => (fun h55 => (And.elim (fun h56 k56 => ⟨h56, ((fun h57 => ⟨h57, ⟨rfl, ⟨rfl, trivial⟩⟩⟩) k56)⟩) h55)) (h54 x55))) (h53 x54)), ⟨trivial, ⟨trivial, (And.elim (fun h56 k56 => ⟨(fun x57 => (fun h57 => ⟨trivial, ⟨rfl, ⟨trivial, ⟨trivial, ⟨trivial, ⟨trivial, ⟨⟨⟨trivial, ⟨Sub.refl _, trivial⟩⟩, trivial⟩, ((fun h65 => ⟨h65, trivial⟩) h57)⟩⟩⟩⟩⟩⟩⟩) (h56 x57)), (fun x57 => (fun h57 => ⟨rfl, ⟨rfl, ⟨rfl, ⟨trivial, ⟨trivial, ⟨trivial, ⟨⟨⟨trivial, ⟨Sub.refl _, trivial⟩⟩, trivial⟩, ((fun h65 => ⟨h65, trivial⟩) h57)⟩⟩⟩⟩⟩⟩⟩) (k56 x57))⟩) k53)⟩⟩⟩) h48)⟩⟩⟩⟩) (h47 x48)), (fun x48 => (fun h48 => ⟨rfl, ⟨rfl, ⟨rfl, ⟨rfl, ⟨rfl, ⟨trivial, ⟨trivial, ⟨rfl, ⟨rfl, ⟨rfl, ⟨rfl, ⟨trivial, ⟨trivial, ⟨trivial, ⟨⟨⟨trivial, ⟨Sub.refl _, trivial⟩⟩, trivial⟩, ((fun h64 => ⟨h64, trivial⟩) h48)⟩⟩⟩⟩⟩⟩⟩⟩⟩⟩⟩⟩⟩⟩⟩) (k47 x48))⟩) k42)⟩⟩⟩⟩⟩) h41)⟩)⟩⟩) (h37 x38)), (fun x38 => (fun h38 => ⟨rfl, ⟨rfl, ⟨rfl, ⟨rfl, ⟨rfl, ⟨trivial, ⟨trivial, ⟨rfl, ⟨rfl, ⟨rfl, ⟨rfl, ⟨rfl, ⟨rfl, ⟨trivial, ⟨trivial, ⟨rfl, ⟨rfl, ⟨rfl, ⟨rfl, ⟨trivial, ⟨trivial, ⟨trivial, ⟨⟨⟨trivial, ⟨Sub.refl _, trivial⟩⟩, trivial⟩, ((fun h62 => ⟨h62, trivial⟩) h38)⟩⟩⟩⟩⟩⟩⟩⟩⟩⟩⟩⟩⟩⟩⟩⟩⟩⟩⟩⟩⟩⟩⟩) (k37 x38))⟩) k32)⟩⟩⟩⟩⟩) h31)⟩)⟩⟩) (h27 x28)), (fun x28 => (fun h28 => ⟨rfl, ⟨rfl, ⟨rfl, ⟨rfl, ⟨rfl, ⟨trivial, ⟨trivial, ⟨rfl, ⟨rfl, ⟨rfl, ⟨rfl, ⟨rfl, ⟨rfl, ⟨trivial, ⟨trivial, ⟨rfl, ⟨rfl, ⟨rfl, ⟨rfl, ⟨rfl, ⟨rfl, ⟨trivial, ⟨trivial, ⟨rfl, ⟨rfl, ⟨rfl, ⟨rfl, ⟨trivial, ⟨trivial, ⟨trivial, ⟨⟨⟨trivial, ⟨Sub.refl _, trivial⟩⟩, trivial⟩, ((fun h60 => ⟨h60, trivial⟩) h28)⟩⟩⟩⟩⟩⟩⟩⟩⟩⟩⟩⟩⟩⟩⟩⟩⟩⟩⟩⟩⟩⟩⟩⟩⟩⟩⟩⟩⟩⟩⟩) (k27 x28))⟩) k22)⟩⟩⟩⟩⟩) h21)⟩)⟩⟩) (h17 x18)), (fun x18 => (fun h18 => ⟨rfl, ⟨rfl, ⟨rfl, ⟨rfl, ⟨rfl, ⟨trivial, ⟨trivial, ⟨rfl, ⟨rfl, ⟨rfl, ⟨rfl, ⟨rfl, ⟨rfl, ⟨trivial, ⟨trivial, ⟨rfl, ⟨rfl, ⟨rfl, ⟨rfl, ⟨rfl, ⟨rfl, ⟨trivial, ⟨trivial, ⟨rfl, ⟨rfl, ⟨rfl, ⟨rfl, ⟨rfl, ⟨rfl, ⟨trivial, ⟨trivial, ⟨rfl, ⟨rfl, ⟨rfl, ⟨rfl, ⟨trivial, ⟨trivial, ⟨trivial, ⟨⟨⟨trivial, ⟨Sub.refl _, trivial⟩⟩, trivial⟩, ((fun h58 => ⟨h58, trivial⟩) h18)⟩⟩⟩⟩⟩⟩⟩⟩⟩⟩⟩⟩⟩⟩⟩⟩⟩⟩⟩⟩⟩⟩⟩⟩⟩⟩⟩⟩⟩⟩⟩⟩⟩⟩⟩⟩⟩⟩⟩) (k17 x18))⟩) k15)⟩⟩) h14)⟩)⟩⟩⟩⟩⟩⟩⟩⟩) h5)⟩)⟩⟩⟩) h1)⟩)⟩)
theorem hf13 : Go.Proofs.Try.prog.funcs[13]? = some Go.Proofs.Try.f13 := by kernel_rfl
abbrev s13_e (sf : Nat → Int) : List (Nat × AV) := [(0, (.ar 4 1 (fun i0 => (.sc (.int .u64 (sf i0))))))]
abbrev m13_e (sf : Nat → Int) : List (Nat × Nat × AV) := []
def L13_e (sf : Nat → Int) (res : AV) : Prop := Goes ⟨Go.Proofs.Try.prog, 13, [], res, []⟩ (place Go.Proofs.Try.f13 []) (s13_e sf) (m13_e sf)
theorem a13_e (sf : Nat → Int) (res : AV) (h : (∀ slot, fact (look .undef (s13_e sf) slot)) → L13_e sf res) : L13_e sf res :=
  assumeRule 13 [] Go.Proofs.Try.f13 hf13 [] (s13_e sf) (m13_e sf) res [] _ (by kernel_rfl) h
abbrev s13_0 (out_n : Nat) (b0f : Nat → Int) (b1n : Nat) (b1f : Nat → Int) : List (Nat × AV) := [(1, (.pt 1000 [] 0)), (3, (.rf 1001 1 0 out_n))]
abbrev m13_0 (out_n : Nat) (b0f : Nat → Int) (b1n : Nat) (b1f : Nat → Int) : List (Nat × Nat × AV) := [(1000, 24, (.ar 4 1 (fun i0 => (.sc (.int .u64 (b0f i0)))))), (1001, 5, (.ar b1n 1 (fun i0 => (.sc (.int .u8 (b1f i0))))))]
def L13_0 (out_n : Nat) (b0f : Nat → Int) (b1n : Nat) (b1f : Nat → Int) (res : AV) : Prop := Goes ⟨Go.Proofs.Try.prog, 13, [], res, []⟩ (place Go.Proofs.Try.f13 [1, 1, 1]) (s13_0 out_n b0f b1n b1f) (m13_0 out_n b0f b1n b1f)
theorem a13_0 (out_n : Nat) (b0f : Nat → Int) (b1n : Nat) (b1f : Nat → Int) (res : AV) (h : (∀ slot, fact (look .undef (s13_0 out_n b0f b1n b1f) slot)) → L13_0 out_n b0f b1n b1f res) : L13_0 out_n b0f b1n b1f res :=
  assumeRule 13 [] Go.Proofs.Try.f13 hf13 [1, 1, 1] (s13_0 out_n b0f b1n b1f) (m13_0 out_n b0f b1n b1f) res [] _ (by kernel_rfl) h
abbrev s13_1 (out_n : Nat) (b : Int) (b0f : Nat → Int) (b1n : Nat) (b1f : Nat → Int) : List (Nat × AV) := [(1, (.pt 1000 [] 0)), (3, (.rf 1001 1 0 out_n)), (4, (.sc (.int .i64 b)))]
abbrev m13_1 (out_n : Nat) (b : Int) (b0f : Nat → Int) (b1n : Nat) (b1f : Nat → Int) : List (Nat × Nat × AV) := [(1000, 24, (.ar 4 1 (fun i0 => (.sc (.int .u64 (b0f i0)))))), (1001, 5, (.ar b1n 1 (fun i0 => (.sc (.int .u8 (b1f i0))))))]
def L13_1 (out_n : Nat) (b : Int) (b0f : Nat → Int) (b1n : Nat) (b1f : Nat → Int) (res : AV) : Prop := Goes ⟨Go.Proofs.Try.prog, 13, [], res, []⟩ (place Go.Proofs.Try.f13 [1, 1, 1, 0, 1, 0, 0]) (s13_1 out_n b b0f b1n b1f) (m13_1 out_n b b0f b1n b1f)
theorem a13_1 (out_n : Nat) (b : Int) (b0f : Nat → Int) (b1n : Nat) (b1f : Nat → Int) (res : AV) (h : (∀ slot, fact (look .undef (s13_1 out_n b b0f b1n b1f) slot)) → L13_1 out_n b b0f b1n b1f res) : L13_1 out_n b b0f b1n b1f res :=
  assumeRule 13 [] Go.Proofs.Try.f13 hf13 [1, 1, 1, 0, 1, 0, 0] (s13_1 out_n b b0f b1n b1f) (m13_1 out_n b b0f b1n b1f) res [] _ (by kernel_rfl) h
abbrev s13_2 (out_n : Nat) (b : Int) (to : Int) (b0f : Nat → Int) (b1n : Nat) (b1f : Nat → Int) : List (Nat × AV) := [(1, (.pt 1000 [] 0)), (3, (.rf 1001 1 0 out_n)), (4, (.sc (.int .i64 b))), (5, (.sc (.int .i64 to)))]
abbrev m13_2 (out_n : Nat) (b : Int) (to : Int) (b0f : Nat → Int) (b1n : Nat) (b1f : Nat → Int) : List (Nat × Nat × AV) := [(1000, 24, (.ar 4 1 (fun i0 => (.sc (.int .u64 (b0f i0)))))), (1001, 5, (.ar b1n 1 (fun i0 => (.sc (.int .u8 (b1f i0))))))]
def L13_2 (out_n : Nat) (b : Int) (to : Int) (b0f : Nat → Int) (b1n : Nat) (b1f : Nat → Int) (res : AV) : Prop := Goes ⟨Go.Proofs.Try.prog, 13, [], res, []⟩ (place Go.Proofs.Try.f13 [1, 1, 1, 0, 1, 0, 0, 1, 0, 0, 1, 1, 0, 0, 0]) (s13_2 out_n b to b0f b1n b1f) (m13_2 out_n b to b0f b1n b1f)
theorem a13_2 (out_n : Nat) (b : Int) (to : Int) (b0f : Nat → Int) (b1n : Nat) (b1f : Nat → Int) (res : AV) (h : (∀ slot, fact (look .undef (s13_2 out_n b to b0f b1n b1f) slot)) → L13_2 out_n b to b0f b1n b1f res) : L13_2 out_n b to b0f b1n b1f res :=
  assumeRule 13 [] Go.Proofs.Try.f13 hf13 [1, 1, 1, 0, 1, 0, 0, 1, 0, 0, 1, 1, 0, 0, 0] (s13_2 out_n b to b0f b1n b1f) (m13_2 out_n b to b0f b1n b1f) res [] _ (by kernel_rfl) h
abbrev s13_3 (out_n : Nat) (b : Int) (b0f : Nat → Int) (b1n : Nat) (b1f : Nat → Int) : List (Nat × AV) := [(1, (.pt 1000 [] 0)), (3, (.rf 1001 1 0 out_n)), (4, (.sc (.int .i64 b)))]
abbrev m13_3 (out_n : Nat) (b : Int) (b0f : Nat → Int) (b1n : Nat) (b1f : Nat → Int) : List (Nat × Nat × AV) := [(1000, 24, (.ar 4 1 (fun i0 => (.sc (.int .u64 (b0f i0)))))), (1001, 5, (.ar b1n 1 (fun i0 => (.sc (.int .u8 (b1f i0))))))]
def L13_3 (out_n : Nat) (b : Int) (b0f : Nat → Int) (b1n : Nat) (b1f : Nat → Int) (res : AV) : Prop := Goes ⟨Go.Proofs.Try.prog, 13, [], res, []⟩ (place Go.Proofs.Try.f13 [1, 1, 1, 0, 1, 0, 0, 1, 1]) (s13_3 out_n b b0f b1n b1f) (m13_3 out_n b b0f b1n b1f)
theorem a13_3 (out_n : Nat) (b : Int) (b0f : Nat → Int) (b1n : Nat) (b1f : Nat → Int) (res : AV) (h : (∀ slot, fact (look .undef (s13_3 out_n b b0f b1n b1f) slot)) → L13_3 out_n b b0f b1n b1f res) : L13_3 out_n b b0f b1n b1f res :=
  assumeRule 13 [] Go.Proofs.Try.f13 hf13 [1, 1, 1, 0, 1, 0, 0, 1, 1] (s13_3 out_n b b0f b1n b1f) (m13_3 out_n b b0f b1n b1f) res [] _ (by kernel_rfl) h
theorem o13 (sf : Nat → Int) (res : AV) (hnew : newOnly res) (h : L13_e sf res) : Ok Go.Proofs.Try.prog 13 [(.ar 4 1 (fun i0 => (.sc (.int .u64 (sf i0)))))] [] res [] :=
  okRule2 13 Go.Proofs.Try.f13 hf13 [(.ar 4 1 (fun i0 => (.sc (.int .u64 (sf i0)))))] [] res [] [] rfl (by kernel_rfl) (by kernel_rfl) (by kernel_rfl) ⟨hnew, by simp⟩ (L13_e sf res) (by kernel_rfl) h
theorem r13_e (sf : Nat → Int) (res : AV)
    (h : ∃ (r : Int),
  Ok Proofs.Try.prog (16 : Nat) [AV.ar (4 : Nat) (1 : Nat) fun (i : Nat) => AV.sc (Value.int IntKind.u64 (sf i))] [] (AV.sc (Value.int IntKind.i64 r)) [] ∧
    (decide (r > (128 : Int)) = true →
    ((1 : Nat) ≤ (1 : Nat) ∧
    (0 : Nat) + (1 : Nat) ≤ (1 : Nat) ∧ ((1 : Nat) + (1 : Nat)) * (1 : Nat) ≤ (140737488355328 : Nat) ∧ (1 : Nat) + (1 : Nat) ≤ maxLen) ∧
    ∃ (r : Nat → Int),
    Ok Proofs.Try.prog (25 : Nat) [AV.ar (4 : Nat) (1 : Nat) fun (i : Nat) => AV.sc (Value.int IntKind.u64 (sf i))] []
    (AV.ar (4 : Nat) (1 : Nat) fun (i0 : Nat) => AV.sc (Value.int IntKind.u64 (r i0))) [] ∧
    L13_0 (2 : Nat) r (2 : Nat)
    (fun (i : Nat) =>
    bif i.blt (1 : Nat) then bif i.beq (0 : Nat) then (91 : Int) else (0 : Int)
    else bif ((0 : Nat) + (i - (1 : Nat))).beq (0 : Nat) then (94 : Int) else (0 : Int))
    res) ∧
    (decide (r > (128 : Int)) = false → L13_0 (1 : Nat) sf (1 : Nat) (fun (i : Nat) => bif i.beq (0 : Nat) then (91 : Int) else (0 : Int)) res)) :
    L13_e sf res :=
  rule Go.Am.Seat.tabOk 13 [] Go.Proofs.Try.f13 hf13 [] (s13_e sf) (m13_e sf) res [] 400
    (Orc.call [] [] (fun (r16 : Int) => AV.sc (Value.int IntKind.i64 r16)) (fun (r16 : Int) => []) fun (r16 : Int) =>
  (Orc.call [] [] (fun (r25 : Nat → Int) => AV.ar (4 : Nat) (1 : Nat) fun (i0 : Nat) => AV.sc (Value.int IntKind.u64 (r25 i0))) (fun (r25 : Nat → Int) => [])
    fun (r25 : Nat → Int) =>
    Orc.cut (nat_lit 0)
    (s13_0 (2 : Nat) r25 (2 : Nat) fun (i : Nat) =>
    bif i.blt (1 : Nat) then bif i.beq ((0 : Nat), Operand.const (Value.int IntKind.u8 (91 : Int))).fst then (91 : Int) else (0 : Int)
    else bif ((0 : Nat) + (i - (1 : Nat))).beq ((0 : Nat), Operand.const (Value.int IntKind.u8 (94 : Int))).fst then (94 : Int) else (0 : Int))
    (m13_0 (2 : Nat) r25 (2 : Nat) fun (i : Nat) =>
    bif i.blt (1 : Nat) then bif i.beq ((0 : Nat), Operand.const (Value.int IntKind.u8 (91 : Int))).fst then (91 : Int) else (0 : Int)
    else bif ((0 : Nat) + (i - (1 : Nat))).beq ((0 : Nat), Operand.const (Value.int IntKind.u8 (94 : Int))).fst then (94 : Int) else (0 : Int))
    [((1000 : Nat), some (1 : Nat)), ((1001 : Nat), some (12 : Nat))]).br
    (Orc.cut (nat_lit 1)
    (s13_0 (1 : Nat) sf (1 : Nat) fun (i : Nat) => bif i.beq ((0 : Nat), Operand.const (Value.int IntKind.u8 (91 : Int))).fst then (91 : Int) else (0 : Int))
    (m13_0 (1 : Nat) sf (1 : Nat) fun (i : Nat) => bif i.beq ((0 : Nat), Operand.const (Value.int IntKind.u8 (91 : Int))).fst then (91 : Int) else (0 : Int))
    [((1000 : Nat), some (1 : Nat)), ((1001 : Nat), some (6 : Nat))])) _ _ (by kernel_rfl) (by kernel_rfl) (show True ∧
  True ∧
    ((True ∧ True) ∧ True) ∧
    True ∧
    ((0 : Nat) = (0 : Nat) ∧ True) ∧
    ∃ (r : Int),
    ((True ∧ True) ∧
    True ∧
    Ok Proofs.Try.prog (16 : Nat) [AV.ar (4 : Nat) (1 : Nat) fun (i : Nat) => AV.sc (Value.int IntKind.u64 (sf i))] []
    (AV.sc (Value.int IntKind.i64 r)) []) ∧
    True ∧
    (decide (r > (128 : Int)) = true →
    True ∧
    ((True ∧ True) ∧ True) ∧
    ((1 : Nat) ≤ (1 : Nat) ∧
    ((0 : Nat) + (1 : Nat) ≤ (1 : Nat) ∧ (1 : Nat) = (1 : Nat)) ∧
    ((1 : Nat) + (1 : Nat)) * (1 : Nat) ≤ (140737488355328 : Nat) ∧ (1 : Nat) + (1 : Nat) ≤ maxLen) ∧
    True ∧
    ((0 : Nat) = (0 : Nat) ∧ True) ∧
    ∃ (r : Nat → Int),
    ((True ∧ True) ∧
    True ∧
    Ok Proofs.Try.prog (25 : Nat) [AV.ar (4 : Nat) (1 : Nat) fun (i : Nat) => AV.sc (Value.int IntKind.u64 (sf i))] []
    (AV.ar (4 : Nat) (1 : Nat) fun (i0 : Nat) => AV.sc (Value.int IntKind.u64 (r i0))) []) ∧
    ((0 : Nat) = (0 : Nat) ∧ True) ∧
    ((True ∧
    Sub (AV.pt (1000 : Nat) [] (0 : Nat)) (AV.pt (1000 : Nat) [] (0 : Nat)) ∧
    True ∧
    Sub (AV.rf (1001 : Nat) (1 : Nat) (0 : Nat) (2 : Nat)) (AV.rf (1001 : Nat) (1 : Nat) (0 : Nat) (2 : Nat)) ∧
    True) ∧
    True ∧
    SubB (AV.ar (4 : Nat) (1 : Nat) fun (i0 : Nat) => AV.sc (Value.int IntKind.u64 (r i0)))
    (AV.ar (4 : Nat) (1 : Nat) fun (i0 : Nat) => AV.sc (Value.int IntKind.u64 (r i0))) ∧
    True ∧
    SubB
    (AV.ar (2 : Nat) (1 : Nat) fun (i : Nat) =>
    AV.sc
    (Value.int IntKind.u8
    (bif i.blt (1 : Nat) then bif i.beq (0 : Nat) then (91 : Int) else (0 : Int)
    else bif ((0 : Nat) + (i - (1 : Nat))).beq (0 : Nat) then (94 : Int) else (0 : Int))))
    (AV.ar (2 : Nat) (1 : Nat) fun (i0 : Nat) =>
    AV.sc
    (Value.int IntKind.u8
    (bif i0.blt (1 : Nat) then bif i0.beq (0 : Nat) then (91 : Int) else (0 : Int)
    else bif ((0 : Nat) + (i0 - (1 : Nat))).beq (0 : Nat) then (94 : Int) else (0 : Int)))) ∧
    True) ∧
    L13_0 (2 : Nat) r (2 : Nat)
    (fun (i : Nat) =>
    bif i.blt (1 : Nat) then bif i.beq (0 : Nat) then (91 : Int) else (0 : Int)
    else bif ((0 : Nat) + (i - (1 : Nat))).beq (0 : Nat) then (94 : Int) else (0 : Int))
    res) ∧
    (decide (r > (128 : Int)) = false →
    ((True ∧
    Sub (AV.pt (1000 : Nat) [] (0 : Nat)) (AV.pt (1000 : Nat) [] (0 : Nat)) ∧
    True ∧ Sub (AV.rf (1001 : Nat) (1 : Nat) (0 : Nat) (1 : Nat)) (AV.rf (1001 : Nat) (1 : Nat) (0 : Nat) (1 : Nat)) ∧ True) ∧
    True ∧
    SubB (AV.ar (4 : Nat) (1 : Nat) fun (i0 : Nat) => AV.sc (Value.int IntKind.u64 (sf i0)))
    (AV.ar (4 : Nat) (1 : Nat) fun (i0 : Nat) => AV.sc (Value.int IntKind.u64 (sf i0))) ∧
    True ∧
    SubB
    (AV.ar (1 : Nat) (1 : Nat) fun (i : Nat) => AV.sc (Value.int IntKind.u8 (bif i.beq (0 : Nat) then (91 : Int) else (0 : Int))))
    (AV.ar (1 : Nat) (1 : Nat) fun (i0 : Nat) =>
    AV.sc (Value.int IntKind.u8 (bif i0.beq (0 : Nat) then (91 : Int) else (0 : Int)))) ∧
    True) ∧
    L13_0 (1 : Nat) sf (1 : Nat) (fun (i : Nat) => bif i.beq (0 : Nat) then (91 : Int) else (0 : Int)) res) from
    ⟨trivial, ⟨trivial, ⟨⟨⟨trivial, trivial⟩, trivial⟩, ⟨trivial, ⟨⟨rfl, trivial⟩, (Exists.elim h fun x5 h5 => ⟨x5, (And.elim (fun h6 k6 => ⟨⟨⟨trivial, trivial⟩, ⟨trivial, h6⟩⟩, ⟨trivial, (And.elim (fun h8 k8 => ⟨(fun x9 => (fun h9 => ⟨trivial, ⟨⟨⟨trivial, trivial⟩, trivial⟩, (And.elim (fun h12 k12 => ⟨(And.elim (fun h13 k13 => ⟨h13, (And.elim (fun h14 k14 => ⟨((fun h15 => ⟨h15, rfl⟩) h14), (And.elim (fun h15 k15 => ⟨h15, k15⟩) k14)⟩) k13)⟩) h12), ⟨trivial, ⟨⟨rfl, trivial⟩, (Exists.elim k12 fun x15 h15 => ⟨x15, (And.elim (fun h16 k16 => ⟨⟨⟨trivial, trivial⟩, ⟨trivial, h16⟩⟩, ⟨⟨rfl, trivial⟩, ⟨⟨⟨trivial, ⟨Sub.refl _, ⟨trivial, ⟨Sub.refl _, trivial⟩⟩⟩⟩, ⟨trivial, ⟨SubB.refl _, ⟨trivial, ⟨SubB.refl _, trivial⟩⟩⟩⟩⟩, k16⟩⟩⟩) h15)⟩)⟩⟩⟩) h9)⟩⟩) (h8 x9)), (fun x9 => (fun h9 => ⟨⟨⟨trivial, ⟨Sub.refl _, ⟨trivial, ⟨Sub.refl _, trivial⟩⟩⟩⟩, ⟨trivial, ⟨SubB.refl _, ⟨trivial, ⟨SubB.refl _, trivial⟩⟩⟩⟩⟩, h9⟩) (k8 x9))⟩) k6)⟩⟩) h5)⟩)⟩⟩⟩⟩⟩)
theorem r13_0 (out_n : Nat) (b0f : Nat → Int) (b1n : Nat) (b1f : Nat → Int) (res : AV)
    (h : L13_1 out_n (0 : Int) b0f b1n b1f res) :
    L13_0 out_n b0f b1n b1f res :=
  rule Go.Am.Seat.tabOk 13 [] Go.Proofs.Try.f13 hf13 [1, 1, 1] (s13_0 out_n b0f b1n b1f) (m13_0 out_n b0f b1n b1f) res [] 400
    (Orc.cut (nat_lit 5) (s13_1 out_n (0 : Int) b0f b1n b1f) (m13_1 out_n (0 : Int) b0f b1n b1f)
  [((1000 : Nat), some (1000 : Nat)), ((1001 : Nat), some (1001 : Nat))]) _ _ (by kernel_rfl) (by kernel_rfl) (show True ∧
  ((True ∧
    Sub (AV.pt (1000 : Nat) [] (0 : Nat)) (AV.pt (1000 : Nat) [] (0 : Nat)) ∧
    True ∧
    Sub (AV.rf (1001 : Nat) (1 : Nat) (0 : Nat) out_n) (AV.rf (1001 : Nat) (1 : Nat) (0 : Nat) out_n) ∧
    True ∧ Sub (AV.sc (Value.int IntKind.i64 (0 : Int))) (AV.sc (Value.int IntKind.i64 (0 : Int))) ∧ True) ∧
    True ∧
    SubB (AV.ar (4 : Nat) (1 : Nat) fun (i0 : Nat) => AV.sc (Value.int IntKind.u64 (b0f i0)))
    (AV.ar (4 : Nat) (1 : Nat) fun (i0 : Nat) => AV.sc (Value.int IntKind.u64 (b0f i0))) ∧
    True ∧
    SubB (AV.ar b1n (1 : Nat) fun (i0 : Nat) => AV.sc (Value.int IntKind.u8 (b1f i0)))
    (AV.ar b1n (1 : Nat) fun (i0 : Nat) => AV.sc (Value.int IntKind.u8 (b1f i0))) ∧
    True) ∧
    L13_1 out_n (0 : Int) b0f b1n b1f res from
    ⟨trivial, ⟨⟨⟨trivial, ⟨Sub.refl _, ⟨trivial, ⟨Sub.refl _, ⟨trivial, ⟨Sub.refl _, trivial⟩⟩⟩⟩⟩⟩, ⟨trivial, ⟨SubB.refl _, ⟨trivial, ⟨SubB.refl _, trivial⟩⟩⟩⟩⟩, h⟩⟩)
theorem r13_1 (out_n : Nat) (b : Int) (b0f : Nat → Int) (b1n : Nat) (b1f : Nat → Int) (res : AV)
    (h : (decide (b < (256 : Int)) = true →
    ∃ (r : Bool),
    Ok Proofs.Try.prog (15 : Nat)
    [AV.ar (4 : Nat) (1 : Nat) fun (i : Nat) => AV.sc (Value.int IntKind.u64 (b0f i)), AV.sc (Value.int IntKind.u8 (IntKind.u8.wrap b))] []
    (AV.sc (Value.bool r)) [] ∧
    ((!r) = true → L13_3 out_n b b0f b1n b1f res) ∧ ((!r) = false → L13_2 out_n b b b0f b1n b1f res)) ∧
  (decide (b < (256 : Int)) = false →
    (out_n ≤ b1n ∧ (0 : Nat) + (1 : Nat) ≤ (1 : Nat) ∧ (out_n + (1 : Nat)) * (1 : Nat) ≤ (140737488355328 : Nat) ∧ out_n + (1 : Nat) ≤ maxLen) ∧
    ((0 : Nat) + (out_n + (1 : Nat)) ≤ out_n + (1 : Nat) ∧
    (strOf (out_n + (1 : Nat)) fun (i : Nat) =>
    bif ((0 : Nat) + i).blt out_n then b1f ((0 : Nat) + i)
    else bif ((0 : Nat) + ((0 : Nat) + i - out_n)).beq (0 : Nat) then (93 : Int) else (0 : Int)).size =
    out_n + (1 : Nat) ∧
    ∀ (i : Nat),
    i < out_n + (1 : Nat) →
    AV.sc
    (Value.int IntKind.u8
    (bif ((0 : Nat) + i).blt out_n then b1f ((0 : Nat) + i)
    else bif ((0 : Nat) + ((0 : Nat) + i - out_n)).beq (0 : Nat) then (93 : Int) else (0 : Int))) =
    AV.sc
    (Value.int IntKind.u8
    (↑(byteAt
    (strOf (out_n + (1 : Nat)) fun (i : Nat) =>
    bif ((0 : Nat) + i).blt out_n then b1f ((0 : Nat) + i)
    else bif ((0 : Nat) + ((0 : Nat) + i - out_n)).beq (0 : Nat) then (93 : Int) else (0 : Int))
    i).toNat :
    Int))) ∧
    Sub
    (AV.sc
    (Value.string
    (strOf (out_n + (1 : Nat)) fun (i : Nat) =>
    bif ((0 : Nat) + i).blt out_n then b1f ((0 : Nat) + i)
    else bif ((0 : Nat) + ((0 : Nat) + i - out_n)).beq (0 : Nat) then (93 : Int) else (0 : Int))))
    res)) :
    L13_1 out_n b b0f b1n b1f res :=
  rule Go.Am.Seat.tabOk 13 [] Go.Proofs.Try.f13 hf13 [1, 1, 1, 0, 1, 0, 0] (s13_1 out_n b b0f b1n b1f) (m13_1 out_n b b0f b1n b1f) res [] 400
    ((Orc.call [] [] (fun (r15 : Bool) => AV.sc (Value.bool r15)) (fun (r15 : Bool) => []) fun (r15 : Bool) =>
    (Orc.cut (nat_lit 1) (s13_3 out_n b b0f b1n b1f) (m13_3 out_n b b0f b1n b1f) [((1000 : Nat), some (1000 : Nat)), ((1001 : Nat), some (1001 : Nat))]).br
    (Orc.cut (nat_lit 6) (s13_2 out_n b b b0f b1n b1f) (m13_2 out_n b b b0f b1n b1f)
    [((1000 : Nat), some (1000 : Nat)), ((1001 : Nat), some (1001 : Nat))])).br
  (Orc.ch Ch.none
    (Orc.ch Ch.none
    (Orc.ch Ch.none
    (Orc.ch
    (Ch.s
    (strOf (out_n + (1 : Nat)) fun (i : Nat) =>
    bif ((0 : Nat) + i).blt out_n then b1f ((0 : Nat) + i)
    else
    bif ((0 : Nat) + ((0 : Nat) + i - out_n)).beq ((0 : Nat), Operand.const (Value.int IntKind.u8 (93 : Int))).fst then (93 : Int) else (0 : Int)))
    (Orc.fin
    (AV.sc
    (Value.string
    (strOf (out_n + (1 : Nat)) fun (i : Nat) =>
    bif ((0 : Nat) + i).blt out_n then b1f ((0 : Nat) + i)
    else
    bif ((0 : Nat) + ((0 : Nat) + i - out_n)).beq ((0 : Nat), Operand.const (Value.int IntKind.u8 (93 : Int))).fst then (93 : Int)
    else (0 : Int))))
    [] [])))))) _ _ (by kernel_rfl) (by kernel_rfl) (show True ∧
  True ∧
    (decide (b < (256 : Int)) = true →
    ((0 : Nat) = (0 : Nat) ∧ True) ∧
    True ∧
    True ∧
    ∃ (r : Bool),
    ((True ∧ True ∧ True) ∧
    True ∧
    Ok Proofs.Try.prog (15 : Nat)
    [AV.ar (4 : Nat) (1 : Nat) fun (i : Nat) => AV.sc (Value.int IntKind.u64 (b0f i)), AV.sc (Value.int IntKind.u8 (IntKind.u8.wrap b))] []
    (AV.sc (Value.bool r)) []) ∧
    True ∧
    ((!r) = true →
    ((True ∧
    Sub (AV.pt (1000 : Nat) [] (0 : Nat)) (AV.pt (1000 : Nat) [] (0 : Nat)) ∧
    True ∧
    Sub (AV.rf (1001 : Nat) (1 : Nat) (0 : Nat) out_n) (AV.rf (1001 : Nat) (1 : Nat) (0 : Nat) out_n) ∧
    True ∧ Sub (AV.sc (Value.int IntKind.i64 b)) (AV.sc (Value.int IntKind.i64 b)) ∧ True) ∧
    True ∧
    SubB (AV.ar (4 : Nat) (1 : Nat) fun (i0 : Nat) => AV.sc (Value.int IntKind.u64 (b0f i0)))
    (AV.ar (4 : Nat) (1 : Nat) fun (i0 : Nat) => AV.sc (Value.int IntKind.u64 (b0f i0))) ∧
    True ∧
    SubB (AV.ar b1n (1 : Nat) fun (i0 : Nat) => AV.sc (Value.int IntKind.u8 (b1f i0)))
    (AV.ar b1n (1 : Nat) fun (i0 : Nat) => AV.sc (Value.int IntKind.u8 (b1f i0))) ∧
    True) ∧
    L13_3 out_n b b0f b1n b1f res) ∧
    ((!r) = false →
    True ∧
    True ∧
    ((True ∧
    Sub (AV.pt (1000 : Nat) [] (0 : Nat)) (AV.pt (1000 : Nat) [] (0 : Nat)) ∧
    True ∧
    Sub (AV.rf (1001 : Nat) (1 : Nat) (0 : Nat) out_n) (AV.rf (1001 : Nat) (1 : Nat) (0 : Nat) out_n) ∧
    True ∧
    Sub (AV.sc (Value.int IntKind.i64 b)) (AV.sc (Value.int IntKind.i64 b)) ∧
    True ∧ Sub (AV.sc (Value.int IntKind.i64 b)) (AV.sc (Value.int IntKind.i64 b)) ∧ True) ∧
    True ∧
    SubB (AV.ar (4 : Nat) (1 : Nat) fun (i0 : Nat) => AV.sc (Value.int IntKind.u64 (b0f i0)))
    (AV.ar (4 : Nat) (1 : Nat) fun (i0 : Nat) => AV.sc (Value.int IntKind.u64 (b0f i0))) ∧
    True ∧
    SubB (AV.ar b1n (1 : Nat) fun (i0 : Nat) => AV.sc (Value.int IntKind.u8 (b1f i0)))
    (AV.ar b1n (1 : Nat) fun (i0 : Nat) => AV.sc (Value.int IntKind.u8 (b1f i0))) ∧
    True) ∧
    L13_2 out_n b b b0f b1n b1f res)) ∧
    (decide (b < (256 : Int)) = false →
    True ∧
    ((True ∧ True) ∧ True) ∧
    (out_n ≤ b1n ∧
    ((0 : Nat) + (1 : Nat) ≤ (1 : Nat) ∧ (1 : Nat) = (1 : Nat)) ∧
    (out_n + (1 : Nat)) * (1 : Nat) ≤ (140737488355328 : Nat) ∧ out_n + (1 : Nat) ≤ maxLen) ∧
    (((0 : Nat) + (out_n + (1 : Nat)) ≤ out_n + (1 : Nat) ∧ (1 : Nat) = (1 : Nat)) ∧
    (strOf (out_n + (1 : Nat)) fun (i : Nat) =>
    bif ((0 : Nat) + i).blt out_n then b1f ((0 : Nat) + i)
    else bif ((0 : Nat) + ((0 : Nat) + i - out_n)).beq (0 : Nat) then (93 : Int) else (0 : Int)).size =
    out_n + (1 : Nat) ∧
    ∀ (i : Nat),
    i < out_n + (1 : Nat) →
    AV.sc
    (Value.int IntKind.u8
    (bif ((0 : Nat) + i).blt out_n then b1f ((0 : Nat) + i)
    else bif ((0 : Nat) + ((0 : Nat) + i - out_n)).beq (0 : Nat) then (93 : Int) else (0 : Int))) =
    AV.sc
    (Value.int IntKind.u8
    (↑(byteAt
    (strOf (out_n + (1 : Nat)) fun (i : Nat) =>
    bif ((0 : Nat) + i).blt out_n then b1f ((0 : Nat) + i)
    else bif ((0 : Nat) + ((0 : Nat) + i - out_n)).beq (0 : Nat) then (93 : Int) else (0 : Int))
    i).toNat :
    Int))) ∧
    True ∧
    True ∧
    ((True ∧
    Sub
    (AV.sc
    (Value.string
    (strOf (out_n + (1 : Nat)) fun (i : Nat) =>
    bif ((0 : Nat) + i).blt out_n then b1f ((0 : Nat) + i)
    else bif ((0 : Nat) + ((0 : Nat) + i - out_n)).beq (0 : Nat) then (93 : Int) else (0 : Int))))
    (AV.sc
    (Value.string
    (strOf (out_n + (1 : Nat)) fun (i : Nat) =>
    bif ((0 : Nat) + i).blt out_n then b1f ((0 : Nat) + i)
    else bif ((0 : Nat) + ((0 : Nat) + i - out_n)).beq (0 : Nat) then (93 : Int) else (0 : Int)))) ∧
    True) ∧
    True) ∧
    Sub
    (AV.sc
    (Value.string
    (strOf (out_n + (1 : Nat)) fun (i : Nat) =>
    bif ((0 : Nat) + i).blt out_n then b1f ((0 : Nat) + i)
    else bif ((0 : Nat) + ((0 : Nat) + i - out_n)).beq (0 : Nat) then (93 : Int) else (0 : Int))))
    res ∧
    SubOut [] []) from
    ⟨trivial, ⟨trivial, (And.elim (fun h2 k2 => ⟨(fun x3 => (fun h3 => ⟨⟨rfl, trivial⟩, ⟨trivial, ⟨trivial, (Exists.elim h3 fun x7 h7 => ⟨x7, (And.elim (fun h8 k8 => ⟨⟨⟨trivial, ⟨trivial, trivial⟩⟩, ⟨trivial, h8⟩⟩, ⟨trivial, (And.elim (fun h10 k10 => ⟨(fun x11 => (fun h11 => ⟨⟨⟨trivial, ⟨Sub.refl _, ⟨trivial, ⟨Sub.refl _, ⟨trivial, ⟨Sub.refl _, trivial⟩⟩⟩⟩⟩⟩, ⟨trivial, ⟨SubB.refl _, ⟨trivial, ⟨SubB.refl _, trivial⟩⟩⟩⟩⟩, h11⟩) (h10 x11)), (fun x11 => (fun h11 => ⟨trivial, ⟨trivial, ⟨⟨⟨trivial, ⟨Sub.refl _, ⟨trivial, ⟨Sub.refl _, ⟨trivial, ⟨Sub.refl _, ⟨trivial, ⟨Sub.refl _, trivial⟩⟩⟩⟩⟩⟩⟩⟩, ⟨trivial, ⟨SubB.refl _, ⟨trivial, ⟨SubB.refl _, trivial⟩⟩⟩⟩⟩, h11⟩⟩⟩) (k10 x11))⟩) k8)⟩⟩) h7)⟩)⟩⟩⟩) (h2 x3)), (fun x3 => (fun h3 => ⟨trivial, ⟨⟨⟨trivial, trivial⟩, trivial⟩, (And.elim (fun h6 k6 => ⟨(And.elim (fun h7 k7 => ⟨h7, (And.elim (fun h8 k8 => ⟨((fun h9 => ⟨h9, rfl⟩) h8), (And.elim (fun h9 k9 => ⟨h9, k9⟩) k8)⟩) k7)⟩) h6), (And.elim (fun h7 k7 => ⟨(And.elim (fun h8 k8 => ⟨((fun h9 => ⟨h9, rfl⟩) h8), (And.elim (fun h9 k9 => ⟨h9, (fun x10 => (fun h10 => (fun x11 => (fun h11 => h11) (h10 x11))) (k9 x10))⟩) k8)⟩) h7), ⟨trivial, ⟨trivial, ⟨⟨⟨trivial, ⟨Sub.refl _, trivial⟩⟩, trivial⟩, ((fun h11 => ⟨h11, trivial⟩) k7)⟩⟩⟩⟩) k6)⟩) h3)⟩⟩) (k2 x3))⟩) h)⟩⟩)
theorem r13_2 (out_n : Nat) (b : Int) (to : Int) (b0f : Nat → Int) (b1n : Nat) (b1f : Nat → Int) (res : AV)
    (h : (decide (to < (255 : Int)) = true →
    ∃ (r : Bool),
    Ok Proofs.Try.prog (15 : Nat)
    [AV.ar (4 : Nat) (1 : Nat) fun (i : Nat) => AV.sc (Value.int IntKind.u64 (b0f i)),
    AV.sc (Value.int IntKind.u8 (IntKind.u8.wrap (IntKind.i64.wrap (to + (1 : Int)))))]
    [] (AV.sc (Value.bool r)) [] ∧
    (r = true → L13_2 out_n b (IntKind.i64.wrap (to + (1 : Int))) b0f b1n b1f res) ∧
    (r = false →
    ∃ (r : Nat × Nat × (Nat → Int)),
    Ok Proofs.Try.prog (28 : Nat) [AV.rf (2000 : Nat) (1 : Nat) (0 : Nat) out_n, AV.sc (Value.int IntKind.u8 (IntKind.u8.wrap b))]
    [((2000 : Nat), (5 : Nat), AV.ar b1n (1 : Nat) fun (i : Nat) => AV.sc (Value.int IntKind.u8 (b1f i)))]
    (AV.rf (1000 : Nat) (1 : Nat) (0 : Nat) r.fst)
    [((1000 : Nat), (5 : Nat), AV.ar r.snd.fst (1 : Nat) fun (i0 : Nat) => AV.sc (Value.int IntKind.u8 (r.snd.snd i0)))] ∧
    (decide (to ≥ IntKind.i64.wrap (b + (2 : Int))) = true →
    (r.fst ≤ r.snd.fst ∧
    (0 : Nat) + (1 : Nat) ≤ (1 : Nat) ∧ (r.fst + (1 : Nat)) * (1 : Nat) ≤ (140737488355328 : Nat) ∧ r.fst + (1 : Nat) ≤ maxLen) ∧
    ∃ (r_1 : Nat × Nat × (Nat → Int)),
    Ok Proofs.Try.prog (28 : Nat)
    [AV.rf (2000 : Nat) (1 : Nat) (0 : Nat) (r.fst + (1 : Nat)), AV.sc (Value.int IntKind.u8 (IntKind.u8.wrap to))]
    [((2000 : Nat), (5 : Nat),
    AV.ar (r.fst + (1 : Nat)) (1 : Nat) fun (i : Nat) =>
    AV.sc
    (Value.int IntKind.u8
    (bif i.blt r.fst then r.snd.snd i else bif ((0 : Nat) + (i - r.fst)).beq (0 : Nat) then (45 : Int) else (0 : Int))))]
    (AV.rf (1000 : Nat) (1 : Nat) (0 : Nat) r_1.fst)
    [((1000 : Nat), (5 : Nat), AV.ar r_1.snd.fst (1 : Nat) fun (i0 : Nat) => AV.sc (Value.int IntKind.u8 (r_1.snd.snd i0)))] ∧
    L13_3 r_1.fst to b0f r_1.snd.fst r_1.snd.snd res) ∧
    (decide (to ≥ IntKind.i64.wrap (b + (2 : Int))) = false → L13_3 r.fst b b0f r.snd.fst r.snd.snd res))) ∧
  (decide (to < (255 : Int)) = !true →
    ∃ (r : Nat × Nat × (Nat → Int)),
    Ok Proofs.Try.prog (28 : Nat) [AV.rf (2000 : Nat) (1 : Nat) (0 : Nat) out_n, AV.sc (Value.int IntKind.u8 (IntKind.u8.wrap b))]
    [((2000 : Nat), (5 : Nat), AV.ar b1n (1 : Nat) fun (i : Nat) => AV.sc (Value.int IntKind.u8 (b1f i)))] (AV.rf (1000 : Nat) (1 : Nat) (0 : Nat) r.fst)
    [((1000 : Nat), (5 : Nat), AV.ar r.snd.fst (1 : Nat) fun (i0 : Nat) => AV.sc (Value.int IntKind.u8 (r.snd.snd i0)))] ∧
    (decide (to ≥ IntKind.i64.wrap (b + (2 : Int))) = true →
    (r.fst ≤ r.snd.fst ∧ (0 : Nat) + (1 : Nat) ≤ (1 : Nat) ∧ (r.fst + (1 : Nat)) * (1 : Nat) ≤ (140737488355328 : Nat) ∧ r.fst + (1 : Nat) ≤ maxLen) ∧
    ∃ (r_1 : Nat × Nat × (Nat → Int)),
    Ok Proofs.Try.prog (28 : Nat) [AV.rf (2000 : Nat) (1 : Nat) (0 : Nat) (r.fst + (1 : Nat)), AV.sc (Value.int IntKind.u8 (IntKind.u8.wrap to))]
    [((2000 : Nat), (5 : Nat),
    AV.ar (r.fst + (1 : Nat)) (1 : Nat) fun (i : Nat) =>
    AV.sc
    (Value.int IntKind.u8
    (bif i.blt r.fst then r.snd.snd i else bif ((0 : Nat) + (i - r.fst)).beq (0 : Nat) then (45 : Int) else (0 : Int))))]
    (AV.rf (1000 : Nat) (1 : Nat) (0 : Nat) r_1.fst)
    [((1000 : Nat), (5 : Nat), AV.ar r_1.snd.fst (1 : Nat) fun (i0 : Nat) => AV.sc (Value.int IntKind.u8 (r_1.snd.snd i0)))] ∧
    L13_3 r_1.fst to b0f r_1.snd.fst r_1.snd.snd res) ∧
    (decide (to ≥ IntKind.i64.wrap (b + (2 : Int))) = false → L13_3 r.fst b b0f r.snd.fst r.snd.snd res))) :
    L13_2 out_n b to b0f b1n b1f res :=
  rule Go.Am.Seat.tabOk 13 [] Go.Proofs.Try.f13 hf13 [1, 1, 1, 0, 1, 0, 0, 1, 0, 0, 1, 1, 0, 0, 0] (s13_2 out_n b to b0f b1n b1f) (m13_2 out_n b to b0f b1n b1f) res [] 400
    ((Orc.call [] [] (fun (r15 : Bool) => AV.sc (Value.bool r15)) (fun (r15 : Bool) => []) fun (r15 : Bool) =>
    (Orc.cut (nat_lit 5) (s13_2 out_n b (IntKind.i64.wrap (to + (1 : Int))) b0f b1n b1f)
    (m13_2 out_n b (IntKind.i64.wrap (to + (1 : Int))) b0f b1n b1f) [((1000 : Nat), some (1000 : Nat)), ((1001 : Nat), some (1001 : Nat))]).br
    (Orc.call [((1001 : Nat), (2000 : Nat))] [((100390 : Nat), (1000 : Nat))]
    (fun (r28 : Nat × Nat × (Nat → Int)) => AV.rf (1000 : Nat) (1 : Nat) (0 : Nat) r28.fst)
    (fun (r28 : Nat × Nat × (Nat → Int)) =>
    [((1000 : Nat), (5 : Nat), AV.ar r28.snd.fst (1 : Nat) fun (i0 : Nat) => AV.sc (Value.int IntKind.u8 (r28.snd.snd i0)))])
    fun (r28 : Nat × Nat × (Nat → Int)) =>
    (Orc.call [((46 : Nat), (2000 : Nat))] [((100490 : Nat), (1000 : Nat))]
    (fun (r28 : Nat × Nat × (Nat → Int)) => AV.rf (1000 : Nat) (1 : Nat) (0 : Nat) r28.fst)
    (fun (r28 : Nat × Nat × (Nat → Int)) =>
    [((1000 : Nat), (5 : Nat), AV.ar r28.snd.fst (1 : Nat) fun (i0 : Nat) => AV.sc (Value.int IntKind.u8 (r28.snd.snd i0)))])
    fun (r28 : Nat × Nat × (Nat → Int)) =>
    Orc.cut (nat_lit 2) (s13_3 r28.fst to b0f r28.snd.fst r28.snd.snd) (m13_3 r28.fst to b0f r28.snd.fst r28.snd.snd)
    [((1000 : Nat), some (1000 : Nat)), ((1001 : Nat), some (100490 : Nat))]).br
    (Orc.cut (nat_lit 2) (s13_3 r28.fst b b0f r28.snd.fst r28.snd.snd) (m13_3 r28.fst b b0f r28.snd.fst r28.snd.snd)
    [((1000 : Nat), some (1000 : Nat)), ((1001 : Nat), some (100390 : Nat))]))).yes.yes.yes.yes.br
  (Orc.call [((1001 : Nat), (2000 : Nat))] [((100390 : Nat), (1000 : Nat))]
    (fun (r28 : Nat × Nat × (Nat → Int)) => AV.rf (1000 : Nat) (1 : Nat) (0 : Nat) r28.fst)
    (fun (r28 : Nat × Nat × (Nat → Int)) =>
    [((1000 : Nat), (5 : Nat), AV.ar r28.snd.fst (1 : Nat) fun (i0 : Nat) => AV.sc (Value.int IntKind.u8 (r28.snd.snd i0)))])
    fun (r28 : Nat × Nat × (Nat → Int)) =>
    (Orc.call [((46 : Nat), (2000 : Nat))] [((100490 : Nat), (1000 : Nat))]
    (fun (r28 : Nat × Nat × (Nat → Int)) => AV.rf (1000 : Nat) (1 : Nat) (0 : Nat) r28.fst)
    (fun (r28 : Nat × Nat × (Nat → Int)) =>
    [((1000 : Nat), (5 : Nat), AV.ar r28.snd.fst (1 : Nat) fun (i0 : Nat) => AV.sc (Value.int IntKind.u8 (r28.snd.snd i0)))])
    fun (r28 : Nat × Nat × (Nat → Int)) =>
    Orc.cut (nat_lit 2) (s13_3 r28.fst to b0f r28.snd.fst r28.snd.snd) (m13_3 r28.fst to b0f r28.snd.fst r28.snd.snd)
    [((1000 : Nat), some (1000 : Nat)), ((1001 : Nat), some (100490 : Nat))]).br
    (Orc.cut (nat_lit 2) (s13_3 r28.fst b b0f r28.snd.fst r28.snd.snd) (m13_3 r28.fst b b0f r28.snd.fst r28.snd.snd)
    [((1000 : Nat), some (1000 : Nat)), ((1001 : Nat), some (100390 : Nat))])).no.no.no.no.no) _ _ (by kernel_rfl) (by kernel_rfl) (show True ∧
  True ∧
    True ∧
    (decide (to < (255 : Int)) = true →
    ((0 : Nat) = (0 : Nat) ∧ True) ∧
    true = true ∧
    True ∧
    true = true ∧
    True ∧
    true = true ∧
    True ∧
    true = true ∧
    ∃ (r : Bool),
    ((True ∧ True ∧ True) ∧
    True ∧
    Ok Proofs.Try.prog (15 : Nat)
    [AV.ar (4 : Nat) (1 : Nat) fun (i : Nat) => AV.sc (Value.int IntKind.u64 (b0f i)),
    AV.sc (Value.int IntKind.u8 (IntKind.u8.wrap (IntKind.i64.wrap (to + (1 : Int)))))]
    [] (AV.sc (Value.bool r)) []) ∧
    True ∧
    (r = true →
    True ∧
    True ∧
    True ∧
    ((True ∧
    Sub (AV.pt (1000 : Nat) [] (0 : Nat)) (AV.pt (1000 : Nat) [] (0 : Nat)) ∧
    True ∧
    Sub (AV.rf (1001 : Nat) (1 : Nat) (0 : Nat) out_n) (AV.rf (1001 : Nat) (1 : Nat) (0 : Nat) out_n) ∧
    True ∧
    Sub (AV.sc (Value.int IntKind.i64 b)) (AV.sc (Value.int IntKind.i64 b)) ∧
    True ∧
    Sub (AV.sc (Value.int IntKind.i64 (IntKind.i64.wrap (to + (1 : Int)))))
    (AV.sc (Value.int IntKind.i64 (IntKind.i64.wrap (to + (1 : Int))))) ∧
    True) ∧
    True ∧
    SubB (AV.ar (4 : Nat) (1 : Nat) fun (i0 : Nat) => AV.sc (Value.int IntKind.u64 (b0f i0)))
    (AV.ar (4 : Nat) (1 : Nat) fun (i0 : Nat) => AV.sc (Value.int IntKind.u64 (b0f i0))) ∧
    True ∧
    SubB (AV.ar b1n (1 : Nat) fun (i0 : Nat) => AV.sc (Value.int IntKind.u8 (b1f i0)))
    (AV.ar b1n (1 : Nat) fun (i0 : Nat) => AV.sc (Value.int IntKind.u8 (b1f i0))) ∧
    True) ∧
    L13_2 out_n b (IntKind.i64.wrap (to + (1 : Int))) b0f b1n b1f res) ∧
    (r = false →
    True ∧
    True ∧
    True ∧
    ∃ (r : Nat × Nat × (Nat → Int)),
    ((True ∧ True ∧ True) ∧
    (True ∧ True) ∧
    Ok Proofs.Try.prog (28 : Nat)
    [AV.rf (2000 : Nat) (1 : Nat) (0 : Nat) out_n, AV.sc (Value.int IntKind.u8 (IntKind.u8.wrap b))]
    [((2000 : Nat), (5 : Nat), AV.ar b1n (1 : Nat) fun (i : Nat) => AV.sc (Value.int IntKind.u8 (b1f i)))]
    (AV.rf (1000 : Nat) (1 : Nat) (0 : Nat) r.fst)
    [((1000 : Nat), (5 : Nat),
    AV.ar r.snd.fst (1 : Nat) fun (i0 : Nat) => AV.sc (Value.int IntKind.u8 (r.snd.snd i0)))]) ∧
    True ∧
    True ∧
    True ∧
    True ∧
    True ∧
    (decide (to ≥ IntKind.i64.wrap (b + (2 : Int))) = true →
    True ∧
    ((True ∧ True) ∧ True) ∧
    (r.fst ≤ r.snd.fst ∧
    ((0 : Nat) + (1 : Nat) ≤ (1 : Nat) ∧ (1 : Nat) = (1 : Nat)) ∧
    (r.fst + (1 : Nat)) * (1 : Nat) ≤ (140737488355328 : Nat) ∧ r.fst + (1 : Nat) ≤ maxLen) ∧
    True ∧
    True ∧
    ∃ (r_1 : Nat × Nat × (Nat → Int)),
    ((True ∧ True ∧ True) ∧
    (True ∧ True) ∧
    Ok Proofs.Try.prog (28 : Nat)
    [AV.rf (2000 : Nat) (1 : Nat) (0 : Nat) (r.fst + (1 : Nat)),
    AV.sc (Value.int IntKind.u8 (IntKind.u8.wrap to))]
    [((2000 : Nat), (5 : Nat),
    AV.ar (r.fst + (1 : Nat)) (1 : Nat) fun (i : Nat) =>
    AV.sc
    (Value.int IntKind.u8
    (bif i.blt r.fst then r.snd.snd i
    else
    bif ((0 : Nat) + (i - r.fst)).beq (0 : Nat) then (45 : Int)
    else (0 : Int))))]
    (AV.rf (1000 : Nat) (1 : Nat) (0 : Nat) r_1.fst)
    [((1000 : Nat), (5 : Nat),
    AV.ar r_1.snd.fst (1 : Nat) fun (i0 : Nat) =>
    AV.sc (Value.int IntKind.u8 (r_1.snd.snd i0)))]) ∧
    True ∧
    True ∧
    True ∧
    ((True ∧
    Sub (AV.pt (1000 : Nat) [] (0 : Nat)) (AV.pt (1000 : Nat) [] (0 : Nat)) ∧
    True ∧
    Sub (AV.rf (1001 : Nat) (1 : Nat) (0 : Nat) r_1.fst)
    (AV.rf (1001 : Nat) (1 : Nat) (0 : Nat) r_1.fst) ∧
    True ∧
    Sub (AV.sc (Value.int IntKind.i64 to))
    (AV.sc (Value.int IntKind.i64 to)) ∧
    True) ∧
    True ∧
    SubB
    (AV.ar (4 : Nat) (1 : Nat) fun (i0 : Nat) =>
    AV.sc (Value.int IntKind.u64 (b0f i0)))
    (AV.ar (4 : Nat) (1 : Nat) fun (i0 : Nat) =>
    AV.sc (Value.int IntKind.u64 (b0f i0))) ∧
    True ∧
    SubB
    (AV.ar r_1.snd.fst (1 : Nat) fun (i0 : Nat) =>
    AV.sc (Value.int IntKind.u8 (r_1.snd.snd i0)))
    (AV.ar r_1.snd.fst (1 : Nat) fun (i0 : Nat) =>
    AV.sc (Value.int IntKind.u8 (r_1.snd.snd i0))) ∧
    True) ∧
    L13_3 r_1.fst to b0f r_1.snd.fst r_1.snd.snd res) ∧
    (decide (to ≥ IntKind.i64.wrap (b + (2 : Int))) = false →
    ((True ∧
    Sub (AV.pt (1000 : Nat) [] (0 : Nat)) (AV.pt (1000 : Nat) [] (0 : Nat)) ∧
    True ∧
    Sub (AV.rf (1001 : Nat) (1 : Nat) (0 : Nat) r.fst)
    (AV.rf (1001 : Nat) (1 : Nat) (0 : Nat) r.fst) ∧
    True ∧ Sub (AV.sc (Value.int IntKind.i64 b)) (AV.sc (Value.int IntKind.i64 b)) ∧ True) ∧
    True ∧
    SubB (AV.ar (4 : Nat) (1 : Nat) fun (i0 : Nat) => AV.sc (Value.int IntKind.u64 (b0f i0)))
    (AV.ar (4 : Nat) (1 : Nat) fun (i0 : Nat) => AV.sc (Value.int IntKind.u64 (b0f i0))) ∧
    True ∧
    SubB
    (AV.ar r.snd.fst (1 : Nat) fun (i0 : Nat) =>
    AV.sc (Value.int IntKind.u8 (r.snd.snd i0)))
    (AV.ar r.snd.fst (1 : Nat) fun (i0 : Nat) =>
    AV.sc (Value.int IntKind.u8 (r.snd.snd i0))) ∧
    True) ∧
    L13_3 r.fst b b0f r.snd.fst r.snd.snd res))) ∧
    (decide (to < (255 : Int)) = !true →
    true = true ∧
    (!true) = !true ∧
    true = true ∧
    (!true) = !true ∧
    true = true ∧
    (!true) = !true ∧
    true = true ∧
    (!true) = !true ∧
    true = true ∧
    True ∧
    false = false ∧
    True ∧
    True ∧
    True ∧
    ∃ (r : Nat × Nat × (Nat → Int)),
    ((True ∧ True ∧ True) ∧
    (True ∧ True) ∧
    Ok Proofs.Try.prog (28 : Nat)
    [AV.rf (2000 : Nat) (1 : Nat) (0 : Nat) out_n, AV.sc (Value.int IntKind.u8 (IntKind.u8.wrap b))]
    [((2000 : Nat), (5 : Nat), AV.ar b1n (1 : Nat) fun (i : Nat) => AV.sc (Value.int IntKind.u8 (b1f i)))]
    (AV.rf (1000 : Nat) (1 : Nat) (0 : Nat) r.fst)
    [((1000 : Nat), (5 : Nat),
    AV.ar r.snd.fst (1 : Nat) fun (i0 : Nat) => AV.sc (Value.int IntKind.u8 (r.snd.snd i0)))]) ∧
    True ∧
    True ∧
    True ∧
    True ∧
    True ∧
    (decide (to ≥ IntKind.i64.wrap (b + (2 : Int))) = true →
    True ∧
    ((True ∧ True) ∧ True) ∧
    (r.fst ≤ r.snd.fst ∧
    ((0 : Nat) + (1 : Nat) ≤ (1 : Nat) ∧ (1 : Nat) = (1 : Nat)) ∧
    (r.fst + (1 : Nat)) * (1 : Nat) ≤ (140737488355328 : Nat) ∧ r.fst + (1 : Nat) ≤ maxLen) ∧
    True ∧
    True ∧
    ∃ (r_1 : Nat × Nat × (Nat → Int)),
    ((True ∧ True ∧ True) ∧
    (True ∧ True) ∧
    Ok Proofs.Try.prog (28 : Nat)
    [AV.rf (2000 : Nat) (1 : Nat) (0 : Nat) (r.fst + (1 : Nat)),
    AV.sc (Value.int IntKind.u8 (IntKind.u8.wrap to))]
    [((2000 : Nat), (5 : Nat),
    AV.ar (r.fst + (1 : Nat)) (1 : Nat) fun (i : Nat) =>
    AV.sc
    (Value.int IntKind.u8
    (bif i.blt r.fst then r.snd.snd i
    else
    bif ((0 : Nat) + (i - r.fst)).beq (0 : Nat) then (45 : Int)
    else (0 : Int))))]
    (AV.rf (1000 : Nat) (1 : Nat) (0 : Nat) r_1.fst)
    [((1000 : Nat), (5 : Nat),
    AV.ar r_1.snd.fst (1 : Nat) fun (i0 : Nat) =>
    AV.sc (Value.int IntKind.u8 (r_1.snd.snd i0)))]) ∧
    True ∧
    True ∧
    True ∧
    ((True ∧
    Sub (AV.pt (1000 : Nat) [] (0 : Nat)) (AV.pt (1000 : Nat) [] (0 : Nat)) ∧
    True ∧
    Sub (AV.rf (1001 : Nat) (1 : Nat) (0 : Nat) r_1.fst)
    (AV.rf (1001 : Nat) (1 : Nat) (0 : Nat) r_1.fst) ∧
    True ∧
    Sub (AV.sc (Value.int IntKind.i64 to))
    (AV.sc (Value.int IntKind.i64 to)) ∧
    True) ∧
    True ∧
    SubB
    (AV.ar (4 : Nat) (1 : Nat) fun (i0 : Nat) =>
    AV.sc (Value.int IntKind.u64 (b0f i0)))
    (AV.ar (4 : Nat) (1 : Nat) fun (i0 : Nat) =>
    AV.sc (Value.int IntKind.u64 (b0f i0))) ∧
    True ∧
    SubB
    (AV.ar r_1.snd.fst (1 : Nat) fun (i0 : Nat) =>
    AV.sc (Value.int IntKind.u8 (r_1.snd.snd i0)))
    (AV.ar r_1.snd.fst (1 : Nat) fun (i0 : Nat) =>
    AV.sc (Value.int IntKind.u8 (r_1.snd.snd i0))) ∧
    True) ∧
    L13_3 r_1.fst to b0f r_1.snd.fst r_1.snd.snd res) ∧
    (decide (to ≥ IntKind.i64.wrap (b + (2 : Int))) = false →
    ((True ∧
    Sub (AV.pt (1000 : Nat) [] (0 : Nat)) (AV.pt (1000 : Nat) [] (0 : Nat)) ∧
    True ∧
    Sub (AV.rf (1001 : Nat) (1 : Nat) (0 : Nat) r.fst)
    (AV.rf (1001 : Nat) (1 : Nat) (0 : Nat) r.fst) ∧
    True ∧ Sub (AV.sc (Value.int IntKind.i64 b)) (AV.sc (Value.int IntKind.i64 b)) ∧ True) ∧
    True ∧
    SubB (AV.ar (4 : Nat) (1 : Nat) fun (i0 : Nat) => AV.sc (Value.int IntKind.u64 (b0f i0)))
    (AV.ar (4 : Nat) (1 : Nat) fun (i0 : Nat) => AV.sc (Value.int IntKind.u64 (b0f i0))) ∧
    True ∧
    SubB (AV.ar r.snd.fst (1 : Nat) fun (i0 : Nat) => AV.sc (Value.int IntKind.u8 (r.snd.snd i0)))
    (AV.ar r.snd.fst (1 : Nat) fun (i0 : Nat) =>
    AV.sc (Value.int IntKind.u8 (r.snd.snd i0))) ∧
    True) ∧
    L13_3 r.fst b b0f r.snd.fst r.snd.snd res)) from
    ⟨trivial, ⟨trivial, ⟨trivial, (And.elim (fun h3 k3 => ⟨(fun x4 => (fun h4 => ⟨⟨rfl, trivial⟩, ⟨rfl, ⟨trivial, ⟨rfl, ⟨trivial, ⟨rfl, ⟨trivial, ⟨rfl, (Exists.elim h4 fun x13 h13 => ⟨x13, (And.elim (fun h14 k14 => ⟨⟨⟨trivial, ⟨trivial, trivial⟩⟩, ⟨trivial, h14⟩⟩, ⟨trivial, (And.elim (fun h16 k16 => ⟨(fun x17 => (fun h17 => ⟨trivial, ⟨trivial, ⟨trivial, ⟨⟨⟨trivial, ⟨Sub.refl _, ⟨trivial, ⟨Sub.refl _, ⟨trivial, ⟨Sub.refl _, ⟨trivial, ⟨Sub.refl _, trivial⟩⟩⟩⟩⟩⟩⟩⟩, ⟨trivial, ⟨SubB.refl _, ⟨trivial, ⟨SubB.refl _, trivial⟩⟩⟩⟩⟩, h17⟩⟩⟩⟩) (h16 x17)), (fun x17 => (fun h17 => ⟨trivial, ⟨trivial, ⟨trivial, (Exists.elim h17 fun x21 h21 => ⟨x21, (And.elim (fun h22 k22 => ⟨⟨⟨trivial, ⟨trivial, trivial⟩⟩, ⟨⟨trivial, trivial⟩, h22⟩⟩, ⟨trivial, ⟨trivial, ⟨trivial, ⟨trivial, ⟨trivial, (And.elim (fun h28 k28 => ⟨(fun x29 => (fun h29 => ⟨trivial, ⟨⟨⟨trivial, trivial⟩, trivial⟩, (And.elim (fun h32 k32 => ⟨(And.elim (fun h33 k33 => ⟨h33, (And.elim (fun h34 k34 => ⟨((fun h35 => ⟨h35, rfl⟩) h34), (And.elim (fun h35 k35 => ⟨h35, k35⟩) k34)⟩) k33)⟩) h32), ⟨trivial, ⟨trivial, (Exists.elim k32 fun x35 h35 => ⟨x35, (And.elim (fun h36 k36 => ⟨⟨⟨trivial, ⟨trivial, trivial⟩⟩, ⟨⟨trivial, trivial⟩, h36⟩⟩, ⟨trivial, ⟨trivial, ⟨trivial, ⟨⟨⟨trivial, ⟨Sub.refl _, ⟨trivial, ⟨Sub.refl _, ⟨trivial, ⟨Sub.refl _, trivial⟩⟩⟩⟩⟩⟩, ⟨trivial, ⟨SubB.refl _, ⟨trivial, ⟨SubB.refl _, trivial⟩⟩⟩⟩⟩, k36⟩⟩⟩⟩⟩) h35)⟩)⟩⟩⟩) h29)⟩⟩) (h28 x29)), (fun x29 => (fun h29 => ⟨⟨⟨trivial, ⟨Sub.refl _, ⟨trivial, ⟨Sub.refl _, ⟨trivial, ⟨Sub.refl _, trivial⟩⟩⟩⟩⟩⟩, ⟨trivial, ⟨SubB.refl _, ⟨trivial, ⟨SubB.refl _, trivial⟩⟩⟩⟩⟩, h29⟩) (k28 x29))⟩) k22)⟩⟩⟩⟩⟩⟩) h21)⟩)⟩⟩⟩) (k16 x17))⟩) k14)⟩⟩) h13)⟩)⟩⟩⟩⟩⟩⟩⟩⟩) (h3 x4)), (fun x4 => (fun h4 => ⟨rfl, ⟨rfl, ⟨rfl, ⟨rfl, ⟨rfl, ⟨rfl, ⟨rfl, ⟨rfl, ⟨rfl, ⟨trivial, ⟨rfl, ⟨trivial, ⟨trivial, ⟨trivial, (Exists.elim h4 fun x19 h19 => ⟨x19, (And.elim (fun h20 k20 => ⟨⟨⟨trivial, ⟨trivial, trivial⟩⟩, ⟨⟨trivial, trivial⟩, h20⟩⟩, ⟨trivial, ⟨trivial, ⟨trivial, ⟨trivial, ⟨trivial, (And.elim (fun h26 k26 => ⟨(fun x27 => (fun h27 => ⟨trivial, ⟨⟨⟨trivial, trivial⟩, trivial⟩, (And.elim (fun h30 k30 => ⟨(And.elim (fun h31 k31 => ⟨h31, (And.elim (fun h32 k32 => ⟨((fun h33 => ⟨h33, rfl⟩) h32), (And.elim (fun h33 k33 => ⟨h33, k33⟩) k32)⟩) k31)⟩) h30), ⟨trivial, ⟨trivial, (Exists.elim k30 fun x33 h33 => ⟨x33, (And.elim (fun h34 k34 => ⟨⟨⟨trivial, ⟨trivial, trivial⟩⟩, ⟨⟨trivial, trivial⟩, h34⟩⟩, ⟨trivial, ⟨trivial, ⟨trivial, ⟨⟨⟨trivial, ⟨Sub.refl _, ⟨trivial, ⟨Sub.refl _, ⟨trivial, ⟨Sub.refl _, trivial⟩⟩⟩⟩⟩⟩, ⟨trivial, ⟨SubB.refl _, ⟨trivial, ⟨SubB.refl _, trivial⟩⟩⟩⟩⟩, k34⟩⟩⟩⟩⟩) h33)⟩)⟩⟩⟩) h27)⟩⟩) (h26 x27)), (fun x27 => (fun h27 => ⟨⟨⟨trivial, ⟨Sub.refl _, ⟨trivial, ⟨Sub.refl _, ⟨trivial, ⟨Sub.refl _, trivial⟩⟩⟩⟩⟩⟩, ⟨trivial, ⟨SubB.refl _, ⟨trivial, ⟨SubB.refl _, trivial⟩⟩⟩⟩⟩, h27⟩) (k26 x27))⟩) k20)⟩⟩⟩⟩⟩⟩) h19)⟩)⟩⟩⟩⟩⟩⟩⟩⟩⟩⟩⟩⟩⟩⟩) (k3 x4))⟩) h)⟩⟩⟩)
theorem r13_3 (out_n : Nat) (b : Int) (b0f : Nat → Int) (b1n : Nat) (b1f : Nat → Int) (res : AV)
    (h : L13_1 out_n (IntKind.i64.wrap (b + (1 : Int))) b0f b1n b1f res) :
    L13_3 out_n b b0f b1n b1f res :=
  rule Go.Am.Seat.tabOk 13 [] Go.Proofs.Try.f13 hf13 [1, 1, 1, 0, 1, 0, 0, 1, 1] (s13_3 out_n b b0f b1n b1f) (m13_3 out_n b b0f b1n b1f) res [] 400
    (Orc.cut (nat_lit 2) (s13_1 out_n (IntKind.i64.wrap (b + (1 : Int))) b0f b1n b1f) (m13_1 out_n (IntKind.i64.wrap (b + (1 : Int))) b0f b1n b1f)
  [((1000 : Nat), some (1000 : Nat)), ((1001 : Nat), some (1001 : Nat))]) _ _ (by kernel_rfl) (by kernel_rfl) (show True ∧
  True ∧
    True ∧
    ((True ∧
    Sub (AV.pt (1000 : Nat) [] (0 : Nat)) (AV.pt (1000 : Nat) [] (0 : Nat)) ∧
    True ∧
    Sub (AV.rf (1001 : Nat) (1 : Nat) (0 : Nat) out_n) (AV.rf (1001 : Nat) (1 : Nat) (0 : Nat) out_n) ∧
    True ∧
    Sub (AV.sc (Value.int IntKind.i64 (IntKind.i64.wrap (b + (1 : Int))))) (AV.sc (Value.int IntKind.i64 (IntKind.i64.wrap (b + (1 : Int))))) ∧
    True) ∧
    True ∧
    SubB (AV.ar (4 : Nat) (1 : Nat) fun (i0 : Nat) => AV.sc (Value.int IntKind.u64 (b0f i0)))
    (AV.ar (4 : Nat) (1 : Nat) fun (i0 : Nat) => AV.sc (Value.int IntKind.u64 (b0f i0))) ∧
    True ∧
    SubB (AV.ar b1n (1 : Nat) fun (i0 : Nat) => AV.sc (Value.int IntKind.u8 (b1f i0)))
    (AV.ar b1n (1 : Nat) fun (i0 : Nat) => AV.sc (Value.int IntKind.u8 (b1f i0))) ∧
    True) ∧
    L13_1 out_n (IntKind.i64.wrap (b + (1 : Int))) b0f b1n b1f res from
    ⟨trivial, ⟨trivial, ⟨trivial, ⟨⟨⟨trivial, ⟨Sub.refl _, ⟨trivial, ⟨Sub.refl _, ⟨trivial, ⟨Sub.refl _, trivial⟩⟩⟩⟩⟩⟩, ⟨trivial, ⟨SubB.refl _, ⟨trivial, ⟨SubB.refl _, trivial⟩⟩⟩⟩⟩, h⟩⟩⟩⟩)
theorem hf14 : Go.Proofs.Try.prog.funcs[14]? = some Go.Proofs.Try.f14 := by kernel_rfl
abbrev s14_e (sf : Nat → Int) : List (Nat × AV) := [(0, (.ar 4 1 (fun i0 => (.sc (.int .u64 (sf i0))))))]
abbrev m14_e (sf : Nat → Int) : List (Nat × Nat × AV) := []
def L14_e (sf : Nat → Int) (res : AV) : Prop := Goes ⟨Go.Proofs.Try.prog, 14, [], res, []⟩ (place Go.Proofs.Try.f14 []) (s14_e sf) (m14_e sf)
theorem a14_e (sf : Nat → Int) (res : AV) (h : (∀ slot, fact (look .undef (s14_e sf) slot)) → L14_e sf res) : L14_e sf res :=
  assumeRule 14 [] Go.Proofs.Try.f14 hf14 [] (s14_e sf) (m14_e sf) res [] _ (by kernel_rfl) h
abbrev s14_0 (out_n : Nat) (t5 : Int) (b0f : Nat → Int) (b1n : Nat) (b1f : Nat → Int) : List (Nat × AV) := [(1, (.pt 1000 [] 0)), (3, (.rf 1001 1 0 out_n)), (5, (.sc (.int .i64 t5)))]
abbrev m14_0 (out_n : Nat) (t5 : Int) (b0f : Nat → Int) (b1n : Nat) (b1f : Nat → Int) : List (Nat × Nat × AV) := [(1000, 24, (.ar 4 1 (fun i0 => (.sc (.int .u64 (b0f i0)))))), (1001, 5, (.ar b1n 1 (fun i0 => (.sc (.int .u8 (b1f i0))))))]
def L14_0 (out_n : Nat) (t5 : Int) (b0f : Nat → Int) (b1n : Nat) (b1f : Nat → Int) (res : AV) : Prop := Goes ⟨Go.Proofs.Try.prog, 14, [], res, []⟩ (place Go.Proofs.Try.f14 [1, 1, 0, 1, 0, 0]) (s14_0 out_n t5 b0f b1n b1f) (m14_0 out_n t5 b0f b1n b1f)
theorem a14_0 (out_n : Nat) (t5 : Int) (b0f : Nat → Int) (b1n : Nat) (b1f : Nat → Int) (res : AV) (h : (∀ slot, fact (look .undef (s14_0 out_n t5 b0f b1n b1f) slot)) → L14_0 out_n t5 b0f b1n b1f res) : L14_0 out_n t5 b0f b1n b1f res :=
  assumeRule 14 [] Go.Proofs.Try.f14 hf14 [1, 1, 0, 1, 0, 0] (s14_0 out_n t5 b0f b1n b1f) (m14_0 out_n t5 b0f b1n b1f) res [] _ (by kernel_rfl) h
abbrev s14_1 (out_n : Nat) (t5 : Int) (b0f : Nat → Int) (b1n : Nat) (b1f : Nat → Int) : List (Nat × AV) := [(1, (.pt 1000 [] 0)), (3, (.rf 1001 1 0 out_n)), (5, (.sc (.int .i64 t5)))]
abbrev m14_1 (out_n : Nat) (t5 : Int) (b0f : Nat → Int) (b1n : Nat) (b1f : Nat → Int) : List (Nat × Nat × AV) := [(1000, 24, (.ar 4 1 (fun i0 => (.sc (.int .u64 (b0f i0)))))), (1001, 5, (.ar b1n 1 (fun i0 => (.sc (.int .u8 (b1f i0))))))]
def L14_1 (out_n : Nat) (t5 : Int) (b0f : Nat → Int) (b1n : Nat) (b1f : Nat → Int) (res : AV) : Prop := Goes ⟨Go.Proofs.Try.prog, 14, [], res, []⟩ (place Go.Proofs.Try.f14 [1, 1, 0, 1, 0, 0, 1, 1, 1]) (s14_1 out_n t5 b0f b1n b1f) (m14_1 out_n t5 b0f b1n b1f)
theorem a14_1 (out_n : Nat) (t5 : Int) (b0f : Nat → Int) (b1n : Nat) (b1f : Nat → Int) (res : AV) (h : (∀ slot, fact (look .undef (s14_1 out_n t5 b0f b1n b1f) slot)) → L14_1 out_n t5 b0f b1n b1f res) : L14_1 out_n t5 b0f b1n b1f res :=
  assumeRule 14 [] Go.Proofs.Try.f14 hf14 [1, 1, 0, 1, 0, 0, 1, 1, 1] (s14_1 out_n t5 b0f b1n b1f) (m14_1 out_n t5 b0f b1n b1f) res [] _ (by kernel_rfl) h
theorem o14 (sf : Nat → Int) (res : AV) (hnew : newOnly res) (h : L14_e sf res) : Ok Go.Proofs.Try.prog 14 [(.ar 4 1 (fun i0 => (.sc (.int .u64 (sf i0)))))] [] res [] :=
  okRule2 14 Go.Proofs.Try.f14 hf14 [(.ar 4 1 (fun i0 => (.sc (.int .u64 (sf i0)))))] [] res [] [] rfl (by kernel_rfl) (by kernel_rfl) (by kernel_rfl) ⟨hnew, by simp⟩ (L14_e sf res) (by kernel_rfl) h
theorem r14_e (sf : Nat → Int) (res : AV)
    (h : L14_0 (0 : Nat) (0 : Int) sf (0 : Nat) (fun (i : Nat) => Int.ofNat (0 : Nat)) res) :
    L14_e sf res :=
  rule Go.Am.Seat.tabOk 14 [] Go.Proofs.Try.f14 hf14 [] (s14_e sf) (m14_e sf) res [] 400
    (Orc.cut (nat_lit 9) (s14_0 (0 : Nat) (0 : Int) sf (0 : Nat) fun (i : Nat) => Int.ofNat (0 : Nat))
  (m14_0 (0 : Nat) (0 : Int) sf (0 : Nat) fun (i : Nat) => Int.ofNat (0 : Nat)) [((1000 : Nat), some (1 : Nat)), ((1001 : Nat), none)]) _ _ (by kernel_rfl) (by kernel_rfl) (show True ∧
  True ∧
    True ∧
    True ∧
    ((True ∧
    Sub (AV.pt (1000 : Nat) [] (0 : Nat)) (AV.pt (1000 : Nat) [] (0 : Nat)) ∧
    True ∧ Sub (AV.sc (Value.int IntKind.i64 (0 : Int))) (AV.sc (Value.int IntKind.i64 (0 : Int))) ∧ True) ∧
    True ∧
    SubB (AV.ar (4 : Nat) (1 : Nat) fun (i0 : Nat) => AV.sc (Value.int IntKind.u64 (sf i0)))
    (AV.ar (4 : Nat) (1 : Nat) fun (i0 : Nat) => AV.sc (Value.int IntKind.u64 (sf i0))) ∧
    True) ∧
    L14_0 (0 : Nat) (0 : Int) sf (0 : Nat) (fun (i : Nat) => Int.ofNat (0 : Nat)) res from
    ⟨trivial, ⟨trivial, ⟨trivial, ⟨trivial, ⟨⟨⟨trivial, ⟨Sub.refl _, ⟨trivial, ⟨Sub.refl _, trivial⟩⟩⟩⟩, ⟨trivial, ⟨SubB.refl _, trivial⟩⟩⟩, h⟩⟩⟩⟩⟩)
theorem r14_0 (out_n : Nat) (t5 : Int) (b0f : Nat → Int) (b1n : Nat) (b1f : Nat → Int) (res : AV)
    (h : (decide (t5 < (256 : Int)) = true →
    ∃ (r : Bool),
    Ok Proofs.Try.prog (15 : Nat)
    [AV.ar (4 : Nat) (1 : Nat) fun (i : Nat) => AV.sc (Value.int IntKind.u64 (b0f i)), AV.sc (Value.int IntKind.u8 (IntKind.u8.wrap t5))] []
    (AV.sc (Value.bool r)) [] ∧
    (r = true →
    (out_n ≤ b1n ∧ (0 : Nat) + (1 : Nat) ≤ (1 : Nat) ∧ (out_n + (1 : Nat)) * (1 : Nat) ≤ (140737488355328 : Nat) ∧ out_n + (1 : Nat) ≤ maxLen) ∧
    L14_1 (out_n + (1 : Nat)) t5 b0f (out_n + (1 : Nat))
    (fun (i : Nat) => bif i.blt out_n then b1f i else bif ((0 : Nat) + (i - out_n)).beq (0 : Nat) then IntKind.u8.wrap t5 else (0 : Int)) res) ∧
    (r = false → L14_1 out_n t5 b0f b1n b1f res)) ∧
  (decide (t5 < (256 : Int)) = false →
    ((0 : Nat) + out_n ≤ b1n ∧
    (strOf out_n fun (i : Nat) => b1f ((0 : Nat) + i)).size = out_n ∧
    ∀ (i : Nat),
    i < out_n →
    AV.sc (Value.int IntKind.u8 (b1f ((0 : Nat) + i))) =
    AV.sc (Value.int IntKind.u8 (↑(byteAt (strOf out_n fun (i : Nat) => b1f ((0 : Nat) + i)) i).toNat : Int))) ∧
    Sub (AV.sc (Value.string (strOf out_n fun (i : Nat) => b1f ((0 : Nat) + i)))) res)) :
    L14_0 out_n t5 b0f b1n b1f res :=
  rule Go.Am.Seat.tabOk 14 [] Go.Proofs.Try.f14 hf14 [1, 1, 0, 1, 0, 0] (s14_0 out_n t5 b0f b1n b1f) (m14_0 out_n t5 b0f b1n b1f) res [] 400
    ((Orc.call [] [] (fun (r15 : Bool) => AV.sc (Value.bool r15)) (fun (r15 : Bool) => []) fun (r15 : Bool) =>
    (Orc.cut (nat_lit 2)
    (s14_1 (out_n + (1 : Nat)) t5 b0f (out_n + (1 : Nat)) fun (i : Nat) =>
    bif i.blt out_n then b1f i else bif ((0 : Nat) + (i - out_n)).beq ((0 : Nat), Operand.tmp (14 : Nat)).fst then IntKind.u8.wrap t5 else (0 : Int))
    (m14_1 (out_n + (1 : Nat)) t5 b0f (out_n + (1 : Nat)) fun (i : Nat) =>
    bif i.blt out_n then b1f i else bif ((0 : Nat) + (i - out_n)).beq ((0 : Nat), Operand.tmp (14 : Nat)).fst then IntKind.u8.wrap t5 else (0 : Int))
    [((1000 : Nat), some (1000 : Nat)), ((1001 : Nat), some (16 : Nat))]).br
    (Orc.cut (nat_lit 2) (s14_1 out_n t5 b0f b1n b1f) (m14_1 out_n t5 b0f b1n b1f)
    [((1000 : Nat), some (1000 : Nat)), ((1001 : Nat), some (1001 : Nat))])).br
  (Orc.ch Ch.none
    (Orc.ch (Ch.s (strOf out_n fun (i : Nat) => b1f ((0 : Nat) + i)))
    (Orc.fin (AV.sc (Value.string (strOf out_n fun (i : Nat) => b1f ((0 : Nat) + i)))) [] [])))) _ _ (by kernel_rfl) (by kernel_rfl) (show True ∧
  (decide (t5 < (256 : Int)) = true →
    True ∧
    True ∧
    ((0 : Nat) = (0 : Nat) ∧ True) ∧
    True ∧
    True ∧
    ∃ (r : Bool),
    ((True ∧ True ∧ True) ∧
    True ∧
    Ok Proofs.Try.prog (15 : Nat)
    [AV.ar (4 : Nat) (1 : Nat) fun (i : Nat) => AV.sc (Value.int IntKind.u64 (b0f i)), AV.sc (Value.int IntKind.u8 (IntKind.u8.wrap t5))]
    [] (AV.sc (Value.bool r)) []) ∧
    (r = true →
    True ∧
    True ∧
    True ∧
    ((True ∧ True) ∧ True) ∧
    (out_n ≤ b1n ∧
    ((0 : Nat) + (1 : Nat) ≤ (1 : Nat) ∧ (1 : Nat) = (1 : Nat)) ∧
    (out_n + (1 : Nat)) * (1 : Nat) ≤ (140737488355328 : Nat) ∧ out_n + (1 : Nat) ≤ maxLen) ∧
    True ∧
    ((True ∧
    Sub (AV.pt (1000 : Nat) [] (0 : Nat)) (AV.pt (1000 : Nat) [] (0 : Nat)) ∧
    True ∧
    Sub (AV.rf (1001 : Nat) (1 : Nat) (0 : Nat) (out_n + (1 : Nat)))
    (AV.rf (1001 : Nat) (1 : Nat) (0 : Nat) (out_n + (1 : Nat))) ∧
    True ∧ Sub (AV.sc (Value.int IntKind.i64 t5)) (AV.sc (Value.int IntKind.i64 t5)) ∧ True) ∧
    True ∧
    SubB (AV.ar (4 : Nat) (1 : Nat) fun (i0 : Nat) => AV.sc (Value.int IntKind.u64 (b0f i0)))
    (AV.ar (4 : Nat) (1 : Nat) fun (i0 : Nat) => AV.sc (Value.int IntKind.u64 (b0f i0))) ∧
    True ∧
    SubB
    (AV.ar (out_n + (1 : Nat)) (1 : Nat) fun (i : Nat) =>
    AV.sc
    (Value.int IntKind.u8
    (bif i.blt out_n then b1f i
    else bif ((0 : Nat) + (i - out_n)).beq (0 : Nat) then IntKind.u8.wrap t5 else (0 : Int))))
    (AV.ar (out_n + (1 : Nat)) (1 : Nat) fun (i0 : Nat) =>
    AV.sc
    (Value.int IntKind.u8
    (bif i0.blt out_n then b1f i0
    else bif ((0 : Nat) + (i0 - out_n)).beq (0 : Nat) then IntKind.u8.wrap t5 else (0 : Int)))) ∧
    True) ∧
    L14_1 (out_n + (1 : Nat)) t5 b0f (out_n + (1 : Nat))
    (fun (i : Nat) =>
    bif i.blt out_n then b1f i else bif ((0 : Nat) + (i - out_n)).beq (0 : Nat) then IntKind.u8.wrap t5 else (0 : Int))
    res) ∧
    (r = false →
    ((True ∧
    Sub (AV.pt (1000 : Nat) [] (0 : Nat)) (AV.pt (1000 : Nat) [] (0 : Nat)) ∧
    True ∧
    Sub (AV.rf (1001 : Nat) (1 : Nat) (0 : Nat) out_n) (AV.rf (1001 : Nat) (1 : Nat) (0 : Nat) out_n) ∧
    True ∧ Sub (AV.sc (Value.int IntKind.i64 t5)) (AV.sc (Value.int IntKind.i64 t5)) ∧ True) ∧
    True ∧
    SubB (AV.ar (4 : Nat) (1 : Nat) fun (i0 : Nat) => AV.sc (Value.int IntKind.u64 (b0f i0)))
    (AV.ar (4 : Nat) (1 : Nat) fun (i0 : Nat) => AV.sc (Value.int IntKind.u64 (b0f i0))) ∧
    True ∧
    SubB (AV.ar b1n (1 : Nat) fun (i0 : Nat) => AV.sc (Value.int IntKind.u8 (b1f i0)))
    (AV.ar b1n (1 : Nat) fun (i0 : Nat) => AV.sc (Value.int IntKind.u8 (b1f i0))) ∧
    True) ∧
    L14_1 out_n t5 b0f b1n b1f res)) ∧
    (decide (t5 < (256 : Int)) = false →
    True ∧
    (((0 : Nat) + out_n ≤ b1n ∧ (1 : Nat) = (1 : Nat)) ∧
    (strOf out_n fun (i : Nat) => b1f ((0 : Nat) + i)).size = out_n ∧
    ∀ (i : Nat),
    i < out_n →
    AV.sc (Value.int IntKind.u8 (b1f ((0 : Nat) + i))) =
    AV.sc (Value.int IntKind.u8 (↑(byteAt (strOf out_n fun (i : Nat) => b1f ((0 : Nat) + i)) i).toNat : Int))) ∧
    True ∧
    True ∧
    ((True ∧
    Sub (AV.sc (Value.string (strOf out_n fun (i : Nat) => b1f ((0 : Nat) + i))))
    (AV.sc (Value.string (strOf out_n fun (i : Nat) => b1f ((0 : Nat) + i)))) ∧
    True) ∧
    True) ∧
    Sub (AV.sc (Value.string (strOf out_n fun (i : Nat) => b1f ((0 : Nat) + i)))) res ∧ SubOut [] []) from
    ⟨trivial, (And.elim (fun h1 k1 => ⟨(fun x2 => (fun h2 => ⟨trivial, ⟨trivial, ⟨⟨rfl, trivial⟩, ⟨trivial, ⟨trivial, (Exists.elim h2 fun x8 h8 => ⟨x8, (And.elim (fun h9 k9 => ⟨⟨⟨trivial, ⟨trivial, trivial⟩⟩, ⟨trivial, h9⟩⟩, (And.elim (fun h10 k10 => ⟨(fun x11 => (fun h11 => ⟨trivial, ⟨trivial, ⟨trivial, ⟨⟨⟨trivial, trivial⟩, trivial⟩, (And.elim (fun h16 k16 => ⟨(And.elim (fun h17 k17 => ⟨h17, (And.elim (fun h18 k18 => ⟨((fun h19 => ⟨h19, rfl⟩) h18), (And.elim (fun h19 k19 => ⟨h19, k19⟩) k18)⟩) k17)⟩) h16), ⟨trivial, ⟨⟨⟨trivial, ⟨Sub.refl _, ⟨trivial, ⟨Sub.refl _, ⟨trivial, ⟨Sub.refl _, trivial⟩⟩⟩⟩⟩⟩, ⟨trivial, ⟨SubB.refl _, ⟨trivial, ⟨SubB.refl _, trivial⟩⟩⟩⟩⟩, k16⟩⟩⟩) h11)⟩⟩⟩⟩) (h10 x11)), (fun x11 => (fun h11 => ⟨⟨⟨trivial, ⟨Sub.refl _, ⟨trivial, ⟨Sub.refl _, ⟨trivial, ⟨Sub.refl _, trivial⟩⟩⟩⟩⟩⟩, ⟨trivial, ⟨SubB.refl _, ⟨trivial, ⟨SubB.refl _, trivial⟩⟩⟩⟩⟩, h11⟩) (k10 x11))⟩) k9)⟩) h8)⟩)⟩⟩⟩⟩⟩) (h1 x2)), (fun x2 => (fun h2 => ⟨trivial, (And.elim (fun h4 k4 => ⟨(And.elim (fun h5 k5 => ⟨((fun h6 => ⟨h6, rfl⟩) h5), (And.elim (fun h6 k6 => ⟨h6, (fun x7 => (fun h7 => (fun x8 => (fun h8 => h8) (h7 x8))) (k6 x7))⟩) k5)⟩) h4), ⟨trivial, ⟨trivial, ⟨⟨⟨trivial, ⟨Sub.refl _, trivial⟩⟩, trivial⟩, ((fun h8 => ⟨h8, trivial⟩) k4)⟩⟩⟩⟩) h2)⟩) (k1 x2))⟩) h)⟩)
theorem r14_1 (out_n : Nat) (t5 : Int) (b0f : Nat → Int) (b1n : Nat) (b1f : Nat → Int) (res : AV)
    (h : L14_0 out_n (IntKind.i64.wrap (t5 + (1 : Int))) b0f b1n b1f res) :
    L14_1 out_n t5 b0f b1n b1f res :=
  rule Go.Am.Seat.tabOk 14 [] Go.Proofs.Try.f14 hf14 [1, 1, 0, 1, 0, 0, 1, 1, 1] (s14_1 out_n t5 b0f b1n b1f) (m14_1 out_n t5 b0f b1n b1f) res [] 400
    (Orc.cut (nat_lit 2) (s14_0 out_n (IntKind.i64.wrap (t5 + (1 : Int))) b0f b1n b1f) (m14_0 out_n (IntKind.i64.wrap (t5 + (1 : Int))) b0f b1n b1f)
  [((1000 : Nat), some (1000 : Nat)), ((1001 : Nat), some (1001 : Nat))]) _ _ (by kernel_rfl) (by kernel_rfl) (show True ∧
  True ∧
    ((True ∧
    Sub (AV.pt (1000 : Nat) [] (0 : Nat)) (AV.pt (1000 : Nat) [] (0 : Nat)) ∧
    True ∧
    Sub (AV.rf (1001 : Nat) (1 : Nat) (0 : Nat) out_n) (AV.rf (1001 : Nat) (1 : Nat) (0 : Nat) out_n) ∧
    True ∧
    Sub (AV.sc (Value.int IntKind.i64 (IntKind.i64.wrap (t5 + (1 : Int))))) (AV.sc (Value.int IntKind.i64 (IntKind.i64.wrap (t5 + (1 : Int))))) ∧
    True) ∧
    True ∧
    SubB (AV.ar (4 : Nat) (1 : Nat) fun (i0 : Nat) => AV.sc (Value.int IntKind.u64 (b0f i0)))
    (AV.ar (4 : Nat) (1 : Nat) fun (i0 : Nat) => AV.sc (Value.int IntKind.u64 (b0f i0))) ∧
    True ∧
    SubB (AV.ar b1n (1 : Nat) fun (i0 : Nat) => AV.sc (Value.int IntKind.u8 (b1f i0)))
    (AV.ar b1n (1 : Nat) fun (i0 : Nat) => AV.sc (Value.int IntKind.u8 (b1f i0))) ∧
    True) ∧
    L14_0 out_n (IntKind.i64.wrap (t5 + (1 : Int))) b0f b1n b1f res from
    ⟨trivial, ⟨trivial, ⟨⟨⟨trivial, ⟨Sub.refl _, ⟨trivial, ⟨Sub.refl _, ⟨trivial, ⟨Sub.refl _, trivial⟩⟩⟩⟩⟩⟩, ⟨trivial, ⟨SubB.refl _, ⟨trivial, ⟨SubB.refl _, trivial⟩⟩⟩⟩⟩, h⟩⟩⟩)
theorem hf15 : Go.Proofs.Try.prog.funcs[15]? = some Go.Proofs.Try.f15 := by kernel_rfl
abbrev s15_e (sf : Nat → Int) (b : Int) : List (Nat × AV) := [(0, (.ar 4 1 (fun i0 => (.sc (.int .u64 (sf i0)))))), (1, (.sc (.int .u8 b)))]
abbrev m15_e (sf : Nat → Int) (b : Int) : List (Nat × Nat × AV) := []
def L15_e (sf : Nat → Int) (b : Int) (res : AV) : Prop := Goes ⟨Go.Proofs.Try.prog, 15, [], res, []⟩ (place Go.Proofs.Try.f15 []) (s15_e sf b) (m15_e sf b)
theorem a15_e (sf : Nat → Int) (b : Int) (res : AV) (h : (∀ slot, fact (look .undef (s15_e sf b) slot)) → L15_e sf b res) : L15_e sf b res :=
  assumeRule 15 [] Go.Proofs.Try.f15 hf15 [] (s15_e sf b) (m15_e sf b) res [] _ (by kernel_rfl) h
theorem o15 (sf : Nat → Int) (b : Int) (res : AV) (hnew : newOnly res) (h : L15_e sf b res) : Ok Go.Proofs.Try.prog 15 [(.ar 4 1 (fun i0 => (.sc (.int .u64 (sf i0))))), (.sc (.int .u8 b))] [] res [] :=
  okRule2 15 Go.Proofs.Try.f15 hf15 [(.ar 4 1 (fun i0 => (.sc (.int .u64 (sf i0))))), (.sc (.int .u8 b))] [] res [] [] rfl (by kernel_rfl) (by kernel_rfl) (by kernel_rfl) ⟨hnew, by simp⟩ (L15_e sf b res) (by kernel_rfl) h
theorem r15_e (sf : Nat → Int) (b : Int) (res : AV)
    (h : ((0 : Int) ≤ IntKind.u8.wrap (b.tdiv (64 : Int)) ∧ IntKind.u8.wrap (b.tdiv (64 : Int)) < (↑(4 : Nat) : Int)) ∧
  (IntKind.u8.wrap (b.tdiv (64 : Int))).toNat < (4 : Nat) ∧
    (0 : Int) ≤ b.tmod (64 : Int) ∧
    Sub
    (AV.sc
    (Value.bool
    (IntKind.u64.wrap
    (↑(BitVec.ofInt IntKind.u64.bits
    ((sf (IntKind.u8.wrap (b.tdiv (64 : Int))).toNat).fdiv ((2 : Int) ^ min (b.tmod (64 : Int)).toNat IntKind.u64.bits)) &&&
    BitVec.ofInt IntKind.u64.bits (1 : Int)).toNat :
    Int) ==
    (1 : Int))))
    res) :
    L15_e sf b res :=
  rule Go.Am.Seat.tabOk 15 [] Go.Proofs.Try.f15 hf15 [] (s15_e sf b) (m15_e sf b) res [] 400
    (Orc.fin
  (AV.sc
    (Value.bool
    (IntKind.u64.wrap
    (↑(BitVec.ofInt IntKind.u64.bits
    ((sf (IntKind.u8.wrap (b.tdiv (64 : Int))).toNat).fdiv ((2 : Int) ^ min (b.tmod (64 : Int)).toNat IntKind.u64.bits)) &&&
    BitVec.ofInt IntKind.u64.bits (1 : Int)).toNat :
    Int) ==
    (1 : Int))))
  [] []) _ _ (by kernel_rfl) (by kernel_rfl) (show True ∧
  True ∧
    True ∧
    (64 : Int) ≠ (0 : Int) ∧
    ((0 : Int) ≤ IntKind.u8.wrap (b.tdiv (64 : Int)) ∧ IntKind.u8.wrap (b.tdiv (64 : Int)) < (↑(4 : Nat) : Int)) ∧
    ((IntKind.u8.wrap (b.tdiv (64 : Int))).toNat * (1 : Nat) + (0 : Nat) = plus (0 : Nat) ((IntKind.u8.wrap (b.tdiv (64 : Int))).toNat * (1 : Nat)) ∧
    (IntKind.u8.wrap (b.tdiv (64 : Int))).toNat < (4 : Nat) ∧ True) ∧
    True ∧
    (64 : Int) ≠ (0 : Int) ∧
    (0 : Int) ≤ b.tmod (64 : Int) ∧
    True ∧
    True ∧
    True ∧
    True ∧
    ((True ∧
    Sub
    (AV.sc
    (Value.bool
    (IntKind.u64.wrap
    (↑(BitVec.ofInt IntKind.u64.bits
    ((sf (IntKind.u8.wrap (b.tdiv (64 : Int))).toNat).fdiv
    ((2 : Int) ^ min (b.tmod (64 : Int)).toNat IntKind.u64.bits)) &&&
    BitVec.ofInt IntKind.u64.bits (1 : Int)).toNat :
    Int) ==
    (1 : Int))))
    (AV.sc
    (Value.bool
    (IntKind.u64.wrap
    (↑(BitVec.ofInt IntKind.u64.bits
    ((sf (IntKind.u8.wrap (b.tdiv (64 : Int))).toNat).fdiv
    ((2 : Int) ^ min (b.tmod (64 : Int)).toNat IntKind.u64.bits)) &&&
    BitVec.ofInt IntKind.u64.bits (1 : Int)).toNat :
    Int) ==
    (1 : Int)))) ∧
    True) ∧
    True) ∧
    Sub
    (AV.sc
    (Value.bool
    (IntKind.u64.wrap
    (↑(BitVec.ofInt IntKind.u64.bits
    ((sf (IntKind.u8.wrap (b.tdiv (64 : Int))).toNat).fdiv
    ((2 : Int) ^ min (b.tmod (64 : Int)).toNat IntKind.u64.bits)) &&&
    BitVec.ofInt IntKind.u64.bits (1 : Int)).toNat :
    Int) ==
    (1 : Int))))
    res ∧
    SubOut [] [] from
    ⟨trivial, ⟨trivial, ⟨trivial, ⟨(by decide), (And.elim (fun h4 k4 => ⟨(And.elim (fun h5 k5 => ⟨h5, k5⟩) h4), (And.elim (fun h5 k5 => ⟨⟨rfl, ((fun h7 => ⟨h7, trivial⟩) h5)⟩, ⟨trivial, ⟨(by decide), (And.elim (fun h8 k8 => ⟨h8, ⟨trivial, ⟨trivial, ⟨trivial, ⟨trivial, ⟨⟨⟨trivial, ⟨Sub.refl _, trivial⟩⟩, trivial⟩, ((fun h14 => ⟨h14, trivial⟩) k8)⟩⟩⟩⟩⟩⟩) k5)⟩⟩⟩) k4)⟩) h)⟩⟩⟩⟩)
end Go.Am.Seat
