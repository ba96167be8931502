/- The rules of 2 functions: from what is owed at each place of a function the function goes on as it is told there. Printed by a program of this seat; Lean checks each. -/
import Derived.Test.YtclpcgjnodpbcaaAmZ2
import Derived.Test.YtclpcgjnodpbcaaTab
open Go Go.Am Go.Am.Seat
namespace Go.Am.Seat
set_option linter.unusedVariables false
set_option maxRecDepth 100000
theorem hf36 : Go.Proofs.Try.prog.funcs[36]? = some Go.Proofs.Try.f36 := by kernel_rfl
abbrev s36_e (c : Int) : List (Nat × AV) := [(0, (.sc (.int .u8 c)))]
abbrev m36_e (c : Int) : List (Nat × Nat × AV) := []
def L36_e (c : Int) (res : AV) : Prop := Goes ⟨Go.Proofs.Try.prog, 36, [], res, []⟩ (place Go.Proofs.Try.f36 []) (s36_e c) (m36_e c)
theorem a36_e (c : Int) (res : AV) (h : (∀ slot, fact (look .undef (s36_e c) slot)) → L36_e c res) : L36_e c res :=
  assumeRule 36 [] Go.Proofs.Try.f36 hf36 [] (s36_e c) (m36_e c) res [] _ (by kernel_rfl) h
theorem o36 (c : Int) (res : AV) (hnew : newOnly res) (h : L36_e c res) : Ok Go.Proofs.Try.prog 36 [(.sc (.int .u8 c))] [] res [] :=
  okRule2 36 Go.Proofs.Try.f36 hf36 [(.sc (.int .u8 c))] [] res [] [] rfl (by kernel_rfl) (by kernel_rfl) (by kernel_rfl) ⟨hnew, by simp⟩ (L36_e c res) (by kernel_rfl) h
theorem r36_e (c : Int) (res : AV)
    (h : ((c == (110 : Int)) = true → Sub (AV.cons (1 : Nat) (AV.sc (Value.int IntKind.u8 (10 : Int))) (AV.cons (1 : Nat) (AV.sc (Value.bool true)) AV.nil)).tup res) ∧
  ((c == (110 : Int)) = false →
    ((c == (116 : Int)) = true →
    Sub (AV.cons (1 : Nat) (AV.sc (Value.int IntKind.u8 (9 : Int))) (AV.cons (1 : Nat) (AV.sc (Value.bool true)) AV.nil)).tup res) ∧
    ((c == (116 : Int)) = false →
    ((c == (114 : Int)) = true →
    Sub (AV.cons (1 : Nat) (AV.sc (Value.int IntKind.u8 (13 : Int))) (AV.cons (1 : Nat) (AV.sc (Value.bool true)) AV.nil)).tup res) ∧
    ((c == (114 : Int)) = false →
    Sub (AV.cons (1 : Nat) (AV.sc (Value.int IntKind.u8 (0 : Int))) (AV.cons (1 : Nat) (AV.sc (Value.bool false)) AV.nil)).tup res)))) :
    L36_e c res :=
  rule Go.Am.Seat.tabOk 36 [] Go.Proofs.Try.f36 hf36 [] (s36_e c) (m36_e c) res [] 400
    ((Orc.fin (AV.cons (1 : Nat) (AV.sc (Value.int IntKind.u8 (10 : Int))) (AV.cons (1 : Nat) (AV.sc (Value.bool true)) AV.nil)).tup [] []).br
  ((Orc.fin (AV.cons (1 : Nat) (AV.sc (Value.int IntKind.u8 (9 : Int))) (AV.cons (1 : Nat) (AV.sc (Value.bool true)) AV.nil)).tup [] []).br
    ((Orc.fin (AV.cons (1 : Nat) (AV.sc (Value.int IntKind.u8 (13 : Int))) (AV.cons (1 : Nat) (AV.sc (Value.bool true)) AV.nil)).tup [] []).br
    (Orc.fin (AV.cons (1 : Nat) (AV.sc (Value.int IntKind.u8 (0 : Int))) (AV.cons (1 : Nat) (AV.sc (Value.bool false)) AV.nil)).tup [] [])))) _ _ (by kernel_rfl) (by kernel_rfl) (show True ∧
  True ∧
    True ∧
    True ∧
    True ∧
    ((c == (110 : Int)) = true →
    True ∧
    True ∧
    (True ∧ True ∧ True) ∧
    (((True ∧ True ∧ True) ∧
    Sub (AV.cons (1 : Nat) (AV.sc (Value.int IntKind.u8 (10 : Int))) (AV.cons (1 : Nat) (AV.sc (Value.bool true)) AV.nil)).tup
    (AV.cons (1 : Nat) (AV.sc (Value.int IntKind.u8 (10 : Int))) (AV.cons (1 : Nat) (AV.sc (Value.bool true)) AV.nil)).tup ∧
    True) ∧
    True) ∧
    Sub (AV.cons (1 : Nat) (AV.sc (Value.int IntKind.u8 (10 : Int))) (AV.cons (1 : Nat) (AV.sc (Value.bool true)) AV.nil)).tup res ∧
    SubOut [] []) ∧
    ((c == (110 : Int)) = false →
    True ∧
    True ∧
    ((c == (116 : Int)) = true →
    True ∧
    True ∧
    (True ∧ True ∧ True) ∧
    (((True ∧ True ∧ True) ∧
    Sub (AV.cons (1 : Nat) (AV.sc (Value.int IntKind.u8 (9 : Int))) (AV.cons (1 : Nat) (AV.sc (Value.bool true)) AV.nil)).tup
    (AV.cons (1 : Nat) (AV.sc (Value.int IntKind.u8 (9 : Int))) (AV.cons (1 : Nat) (AV.sc (Value.bool true)) AV.nil)).tup ∧
    True) ∧
    True) ∧
    Sub (AV.cons (1 : Nat) (AV.sc (Value.int IntKind.u8 (9 : Int))) (AV.cons (1 : Nat) (AV.sc (Value.bool true)) AV.nil)).tup res ∧
    SubOut [] []) ∧
    ((c == (116 : Int)) = false →
    True ∧
    True ∧
    ((c == (114 : Int)) = true →
    True ∧
    True ∧
    (True ∧ True ∧ True) ∧
    (((True ∧ True ∧ True) ∧
    Sub
    (AV.cons (1 : Nat) (AV.sc (Value.int IntKind.u8 (13 : Int)))
    (AV.cons (1 : Nat) (AV.sc (Value.bool true)) AV.nil)).tup
    (AV.cons (1 : Nat) (AV.sc (Value.int IntKind.u8 (13 : Int)))
    (AV.cons (1 : Nat) (AV.sc (Value.bool true)) AV.nil)).tup ∧
    True) ∧
    True) ∧
    Sub (AV.cons (1 : Nat) (AV.sc (Value.int IntKind.u8 (13 : Int))) (AV.cons (1 : Nat) (AV.sc (Value.bool true)) AV.nil)).tup
    res ∧
    SubOut [] []) ∧
    ((c == (114 : Int)) = false →
    True ∧
    True ∧
    (True ∧ True ∧ True) ∧
    (((True ∧ True ∧ True) ∧
    Sub
    (AV.cons (1 : Nat) (AV.sc (Value.int IntKind.u8 (0 : Int)))
    (AV.cons (1 : Nat) (AV.sc (Value.bool false)) AV.nil)).tup
    (AV.cons (1 : Nat) (AV.sc (Value.int IntKind.u8 (0 : Int)))
    (AV.cons (1 : Nat) (AV.sc (Value.bool false)) AV.nil)).tup ∧
    True) ∧
    True) ∧
    Sub (AV.cons (1 : Nat) (AV.sc (Value.int IntKind.u8 (0 : Int))) (AV.cons (1 : Nat) (AV.sc (Value.bool false)) AV.nil)).tup
    res ∧
    SubOut [] []))) from
    ⟨trivial, ⟨trivial, ⟨trivial, ⟨trivial, ⟨trivial, (And.elim (fun h5 k5 => ⟨(fun x6 => (fun h6 => ⟨trivial, ⟨trivial, ⟨⟨trivial, ⟨trivial, trivial⟩⟩, ⟨⟨⟨⟨trivial, ⟨trivial, trivial⟩⟩, ⟨Sub.refl _, trivial⟩⟩, trivial⟩, ((fun h11 => ⟨h11, trivial⟩) h6)⟩⟩⟩⟩) (h5 x6)), (fun x6 => (fun h6 => ⟨trivial, ⟨trivial, (And.elim (fun h9 k9 => ⟨(fun x10 => (fun h10 => ⟨trivial, ⟨trivial, ⟨⟨trivial, ⟨trivial, trivial⟩⟩, ⟨⟨⟨⟨trivial, ⟨trivial, trivial⟩⟩, ⟨Sub.refl _, trivial⟩⟩, trivial⟩, ((fun h15 => ⟨h15, trivial⟩) h10)⟩⟩⟩⟩) (h9 x10)), (fun x10 => (fun h10 => ⟨trivial, ⟨trivial, (And.elim (fun h13 k13 => ⟨(fun x14 => (fun h14 => ⟨trivial, ⟨trivial, ⟨⟨trivial, ⟨trivial, trivial⟩⟩, ⟨⟨⟨⟨trivial, ⟨trivial, trivial⟩⟩, ⟨Sub.refl _, trivial⟩⟩, trivial⟩, ((fun h19 => ⟨h19, trivial⟩) h14)⟩⟩⟩⟩) (h13 x14)), (fun x14 => (fun h14 => ⟨trivial, ⟨trivial, ⟨⟨trivial, ⟨trivial, trivial⟩⟩, ⟨⟨⟨⟨trivial, ⟨trivial, trivial⟩⟩, ⟨Sub.refl _, trivial⟩⟩, trivial⟩, ((fun h19 => ⟨h19, trivial⟩) h14)⟩⟩⟩⟩) (k13 x14))⟩) h10)⟩⟩) (k9 x10))⟩) h6)⟩⟩) (k5 x6))⟩) h)⟩⟩⟩⟩⟩)
theorem hf37 : Go.Proofs.Try.prog.funcs[37]? = some Go.Proofs.Try.f37 := by kernel_rfl
abbrev s37_e (b : Int) : List (Nat × AV) := [(0, (.sc (.int .u8 b)))]
abbrev m37_e (b : Int) : List (Nat × Nat × AV) := []
def L37_e (b : Int) (res : AV) : Prop := Goes ⟨Go.Proofs.Try.prog, 37, [], res, []⟩ (place Go.Proofs.Try.f37 []) (s37_e b) (m37_e b)
theorem a37_e (b : Int) (res : AV) (h : (∀ slot, fact (look .undef (s37_e b) slot)) → L37_e b res) : L37_e b res :=
  assumeRule 37 [] Go.Proofs.Try.f37 hf37 [] (s37_e b) (m37_e b) res [] _ (by kernel_rfl) h
theorem o37 (b : Int) (res : AV) (hnew : newOnly res) (h : L37_e b res) : Ok Go.Proofs.Try.prog 37 [(.sc (.int .u8 b))] [] res [] :=
  okRule2 37 Go.Proofs.Try.f37 hf37 [(.sc (.int .u8 b))] [] res [] [] rfl (by kernel_rfl) (by kernel_rfl) (by kernel_rfl) ⟨hnew, by simp⟩ (L37_e b res) (by kernel_rfl) h
theorem r37_e (b : Int) (res : AV)
    (h : ((b == (92 : Int)) = false →
    ((b == (91 : Int)) = false →
    ((b == (93 : Int)) = false →
    ((b == (94 : Int)) = false → Sub (AV.sc (Value.bool (b == (45 : Int)))) res) ∧ ((b == (94 : Int)) = !false → Sub (AV.sc (Value.bool true)) res)) ∧
    ((b == (93 : Int)) = !false → Sub (AV.sc (Value.bool true)) res)) ∧
    ((b == (91 : Int)) = !false → Sub (AV.sc (Value.bool true)) res)) ∧
  ((b == (92 : Int)) = !false → Sub (AV.sc (Value.bool true)) res)) :
    L37_e b res :=
  rule Go.Am.Seat.tabOk 37 [] Go.Proofs.Try.f37 hf37 [] (s37_e b) (m37_e b) res [] 400
    (((((Orc.fin (AV.sc (Value.bool (bif false then true else b == (45 : Int)))) [] []).yes.br (Orc.fin (AV.sc (Value.bool true)) [] []).no).yes.br
    (Orc.fin (AV.sc (Value.bool true)) [] []).no.no.no).yes.br
    (Orc.fin (AV.sc (Value.bool true)) [] []).no.no.no.no.no).yes.br
  (Orc.fin (AV.sc (Value.bool true)) [] []).no.no.no.no.no.no.no) _ _ (by kernel_rfl) (by kernel_rfl) (show True ∧
  True ∧
    True ∧
    True ∧
    ((b == (92 : Int)) = false →
    True ∧
    false = false ∧
    True ∧
    True ∧
    True ∧
    ((b == (91 : Int)) = false →
    True ∧
    false = false ∧
    True ∧
    True ∧
    True ∧
    ((b == (93 : Int)) = false →
    True ∧
    false = false ∧
    True ∧
    True ∧
    True ∧
    ((b == (94 : Int)) = false →
    True ∧
    false = false ∧
    True ∧
    True ∧
    True ∧
    True ∧
    ((True ∧
    Sub (AV.sc (Value.bool (b == (45 : Int)))) (AV.sc (Value.bool (b == (45 : Int)))) ∧
    True) ∧
    True) ∧
    Sub (AV.sc (Value.bool (b == (45 : Int)))) res ∧ SubOut [] []) ∧
    ((b == (94 : Int)) = !false →
    true = true ∧
    (!false) = !false ∧
    true = true ∧
    True ∧
    True ∧
    True ∧
    ((True ∧ Sub (AV.sc (Value.bool true)) (AV.sc (Value.bool true)) ∧ True) ∧ True) ∧
    Sub (AV.sc (Value.bool true)) res ∧ SubOut [] [])) ∧
    ((b == (93 : Int)) = !false →
    true = true ∧
    (!false) = !false ∧
    true = true ∧
    True ∧
    True ∧
    true = !false ∧
    true = true ∧
    (!false) = !false ∧
    true = true ∧
    True ∧
    True ∧
    True ∧
    ((True ∧ Sub (AV.sc (Value.bool true)) (AV.sc (Value.bool true)) ∧ True) ∧ True) ∧
    Sub (AV.sc (Value.bool true)) res ∧ SubOut [] [])) ∧
    ((b == (91 : Int)) = !false →
    true = true ∧
    (!false) = !false ∧
    true = true ∧
    True ∧
    True ∧
    true = !false ∧
    true = true ∧
    (!false) = !false ∧
    true = true ∧
    True ∧
    True ∧
    true = !false ∧
    true = true ∧
    (!false) = !false ∧
    true = true ∧
    True ∧
    True ∧
    True ∧
    ((True ∧ Sub (AV.sc (Value.bool true)) (AV.sc (Value.bool true)) ∧ True) ∧ True) ∧
    Sub (AV.sc (Value.bool true)) res ∧ SubOut [] [])) ∧
    ((b == (92 : Int)) = !false →
    true = true ∧
    (!false) = !false ∧
    true = true ∧
    True ∧
    True ∧
    true = !false ∧
    true = true ∧
    (!false) = !false ∧
    true = true ∧
    True ∧
    True ∧
    true = !false ∧
    true = true ∧
    (!false) = !false ∧
    true = true ∧
    True ∧
    True ∧
    true = !false ∧
    true = true ∧
    (!false) = !false ∧
    true = true ∧
    True ∧
    True ∧
    True ∧
    ((True ∧ Sub (AV.sc (Value.bool true)) (AV.sc (Value.bool true)) ∧ True) ∧ True) ∧
    Sub (AV.sc (Value.bool true)) res ∧ SubOut [] []) from
    ⟨trivial, ⟨trivial, ⟨trivial, ⟨trivial, (And.elim (fun h4 k4 => ⟨(fun x5 => (fun h5 => ⟨trivial, ⟨rfl, ⟨trivial, ⟨trivial, ⟨trivial, (And.elim (fun h11 k11 => ⟨(fun x12 => (fun h12 => ⟨trivial, ⟨rfl, ⟨trivial, ⟨trivial, ⟨trivial, (And.elim (fun h18 k18 => ⟨(fun x19 => (fun h19 => ⟨trivial, ⟨rfl, ⟨trivial, ⟨trivial, ⟨trivial, (And.elim (fun h25 k25 => ⟨(fun x26 => (fun h26 => ⟨trivial, ⟨rfl, ⟨trivial, ⟨trivial, ⟨trivial, ⟨trivial, ⟨⟨⟨trivial, ⟨Sub.refl _, trivial⟩⟩, trivial⟩, ((fun h34 => ⟨h34, trivial⟩) h26)⟩⟩⟩⟩⟩⟩⟩) (h25 x26)), (fun x26 => (fun h26 => ⟨rfl, ⟨rfl, ⟨rfl, ⟨trivial, ⟨trivial, ⟨trivial, ⟨⟨⟨trivial, ⟨Sub.refl _, trivial⟩⟩, trivial⟩, ((fun h34 => ⟨h34, trivial⟩) h26)⟩⟩⟩⟩⟩⟩⟩) (k25 x26))⟩) h19)⟩⟩⟩⟩⟩) (h18 x19)), (fun x19 => (fun h19 => ⟨rfl, ⟨rfl, ⟨rfl, ⟨trivial, ⟨trivial, ⟨rfl, ⟨rfl, ⟨rfl, ⟨rfl, ⟨trivial, ⟨trivial, ⟨trivial, ⟨⟨⟨trivial, ⟨Sub.refl _, trivial⟩⟩, trivial⟩, ((fun h33 => ⟨h33, trivial⟩) h19)⟩⟩⟩⟩⟩⟩⟩⟩⟩⟩⟩⟩⟩) (k18 x19))⟩) h12)⟩⟩⟩⟩⟩) (h11 x12)), (fun x12 => (fun h12 => ⟨rfl, ⟨rfl, ⟨rfl, ⟨trivial, ⟨trivial, ⟨rfl, ⟨rfl, ⟨rfl, ⟨rfl, ⟨trivial, ⟨trivial, ⟨rfl, ⟨rfl, ⟨rfl, ⟨rfl, ⟨trivial, ⟨trivial, ⟨trivial, ⟨⟨⟨trivial, ⟨Sub.refl _, trivial⟩⟩, trivial⟩, ((fun h32 => ⟨h32, trivial⟩) h12)⟩⟩⟩⟩⟩⟩⟩⟩⟩⟩⟩⟩⟩⟩⟩⟩⟩⟩⟩) (k11 x12))⟩) h5)⟩⟩⟩⟩⟩) (h4 x5)), (fun x5 => (fun h5 => ⟨rfl, ⟨rfl, ⟨rfl, ⟨trivial, ⟨trivial, ⟨rfl, ⟨rfl, ⟨rfl, ⟨rfl, ⟨trivial, ⟨trivial, ⟨rfl, ⟨rfl, ⟨rfl, ⟨rfl, ⟨trivial, ⟨trivial, ⟨rfl, ⟨rfl, ⟨rfl, ⟨rfl, ⟨trivial, ⟨trivial, ⟨trivial, ⟨⟨⟨trivial, ⟨Sub.refl _, trivial⟩⟩, trivial⟩, ((fun h31 => ⟨h31, trivial⟩) h5)⟩⟩⟩⟩⟩⟩⟩⟩⟩⟩⟩⟩⟩⟩⟩⟩⟩⟩⟩⟩⟩⟩⟩⟩⟩) (k4 x5))⟩) h)⟩⟩⟩⟩)
end Go.Am.Seat
