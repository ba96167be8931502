/- The rules of 16 functions: from what is owed at each place of a function the function goes on as it is told there. Printed by a program of this seat; Lean checks each. -/
import Derived.Test.YtclpcgjnodpbcaaAmZ2
import Derived.Test.YtclpcgjnodpbcaaTab
open Go Go.Am Go.Am.Seat
namespace Go.Am.Seat
set_option linter.unusedVariables false
set_option maxRecDepth 100000
theorem hf3 : Go.Proofs.Try.prog.funcs[3]? = some Go.Proofs.Try.f3 := by kernel_rfl
abbrev s3_e (text : ByteArray) : List (Nat × AV) := [(0, (.sc (.string text)))]
abbrev m3_e (text : ByteArray) : List (Nat × Nat × AV) := []
def L3_e (text : ByteArray) (res : AV) : Prop := Goes ⟨Go.Proofs.Try.prog, 3, [], res, []⟩ (place Go.Proofs.Try.f3 []) (s3_e text) (m3_e text)
theorem a3_e (text : ByteArray) (res : AV) (h : (∀ slot, fact (look .undef (s3_e text) slot)) → L3_e text res) : L3_e text res :=
  assumeRule 3 [] Go.Proofs.Try.f3 hf3 [] (s3_e text) (m3_e text) res [] _ (by kernel_rfl) h
theorem o3 (text : ByteArray) (res : AV) (hnew : newOnly res) (h : L3_e text res) : Ok Go.Proofs.Try.prog 3 [(.sc (.string text))] [] res [] :=
  okRule2 3 Go.Proofs.Try.f3 hf3 [(.sc (.string text))] [] res [] [] rfl (by kernel_rfl) (by kernel_rfl) (by kernel_rfl) ⟨hnew, by simp⟩ (L3_e text res) (by kernel_rfl) h
theorem r3_e (text : ByteArray) (res : AV)
    (h : ∃ (r : (Nat → Int) × Int),
  Ok Proofs.Try.prog (10 : Nat) [AV.sc (Value.string text)] []
    (AV.cons (1 : Nat) (AV.ar (4 : Nat) (1 : Nat) fun (i0 : Nat) => AV.sc (Value.int IntKind.u64 (r.fst i0)))
    (AV.cons (1 : Nat) (AV.sc (Value.int IntKind.i64 r.snd)) AV.nil)).tup
    [] ∧
    ∃ (r_1 : (Nat → Int) × Int),
    Ok Proofs.Try.prog (11 : Nat) [AV.sc (Value.string text)] []
    (AV.cons (1 : Nat) (AV.ar (4 : Nat) (1 : Nat) fun (i0 : Nat) => AV.sc (Value.int IntKind.u64 (r_1.fst i0)))
    (AV.cons (1 : Nat) (AV.sc (Value.int IntKind.i64 r_1.snd)) AV.nil)).tup
    [] ∧
    (∀ (i : Nat), i < (4 : Nat) → (AV.sc (Value.int IntKind.u64 (r.fst i))).sz = (1 : Nat) ∧ (AV.sc (Value.int IntKind.u64 (r_1.fst i))).sz = (1 : Nat)) ∧
    (cdec (∀ (i : Nat), i < (4 : Nat) → r.fst i = r_1.fst i) = true →
    ((r.snd == r_1.snd) = true → ∃ (r : Bool), Ok Proofs.Try.prog (12 : Nat) [] [] (AV.sc (Value.bool r)) [] ∧ Sub (AV.sc (Value.bool r)) res) ∧
    ((r.snd == r_1.snd) = !true → Sub (AV.sc (Value.bool false)) res)) ∧
    (cdec (∀ (i : Nat), i < (4 : Nat) → r.fst i = r_1.fst i) = !true → Sub (AV.sc (Value.bool false)) res)) :
    L3_e text res :=
  rule Go.Am.Seat.tabOk 3 [] Go.Proofs.Try.f3 hf3 [] (s3_e text) (m3_e text) res [] 400
    (Orc.call [] []
  (fun (r10 : (Nat → Int) × Int) =>
    (AV.cons (1 : Nat) (AV.ar (4 : Nat) (1 : Nat) fun (i0 : Nat) => AV.sc (Value.int IntKind.u64 (r10.fst i0)))
    (AV.cons (1 : Nat) (AV.sc (Value.int IntKind.i64 r10.snd)) AV.nil)).tup)
  (fun (r10 : (Nat → Int) × Int) => []) fun (r10 : (Nat → Int) × Int) =>
  Orc.call [] []
    (fun (r11 : (Nat → Int) × Int) =>
    (AV.cons (1 : Nat) (AV.ar (4 : Nat) (1 : Nat) fun (i0 : Nat) => AV.sc (Value.int IntKind.u64 (r11.fst i0)))
    (AV.cons (1 : Nat) (AV.sc (Value.int IntKind.i64 r11.snd)) AV.nil)).tup)
    (fun (r11 : (Nat → Int) × Int) => []) fun (r11 : (Nat → Int) × Int) =>
    ((Orc.call [] [] (fun (r12 : Bool) => AV.sc (Value.bool r12)) (fun (r12 : Bool) => []) fun (r12 : Bool) =>
    Orc.fin (AV.sc (Value.bool (bif true then r12 else false))) [] []).br
    (Orc.fin (AV.sc (Value.bool false)) [] [])).yes.yes.br
    (Orc.fin (AV.sc (Value.bool false)) [] []).no.no.no) _ _ (by kernel_rfl) (by kernel_rfl) (show True ∧
  True ∧
    ∃ (r : (Nat → Int) × Int),
    ((True ∧ True) ∧
    True ∧
    Ok Proofs.Try.prog (10 : Nat) [AV.sc (Value.string text)] []
    (AV.cons (1 : Nat) (AV.ar (4 : Nat) (1 : Nat) fun (i0 : Nat) => AV.sc (Value.int IntKind.u64 (r.fst i0)))
    (AV.cons (1 : Nat) (AV.sc (Value.int IntKind.i64 r.snd)) AV.nil)).tup
    []) ∧
    True ∧
    True ∧
    True ∧
    True ∧
    ((0 : Nat) = (0 : Nat) ∧ True) ∧
    True ∧
    True ∧
    ∃ (r_1 : (Nat → Int) × Int),
    ((True ∧ True) ∧
    True ∧
    Ok Proofs.Try.prog (11 : Nat) [AV.sc (Value.string text)] []
    (AV.cons (1 : Nat) (AV.ar (4 : Nat) (1 : Nat) fun (i0 : Nat) => AV.sc (Value.int IntKind.u64 (r_1.fst i0)))
    (AV.cons (1 : Nat) (AV.sc (Value.int IntKind.i64 r_1.snd)) AV.nil)).tup
    []) ∧
    True ∧
    True ∧
    True ∧
    True ∧
    ((0 : Nat) = (0 : Nat) ∧ True) ∧
    True ∧
    ((0 : Nat) = (0 : Nat) ∧ True) ∧
    ((0 : Nat) = (0 : Nat) ∧ True) ∧
    (∀ (i : Nat),
    i < (4 : Nat) →
    (AV.sc (Value.int IntKind.u64 (r.fst i))).sz = (1 : Nat) ∧
    (AV.sc (Value.int IntKind.u64 (r_1.fst i))).sz = (1 : Nat) ∧ false = false ∧ false = false ∧ True) ∧
    True ∧
    (cdec (∀ (i : Nat), i < (4 : Nat) → r.fst i = r_1.fst i) = true →
    True ∧
    true = true ∧
    True ∧
    true = true ∧
    True ∧
    True ∧
    True ∧
    ((r.snd == r_1.snd) = true →
    ∃ (r : Bool),
    (True ∧ True ∧ Ok Proofs.Try.prog (12 : Nat) [] [] (AV.sc (Value.bool r)) []) ∧
    True ∧
    True ∧
    True ∧
    ((True ∧ Sub (AV.sc (Value.bool r)) (AV.sc (Value.bool r)) ∧ True) ∧ True) ∧
    Sub (AV.sc (Value.bool r)) res ∧ SubOut [] []) ∧
    ((r.snd == r_1.snd) = !true →
    true = true ∧
    True ∧
    True ∧
    True ∧
    ((True ∧ Sub (AV.sc (Value.bool false)) (AV.sc (Value.bool false)) ∧ True) ∧ True) ∧
    Sub (AV.sc (Value.bool false)) res ∧ SubOut [] [])) ∧
    (cdec (∀ (i : Nat), i < (4 : Nat) → r.fst i = r_1.fst i) = !true →
    true = true ∧
    (!true) = !true ∧
    true = true ∧
    (!true) = !true ∧
    true = true ∧
    True ∧
    True ∧
    false = !true ∧
    true = true ∧
    True ∧
    True ∧
    True ∧
    ((True ∧ Sub (AV.sc (Value.bool false)) (AV.sc (Value.bool false)) ∧ True) ∧ True) ∧
    Sub (AV.sc (Value.bool false)) res ∧ SubOut [] []) from
    ⟨trivial, ⟨trivial, (Exists.elim h fun x2 h2 => ⟨x2, (And.elim (fun h3 k3 => ⟨⟨⟨trivial, trivial⟩, ⟨trivial, h3⟩⟩, ⟨trivial, ⟨trivial, ⟨trivial, ⟨trivial, ⟨⟨rfl, trivial⟩, ⟨trivial, ⟨trivial, (Exists.elim k3 fun x11 h11 => ⟨x11, (And.elim (fun h12 k12 => ⟨⟨⟨trivial, trivial⟩, ⟨trivial, h12⟩⟩, ⟨trivial, ⟨trivial, ⟨trivial, ⟨trivial, ⟨⟨rfl, trivial⟩, ⟨trivial, ⟨⟨rfl, trivial⟩, ⟨⟨rfl, trivial⟩, (And.elim (fun h21 k21 => ⟨(fun x22 => (fun h22 => (fun x23 => (fun h23 => (And.elim (fun h24 k24 => ⟨h24, ((fun h25 => ⟨h25, ⟨rfl, ⟨rfl, trivial⟩⟩⟩) k24)⟩) h23)) (h22 x23))) (h21 x22)), ⟨trivial, (And.elim (fun h23 k23 => ⟨(fun x24 => (fun h24 => ⟨trivial, ⟨rfl, ⟨trivial, ⟨rfl, ⟨trivial, ⟨trivial, ⟨trivial, (And.elim (fun h32 k32 => ⟨(fun x33 => (fun h33 => (Exists.elim h33 fun x34 h34 => ⟨x34, (And.elim (fun h35 k35 => ⟨⟨trivial, ⟨trivial, h35⟩⟩, ⟨trivial, ⟨trivial, ⟨trivial, ⟨⟨⟨trivial, ⟨Sub.refl _, trivial⟩⟩, trivial⟩, ((fun h40 => ⟨h40, trivial⟩) k35)⟩⟩⟩⟩⟩) h34)⟩)) (h32 x33)), (fun x33 => (fun h33 => ⟨rfl, ⟨trivial, ⟨trivial, ⟨trivial, ⟨⟨⟨trivial, ⟨Sub.refl _, trivial⟩⟩, trivial⟩, ((fun h39 => ⟨h39, trivial⟩) h33)⟩⟩⟩⟩⟩) (k32 x33))⟩) h24)⟩⟩⟩⟩⟩⟩⟩) (h23 x24)), (fun x24 => (fun h24 => ⟨rfl, ⟨rfl, ⟨rfl, ⟨rfl, ⟨rfl, ⟨trivial, ⟨trivial, ⟨rfl, ⟨rfl, ⟨trivial, ⟨trivial, ⟨trivial, ⟨⟨⟨trivial, ⟨Sub.refl _, trivial⟩⟩, trivial⟩, ((fun h38 => ⟨h38, trivial⟩) h24)⟩⟩⟩⟩⟩⟩⟩⟩⟩⟩⟩⟩⟩) (k23 x24))⟩) k21)⟩⟩) k12)⟩⟩⟩⟩⟩⟩⟩⟩⟩) h11)⟩)⟩⟩⟩⟩⟩⟩⟩⟩) h2)⟩)⟩⟩)
theorem hf4 : Go.Proofs.Try.prog.funcs[4]? = some Go.Proofs.Try.f4 := by kernel_rfl
abbrev s4_e (sf : Nat → Int) (text : ByteArray) : List (Nat × AV) := [(0, (.ar 4 1 (fun i0 => (.sc (.int .u64 (sf i0)))))), (1, (.sc (.string text)))]
abbrev m4_e (sf : Nat → Int) (text : ByteArray) : List (Nat × Nat × AV) := []
def L4_e (sf : Nat → Int) (text : ByteArray) (res : AV) : Prop := Goes ⟨Go.Proofs.Try.prog, 4, [], res, []⟩ (place Go.Proofs.Try.f4 []) (s4_e sf text) (m4_e sf text)
theorem a4_e (sf : Nat → Int) (text : ByteArray) (res : AV) (h : (∀ slot, fact (look .undef (s4_e sf text) slot)) → L4_e sf text res) : L4_e sf text res :=
  assumeRule 4 [] Go.Proofs.Try.f4 hf4 [] (s4_e sf text) (m4_e sf text) res [] _ (by kernel_rfl) h
theorem o4 (sf : Nat → Int) (text : ByteArray) (res : AV) (hnew : newOnly res) (h : L4_e sf text res) : Ok Go.Proofs.Try.prog 4 [(.ar 4 1 (fun i0 => (.sc (.int .u64 (sf i0))))), (.sc (.string text))] [] res [] :=
  okRule2 4 Go.Proofs.Try.f4 hf4 [(.ar 4 1 (fun i0 => (.sc (.int .u64 (sf i0))))), (.sc (.string text))] [] res [] [] rfl (by kernel_rfl) (by kernel_rfl) (by kernel_rfl) ⟨hnew, by simp⟩ (L4_e sf text res) (by kernel_rfl) h
theorem r4_e (sf : Nat → Int) (text : ByteArray) (res : AV)
    (h : ∃ (r : ByteArray),
  Ok Proofs.Try.prog (13 : Nat) [AV.ar (4 : Nat) (1 : Nat) fun (i : Nat) => AV.sc (Value.int IntKind.u64 (sf i))] [] (AV.sc (Value.string r)) [] ∧
    ∃ (r_1 : (Nat → Int) × Int),
    Ok Proofs.Try.prog (10 : Nat) [AV.sc (Value.string r)] []
    (AV.cons (1 : Nat) (AV.ar (4 : Nat) (1 : Nat) fun (i0 : Nat) => AV.sc (Value.int IntKind.u64 (r_1.fst i0)))
    (AV.cons (1 : Nat) (AV.sc (Value.int IntKind.i64 r_1.snd)) AV.nil)).tup
    [] ∧
    ((r_1.snd != (0 : Int)) = false →
    (∀ (i : Nat), i < (4 : Nat) → (AV.sc (Value.int IntKind.u64 (r_1.fst i))).sz = (1 : Nat) ∧ (AV.sc (Value.int IntKind.u64 (sf i))).sz = (1 : Nat)) ∧
    ((!cdec (∀ (i : Nat), i < (4 : Nat) → r_1.fst i = sf i)) = true → Sub (AV.sc (Value.bool false)) res) ∧
    ((!cdec (∀ (i : Nat), i < (4 : Nat) → r_1.fst i = sf i)) = false →
    ∃ (r : (Nat → Int) × Int),
    Ok Proofs.Try.prog (10 : Nat) [AV.sc (Value.string text)] []
    (AV.cons (1 : Nat) (AV.ar (4 : Nat) (1 : Nat) fun (i0 : Nat) => AV.sc (Value.int IntKind.u64 (r.fst i0)))
    (AV.cons (1 : Nat) (AV.sc (Value.int IntKind.i64 r.snd)) AV.nil)).tup
    [] ∧
    ((r.snd != (0 : Int)) = true →
    (∀ (i : Nat),
    i < (4 : Nat) →
    (AV.sc (Value.int IntKind.u64 (r.fst i))).sz = (1 : Nat) ∧ (AV.sc (Value.int IntKind.u64 (0 : Int))).sz = (1 : Nat)) ∧
    (cdec (∀ (i : Nat), i < (4 : Nat) → r.fst i = (0 : Int)) = true →
    ∃ (r : Bool), Ok Proofs.Try.prog (12 : Nat) [] [] (AV.sc (Value.bool r)) [] ∧ Sub (AV.sc (Value.bool r)) res) ∧
    (cdec (∀ (i : Nat), i < (4 : Nat) → r.fst i = (0 : Int)) = !true → Sub (AV.sc (Value.bool false)) res)) ∧
    ((r.snd != (0 : Int)) = false →
    ∃ (r_2 : ByteArray),
    Ok Proofs.Try.prog (13 : Nat) [AV.ar (4 : Nat) (1 : Nat) fun (i : Nat) => AV.sc (Value.int IntKind.u64 (r.fst i))] []
    (AV.sc (Value.string r_2)) [] ∧
    ∃ (r_3 : (Nat → Int) × Int),
    Ok Proofs.Try.prog (10 : Nat) [AV.sc (Value.string r_2)] []
    (AV.cons (1 : Nat) (AV.ar (4 : Nat) (1 : Nat) fun (i0 : Nat) => AV.sc (Value.int IntKind.u64 (r_3.fst i0)))
    (AV.cons (1 : Nat) (AV.sc (Value.int IntKind.i64 r_3.snd)) AV.nil)).tup
    [] ∧
    (decide ((↑r_2.size : Int) ≤ (512 : Int)) = true →
    ((r_3.snd == (0 : Int)) = true →
    (∀ (i : Nat),
    i < (4 : Nat) →
    (AV.sc (Value.int IntKind.u64 (r_3.fst i))).sz = (1 : Nat) ∧
    (AV.sc (Value.int IntKind.u64 (r.fst i))).sz = (1 : Nat)) ∧
    (cdec (∀ (i : Nat), i < (4 : Nat) → r_3.fst i = r.fst i) = true →
    ∃ (r : Bool), Ok Proofs.Try.prog (12 : Nat) [] [] (AV.sc (Value.bool r)) [] ∧ Sub (AV.sc (Value.bool r)) res) ∧
    (cdec (∀ (i : Nat), i < (4 : Nat) → r_3.fst i = r.fst i) = !true → Sub (AV.sc (Value.bool false)) res)) ∧
    ((r_3.snd == (0 : Int)) = !true → Sub (AV.sc (Value.bool false)) res)) ∧
    (decide ((↑r_2.size : Int) ≤ (512 : Int)) = !true → Sub (AV.sc (Value.bool false)) res)))) ∧
    ((r_1.snd != (0 : Int)) = !false → Sub (AV.sc (Value.bool false)) res)) :
    L4_e sf text res :=
  rule Go.Am.Seat.tabOk 4 [] Go.Proofs.Try.f4 hf4 [] (s4_e sf text) (m4_e sf text) res [] 400
    (Orc.call [] [] (fun (r13 : ByteArray) => AV.sc (Value.string r13)) (fun (r13 : ByteArray) => []) fun (r13 : ByteArray) =>
  Orc.call [] []
    (fun (r10 : (Nat → Int) × Int) =>
    (AV.cons (1 : Nat) (AV.ar (4 : Nat) (1 : Nat) fun (i0 : Nat) => AV.sc (Value.int IntKind.u64 (r10.fst i0)))
    (AV.cons (1 : Nat) (AV.sc (Value.int IntKind.i64 r10.snd)) AV.nil)).tup)
    (fun (r10 : (Nat → Int) × Int) => []) fun (r10 : (Nat → Int) × Int) =>
    ((Orc.fin (AV.sc (Value.bool false)) [] []).br
    (Orc.call [] []
    (fun (r10 : (Nat → Int) × Int) =>
    (AV.cons (1 : Nat) (AV.ar (4 : Nat) (1 : Nat) fun (i0 : Nat) => AV.sc (Value.int IntKind.u64 (r10.fst i0)))
    (AV.cons (1 : Nat) (AV.sc (Value.int IntKind.i64 r10.snd)) AV.nil)).tup)
    (fun (r10 : (Nat → Int) × Int) => []) fun (r10 : (Nat → Int) × Int) =>
    ((Orc.call [] [] (fun (r12 : Bool) => AV.sc (Value.bool r12)) (fun (r12 : Bool) => []) fun (r12 : Bool) =>
    Orc.fin (AV.sc (Value.bool (bif true then r12 else false))) [] []).br
    (Orc.fin (AV.sc (Value.bool false)) [] [])).br
    (Orc.call [] [] (fun (r13 : ByteArray) => AV.sc (Value.string r13)) (fun (r13 : ByteArray) => []) fun (r13 : ByteArray) =>
    Orc.call [] []
    (fun (r10 : (Nat → Int) × Int) =>
    (AV.cons (1 : Nat) (AV.ar (4 : Nat) (1 : Nat) fun (i0 : Nat) => AV.sc (Value.int IntKind.u64 (r10.fst i0)))
    (AV.cons (1 : Nat) (AV.sc (Value.int IntKind.i64 r10.snd)) AV.nil)).tup)
    (fun (r10 : (Nat → Int) × Int) => []) fun (r10 : (Nat → Int) × Int) =>
    (((Orc.call [] [] (fun (r12 : Bool) => AV.sc (Value.bool r12)) (fun (r12 : Bool) => []) fun (r12 : Bool) =>
    Orc.fin (AV.sc (Value.bool (bif true then r12 else false))) [] []).br
    (Orc.fin (AV.sc (Value.bool false)) [] [])).yes.yes.br
    (Orc.fin (AV.sc (Value.bool false)) [] []).no.no.no).yes.br
    (Orc.fin (AV.sc (Value.bool false)) [] []).no.no.no.no.no))).yes.yes.br
    (Orc.fin (AV.sc (Value.bool false)) [] []).yes.no.no) _ _ (by kernel_rfl) (by kernel_rfl) (show True ∧
  True ∧
    ((0 : Nat) = (0 : Nat) ∧ True) ∧
    ∃ (r : ByteArray),
    ((True ∧ True) ∧
    True ∧
    Ok Proofs.Try.prog (13 : Nat) [AV.ar (4 : Nat) (1 : Nat) fun (i : Nat) => AV.sc (Value.int IntKind.u64 (sf i))] [] (AV.sc (Value.string r)) []) ∧
    ∃ (r_1 : (Nat → Int) × Int),
    ((True ∧ True) ∧
    True ∧
    Ok Proofs.Try.prog (10 : Nat) [AV.sc (Value.string r)] []
    (AV.cons (1 : Nat) (AV.ar (4 : Nat) (1 : Nat) fun (i0 : Nat) => AV.sc (Value.int IntKind.u64 (r_1.fst i0)))
    (AV.cons (1 : Nat) (AV.sc (Value.int IntKind.i64 r_1.snd)) AV.nil)).tup
    []) ∧
    True ∧
    True ∧
    True ∧
    True ∧
    ((0 : Nat) = (0 : Nat) ∧ True) ∧
    True ∧
    True ∧
    True ∧
    True ∧
    ((r_1.snd != (0 : Int)) = false →
    ((0 : Nat) = (0 : Nat) ∧ True) ∧
    false = false ∧
    ((0 : Nat) = (0 : Nat) ∧ True) ∧
    false = false ∧
    (∀ (i : Nat),
    i < (4 : Nat) →
    (AV.sc (Value.int IntKind.u64 (r_1.fst i))).sz = (1 : Nat) ∧
    (AV.sc (Value.int IntKind.u64 (sf i))).sz = (1 : Nat) ∧ false = false ∧ false = false ∧ True) ∧
    True ∧
    ((!cdec (∀ (i : Nat), i < (4 : Nat) → r_1.fst i = sf i)) = true →
    True ∧
    True ∧
    ((True ∧ Sub (AV.sc (Value.bool false)) (AV.sc (Value.bool false)) ∧ True) ∧ True) ∧
    Sub (AV.sc (Value.bool false)) res ∧ SubOut [] []) ∧
    ((!cdec (∀ (i : Nat), i < (4 : Nat) → r_1.fst i = sf i)) = false →
    True ∧
    ∃ (r : (Nat → Int) × Int),
    ((True ∧ True) ∧
    True ∧
    Ok Proofs.Try.prog (10 : Nat) [AV.sc (Value.string text)] []
    (AV.cons (1 : Nat)
    (AV.ar (4 : Nat) (1 : Nat) fun (i0 : Nat) => AV.sc (Value.int IntKind.u64 (r.fst i0)))
    (AV.cons (1 : Nat) (AV.sc (Value.int IntKind.i64 r.snd)) AV.nil)).tup
    []) ∧
    True ∧
    True ∧
    True ∧
    True ∧
    ((0 : Nat) = (0 : Nat) ∧ True) ∧
    True ∧
    True ∧
    True ∧
    ((r.snd != (0 : Int)) = true →
    ((0 : Nat) = (0 : Nat) ∧ True) ∧
    True ∧
    (∀ (i : Nat),
    i < (4 : Nat) →
    (AV.sc (Value.int IntKind.u64 (r.fst i))).sz = (1 : Nat) ∧
    (AV.sc (Value.int IntKind.u64 (0 : Int))).sz = (1 : Nat) ∧
    false = false ∧ false = false ∧ True) ∧
    True ∧
    (cdec (∀ (i : Nat), i < (4 : Nat) → r.fst i = (0 : Int)) = true →
    ∃ (r : Bool),
    (True ∧
    True ∧
    Ok Proofs.Try.prog (12 : Nat) [] [] (AV.sc (Value.bool r))
    []) ∧
    True ∧
    True ∧
    True ∧
    ((True ∧
    Sub (AV.sc (Value.bool r)) (AV.sc (Value.bool r)) ∧
    True) ∧
    True) ∧
    Sub (AV.sc (Value.bool r)) res ∧ SubOut [] []) ∧
    (cdec (∀ (i : Nat), i < (4 : Nat) → r.fst i = (0 : Int)) = !true →
    true = true ∧
    True ∧
    True ∧
    True ∧
    ((True ∧
    Sub (AV.sc (Value.bool false))
    (AV.sc (Value.bool false)) ∧
    True) ∧
    True) ∧
    Sub (AV.sc (Value.bool false)) res ∧ SubOut [] [])) ∧
    ((r.snd != (0 : Int)) = false →
    ((0 : Nat) = (0 : Nat) ∧ True) ∧
    ∃ (r_2 : ByteArray),
    ((True ∧ True) ∧
    True ∧
    Ok Proofs.Try.prog (13 : Nat)
    [AV.ar (4 : Nat) (1 : Nat) fun (i : Nat) =>
    AV.sc (Value.int IntKind.u64 (r.fst i))]
    [] (AV.sc (Value.string r_2)) []) ∧
    True ∧
    True ∧
    ∃ (r_3 : (Nat → Int) × Int),
    ((True ∧ True) ∧
    True ∧
    Ok Proofs.Try.prog (10 : Nat) [AV.sc (Value.string r_2)] []
    (AV.cons (1 : Nat)
    (AV.ar (4 : Nat) (1 : Nat) fun (i0 : Nat) =>
    AV.sc (Value.int IntKind.u64 (r_3.fst i0)))
    (AV.cons (1 : Nat) (AV.sc (Value.int IntKind.i64 r_3.snd))
    AV.nil)).tup
    []) ∧
    True ∧
    True ∧
    True ∧
    True ∧
    ((0 : Nat) = (0 : Nat) ∧ True) ∧
    True ∧
    True ∧
    True ∧
    True ∧
    True ∧
    (decide ((↑r_2.size : Int) ≤ (512 : Int)) =
    true →
    True ∧
    true = true ∧
    True ∧
    True ∧
    True ∧
    ((r_3.snd == (0 : Int)) = true →
    ((0 : Nat) = (0 : Nat) ∧
    True) ∧
    true = true ∧
    ((0 : Nat) = (0 : Nat) ∧
    True) ∧
    true = true ∧
    (∀ (i : Nat),
    i < (4 : Nat) →
    (AV.sc
    (Value.int
    IntKind.u64
    (r_3.fst
    i))).sz =
    (1 : Nat) ∧
    (AV.sc
    (Value.int
    IntKind.u64
    (r.fst
    i))).sz =
    (1 :
    Nat) ∧
    false =
    false ∧
    false =
    false ∧
    True) ∧
    True ∧
    True ∧
    (cdec
    (∀
    (i :
    Nat),
    i <
    (4 :
    Nat) →
    r_3.fst
    i =
    r.fst
    i) =
    true →
    ∃ (r :
    Bool),
    (True ∧
    True ∧
    Ok
    Proofs.Try.prog
    (12 :
    Nat)
    []
    []
    (AV.sc
    (Value.bool
    r))
    []) ∧
    True ∧
    True ∧
    True ∧
    ((True ∧
    Sub
    (AV.sc
    (Value.bool
    r))
    (AV.sc
    (Value.bool
    r)) ∧
    True) ∧
    True) ∧
    Sub
    (AV.sc
    (Value.bool
    r))
    res ∧
    SubOut
    []
    []) ∧
    (cdec
    (∀
    (i :
    Nat),
    i <
    (4 :
    Nat) →
    r_3.fst
    i =
    r.fst
    i) =
    !true →
    true =
    true ∧
    True ∧
    True ∧
    True ∧
    ((True ∧
    Sub
    (AV.sc
    (Value.bool
    false))
    (AV.sc
    (Value.bool
    false)) ∧
    True) ∧
    True) ∧
    Sub
    (AV.sc
    (Value.bool
    false))
    res ∧
    SubOut
    []
    [])) ∧
    ((r_3.snd == (0 : Int)) =
    !true →
    true = true ∧
    (!true) = !true ∧
    true = true ∧
    (!true) = !true ∧
    true = true ∧
    True ∧
    True ∧
    false = !true ∧
    true = true ∧
    True ∧
    True ∧
    True ∧
    ((True ∧
    Sub
    (AV.sc
    (Value.bool
    false))
    (AV.sc
    (Value.bool
    false)) ∧
    True) ∧
    True) ∧
    Sub
    (AV.sc
    (Value.bool
    false))
    res ∧
    SubOut
    []
    [])) ∧
    (decide ((↑r_2.size : Int) ≤ (512 : Int)) =
    !true →
    true = true ∧
    (!true) = !true ∧
    true = true ∧
    True ∧
    True ∧
    false = !true ∧
    true = true ∧
    (!true) = !true ∧
    true = true ∧
    (!true) = !true ∧
    true = true ∧
    True ∧
    True ∧
    false = !true ∧
    true = true ∧
    True ∧
    True ∧
    True ∧
    ((True ∧
    Sub
    (AV.sc
    (Value.bool
    false))
    (AV.sc
    (Value.bool
    false)) ∧
    True) ∧
    True) ∧
    Sub
    (AV.sc
    (Value.bool
    false))
    res ∧
    SubOut
    []
    [])))) ∧
    ((r_1.snd != (0 : Int)) = !false →
    true = true ∧
    (!false) = !false ∧
    true = true ∧
    (!false) = !false ∧
    true = true ∧
    True ∧
    true = true ∧
    True ∧
    True ∧
    ((True ∧ Sub (AV.sc (Value.bool false)) (AV.sc (Value.bool false)) ∧ True) ∧ True) ∧
    Sub (AV.sc (Value.bool false)) res ∧ SubOut [] []) from
    ⟨trivial, ⟨trivial, ⟨⟨rfl, trivial⟩, (Exists.elim h fun x3 h3 => ⟨x3, (And.elim (fun h4 k4 => ⟨⟨⟨trivial, trivial⟩, ⟨trivial, h4⟩⟩, (Exists.elim k4 fun x5 h5 => ⟨x5, (And.elim (fun h6 k6 => ⟨⟨⟨trivial, trivial⟩, ⟨trivial, h6⟩⟩, ⟨trivial, ⟨trivial, ⟨trivial, ⟨trivial, ⟨⟨rfl, trivial⟩, ⟨trivial, ⟨trivial, ⟨trivial, ⟨trivial, (And.elim (fun h16 k16 => ⟨(fun x17 => (fun h17 => ⟨⟨rfl, trivial⟩, ⟨rfl, ⟨⟨rfl, trivial⟩, ⟨rfl, (And.elim (fun h22 k22 => ⟨(fun x23 => (fun h23 => (fun x24 => (fun h24 => (And.elim (fun h25 k25 => ⟨h25, ((fun h26 => ⟨h26, ⟨rfl, ⟨rfl, trivial⟩⟩⟩) k25)⟩) h24)) (h23 x24))) (h22 x23)), ⟨trivial, (And.elim (fun h24 k24 => ⟨(fun x25 => (fun h25 => ⟨trivial, ⟨trivial, ⟨⟨⟨trivial, ⟨Sub.refl _, trivial⟩⟩, trivial⟩, ((fun h29 => ⟨h29, trivial⟩) h25)⟩⟩⟩) (h24 x25)), (fun x25 => (fun h25 => ⟨trivial, (Exists.elim h25 fun x27 h27 => ⟨x27, (And.elim (fun h28 k28 => ⟨⟨⟨trivial, trivial⟩, ⟨trivial, h28⟩⟩, ⟨trivial, ⟨trivial, ⟨trivial, ⟨trivial, ⟨⟨rfl, trivial⟩, ⟨trivial, ⟨trivial, ⟨trivial, (And.elim (fun h37 k37 => ⟨(fun x38 => (fun h38 => ⟨⟨rfl, trivial⟩, ⟨trivial, (And.elim (fun h41 k41 => ⟨(fun x42 => (fun h42 => (fun x43 => (fun h43 => (And.elim (fun h44 k44 => ⟨h44, ((fun h45 => ⟨h45, ⟨rfl, ⟨rfl, trivial⟩⟩⟩) k44)⟩) h43)) (h42 x43))) (h41 x42)), ⟨trivial, (And.elim (fun h43 k43 => ⟨(fun x44 => (fun h44 => (Exists.elim h44 fun x45 h45 => ⟨x45, (And.elim (fun h46 k46 => ⟨⟨trivial, ⟨trivial, h46⟩⟩, ⟨trivial, ⟨trivial, ⟨trivial, ⟨⟨⟨trivial, ⟨Sub.refl _, trivial⟩⟩, trivial⟩, ((fun h51 => ⟨h51, trivial⟩) k46)⟩⟩⟩⟩⟩) h45)⟩)) (h43 x44)), (fun x44 => (fun h44 => ⟨rfl, ⟨trivial, ⟨trivial, ⟨trivial, ⟨⟨⟨trivial, ⟨Sub.refl _, trivial⟩⟩, trivial⟩, ((fun h50 => ⟨h50, trivial⟩) h44)⟩⟩⟩⟩⟩) (k43 x44))⟩) k41)⟩⟩) h38)⟩⟩) (h37 x38)), (fun x38 => (fun h38 => ⟨⟨rfl, trivial⟩, (Exists.elim h38 fun x40 h40 => ⟨x40, (And.elim (fun h41 k41 => ⟨⟨⟨trivial, trivial⟩, ⟨trivial, h41⟩⟩, ⟨trivial, ⟨trivial, (Exists.elim k41 fun x44 h44 => ⟨x44, (And.elim (fun h45 k45 => ⟨⟨⟨trivial, trivial⟩, ⟨trivial, h45⟩⟩, ⟨trivial, ⟨trivial, ⟨trivial, ⟨trivial, ⟨⟨rfl, trivial⟩, ⟨trivial, ⟨trivial, ⟨trivial, ⟨trivial, ⟨trivial, (And.elim (fun h56 k56 => ⟨(fun x57 => (fun h57 => ⟨trivial, ⟨rfl, ⟨trivial, ⟨trivial, ⟨trivial, (And.elim (fun h63 k63 => ⟨(fun x64 => (fun h64 => ⟨⟨rfl, trivial⟩, ⟨rfl, ⟨⟨rfl, trivial⟩, ⟨rfl, (And.elim (fun h69 k69 => ⟨(fun x70 => (fun h70 => (fun x71 => (fun h71 => (And.elim (fun h72 k72 => ⟨h72, ((fun h73 => ⟨h73, ⟨rfl, ⟨rfl, trivial⟩⟩⟩) k72)⟩) h71)) (h70 x71))) (h69 x70)), ⟨trivial, ⟨trivial, (And.elim (fun h72 k72 => ⟨(fun x73 => (fun h73 => (Exists.elim h73 fun x74 h74 => ⟨x74, (And.elim (fun h75 k75 => ⟨⟨trivial, ⟨trivial, h75⟩⟩, ⟨trivial, ⟨trivial, ⟨trivial, ⟨⟨⟨trivial, ⟨Sub.refl _, trivial⟩⟩, trivial⟩, ((fun h80 => ⟨h80, trivial⟩) k75)⟩⟩⟩⟩⟩) h74)⟩)) (h72 x73)), (fun x73 => (fun h73 => ⟨rfl, ⟨trivial, ⟨trivial, ⟨trivial, ⟨⟨⟨trivial, ⟨Sub.refl _, trivial⟩⟩, trivial⟩, ((fun h79 => ⟨h79, trivial⟩) h73)⟩⟩⟩⟩⟩) (k72 x73))⟩) k69)⟩⟩⟩) h64)⟩⟩⟩⟩) (h63 x64)), (fun x64 => (fun h64 => ⟨rfl, ⟨rfl, ⟨rfl, ⟨rfl, ⟨rfl, ⟨trivial, ⟨trivial, ⟨rfl, ⟨rfl, ⟨trivial, ⟨trivial, ⟨trivial, ⟨⟨⟨trivial, ⟨Sub.refl _, trivial⟩⟩, trivial⟩, ((fun h78 => ⟨h78, trivial⟩) h64)⟩⟩⟩⟩⟩⟩⟩⟩⟩⟩⟩⟩⟩) (k63 x64))⟩) h57)⟩⟩⟩⟩⟩) (h56 x57)), (fun x57 => (fun h57 => ⟨rfl, ⟨rfl, ⟨rfl, ⟨trivial, ⟨trivial, ⟨rfl, ⟨rfl, ⟨rfl, ⟨rfl, ⟨rfl, ⟨rfl, ⟨trivial, ⟨trivial, ⟨rfl, ⟨rfl, ⟨trivial, ⟨trivial, ⟨trivial, ⟨⟨⟨trivial, ⟨Sub.refl _, trivial⟩⟩, trivial⟩, ((fun h77 => ⟨h77, trivial⟩) h57)⟩⟩⟩⟩⟩⟩⟩⟩⟩⟩⟩⟩⟩⟩⟩⟩⟩⟩⟩) (k56 x57))⟩) k45)⟩⟩⟩⟩⟩⟩⟩⟩⟩⟩⟩) h44)⟩)⟩⟩⟩) h40)⟩)⟩) (k37 x38))⟩) k28)⟩⟩⟩⟩⟩⟩⟩⟩⟩) h27)⟩)⟩) (k24 x25))⟩) k22)⟩⟩) h17)⟩⟩⟩⟩) (h16 x17)), (fun x17 => (fun h17 => ⟨rfl, ⟨rfl, ⟨rfl, ⟨rfl, ⟨rfl, ⟨trivial, ⟨rfl, ⟨trivial, ⟨trivial, ⟨⟨⟨trivial, ⟨Sub.refl _, trivial⟩⟩, trivial⟩, ((fun h28 => ⟨h28, trivial⟩) h17)⟩⟩⟩⟩⟩⟩⟩⟩⟩⟩) (k16 x17))⟩) k6)⟩⟩⟩⟩⟩⟩⟩⟩⟩⟩) h5)⟩)⟩) h3)⟩)⟩⟩⟩)
theorem hf5 : Go.Proofs.Try.prog.funcs[5]? = some Go.Proofs.Try.f5 := by kernel_rfl
abbrev s5_e (sf : Nat → Int) : List (Nat × AV) := [(0, (.ar 4 1 (fun i0 => (.sc (.int .u64 (sf i0))))))]
abbrev m5_e (sf : Nat → Int) : List (Nat × Nat × AV) := []
def L5_e (sf : Nat → Int) (res : AV) : Prop := Goes ⟨Go.Proofs.Try.prog, 5, [], res, []⟩ (place Go.Proofs.Try.f5 []) (s5_e sf) (m5_e sf)
theorem a5_e (sf : Nat → Int) (res : AV) (h : (∀ slot, fact (look .undef (s5_e sf) slot)) → L5_e sf res) : L5_e sf res :=
  assumeRule 5 [] Go.Proofs.Try.f5 hf5 [] (s5_e sf) (m5_e sf) res [] _ (by kernel_rfl) h
abbrev s5_0 (m : ByteArray) (i : Int) (b0f : Nat → Int) : List (Nat × AV) := [(1, (.pt 1000 [] 0)), (3, (.sc (.string m))), (4, (.sc (.int .i64 i)))]
abbrev m5_0 (m : ByteArray) (i : Int) (b0f : Nat → Int) : List (Nat × Nat × AV) := [(1000, 24, (.ar 4 1 (fun i0 => (.sc (.int .u64 (b0f i0))))))]
def L5_0 (m : ByteArray) (i : Int) (b0f : Nat → Int) (res : AV) : Prop := Goes ⟨Go.Proofs.Try.prog, 5, [], res, []⟩ (place Go.Proofs.Try.f5 [1, 1, 0, 1, 0, 0]) (s5_0 m i b0f) (m5_0 m i b0f)
theorem a5_0 (m : ByteArray) (i : Int) (b0f : Nat → Int) (res : AV) (h : (∀ slot, fact (look .undef (s5_0 m i b0f) slot)) → L5_0 m i b0f res) : L5_0 m i b0f res :=
  assumeRule 5 [] Go.Proofs.Try.f5 hf5 [1, 1, 0, 1, 0, 0] (s5_0 m i b0f) (m5_0 m i b0f) res [] _ (by kernel_rfl) h
theorem o5 (sf : Nat → Int) (res : AV) (hnew : newOnly res) (h : L5_e sf res) : Ok Go.Proofs.Try.prog 5 [(.ar 4 1 (fun i0 => (.sc (.int .u64 (sf i0)))))] [] res [] :=
  okRule2 5 Go.Proofs.Try.f5 hf5 [(.ar 4 1 (fun i0 => (.sc (.int .u64 (sf i0)))))] [] res [] [] rfl (by kernel_rfl) (by kernel_rfl) (by kernel_rfl) ⟨hnew, by simp⟩ (L5_e sf res) (by kernel_rfl) h
theorem r5_e (sf : Nat → Int) (res : AV)
    (h : ∃ (r : ByteArray),
  Ok Proofs.Try.prog (14 : Nat) [AV.ar (4 : Nat) (1 : Nat) fun (i : Nat) => AV.sc (Value.int IntKind.u64 (sf i))] [] (AV.sc (Value.string r)) [] ∧
    L5_0 r (0 : Int) sf res) :
    L5_e sf res :=
  rule Go.Am.Seat.tabOk 5 [] Go.Proofs.Try.f5 hf5 [] (s5_e sf) (m5_e sf) res [] 400
    (Orc.call [] [] (fun (r14 : ByteArray) => AV.sc (Value.string r14)) (fun (r14 : ByteArray) => []) fun (r14 : ByteArray) =>
  Orc.cut (nat_lit 5) (s5_0 r14 (0 : Int) sf) (m5_0 r14 (0 : Int) sf) [((1000 : Nat), some (1 : Nat))]) _ _ (by kernel_rfl) (by kernel_rfl) (show True ∧
  True ∧
    ((0 : Nat) = (0 : Nat) ∧ True) ∧
    ∃ (r : ByteArray),
    ((True ∧ True) ∧
    True ∧
    Ok Proofs.Try.prog (14 : Nat) [AV.ar (4 : Nat) (1 : Nat) fun (i : Nat) => AV.sc (Value.int IntKind.u64 (sf i))] [] (AV.sc (Value.string r)) []) ∧
    True ∧
    True ∧
    ((True ∧
    Sub (AV.pt (1000 : Nat) [] (0 : Nat)) (AV.pt (1000 : Nat) [] (0 : Nat)) ∧
    True ∧
    Sub (AV.sc (Value.string r)) (AV.sc (Value.string r)) ∧
    True ∧ Sub (AV.sc (Value.int IntKind.i64 (0 : Int))) (AV.sc (Value.int IntKind.i64 (0 : Int))) ∧ True) ∧
    True ∧
    SubB (AV.ar (4 : Nat) (1 : Nat) fun (i0 : Nat) => AV.sc (Value.int IntKind.u64 (sf i0)))
    (AV.ar (4 : Nat) (1 : Nat) fun (i0 : Nat) => AV.sc (Value.int IntKind.u64 (sf i0))) ∧
    True) ∧
    L5_0 r (0 : Int) sf res from
    ⟨trivial, ⟨trivial, ⟨⟨rfl, trivial⟩, (Exists.elim h fun x3 h3 => ⟨x3, (And.elim (fun h4 k4 => ⟨⟨⟨trivial, trivial⟩, ⟨trivial, h4⟩⟩, ⟨trivial, ⟨trivial, ⟨⟨⟨trivial, ⟨Sub.refl _, ⟨trivial, ⟨Sub.refl _, ⟨trivial, ⟨Sub.refl _, trivial⟩⟩⟩⟩⟩⟩, ⟨trivial, ⟨SubB.refl _, trivial⟩⟩⟩, k4⟩⟩⟩⟩) h3)⟩)⟩⟩⟩)
theorem r5_0 (m : ByteArray) (i : Int) (b0f : Nat → Int) (res : AV)
    (h : (decide (i < (↑m.size : Int)) = true →
    ((0 : Int) ≤ i ∧ i < (↑m.size : Int)) ∧
    ∃ (r : Bool),
    Ok Proofs.Try.prog (15 : Nat)
    [AV.ar (4 : Nat) (1 : Nat) fun (i : Nat) => AV.sc (Value.int IntKind.u64 (b0f i)), AV.sc (Value.int IntKind.u8 (↑(byteAt m i.toNat).toNat : Int))]
    [] (AV.sc (Value.bool r)) [] ∧
    ((!r) = false →
    (decide (i > (0 : Int)) = true →
    ((0 : Int) ≤ IntKind.i64.wrap (i - (1 : Int)) ∧ IntKind.i64.wrap (i - (1 : Int)) < (↑m.size : Int)) ∧
    (decide ((↑(byteAt m (IntKind.i64.wrap (i - (1 : Int))).toNat).toNat : Int) ≥ (↑(byteAt m i.toNat).toNat : Int)) = true →
    Sub (AV.sc (Value.bool false)) res) ∧
    (decide ((↑(byteAt m (IntKind.i64.wrap (i - (1 : Int))).toNat).toNat : Int) ≥ (↑(byteAt m i.toNat).toNat : Int)) = false →
    L5_0 m (IntKind.i64.wrap (i + (1 : Int))) b0f res)) ∧
    (decide (i > (0 : Int)) = !true → L5_0 m (IntKind.i64.wrap (i + (1 : Int))) b0f res)) ∧
    ((!r) = !false → Sub (AV.sc (Value.bool false)) res)) ∧
  (decide (i < (↑m.size : Int)) = false →
    ∃ (r : Int),
    Ok Proofs.Try.prog (16 : Nat) [AV.ar (4 : Nat) (1 : Nat) fun (i : Nat) => AV.sc (Value.int IntKind.u64 (b0f i))] [] (AV.sc (Value.int IntKind.i64 r)) [] ∧
    (((↑m.size : Int) == r) = true →
    ∃ (r : Nat → Int),
    Ok Proofs.Try.prog (17 : Nat) [AV.sc (Value.string m)] [] (AV.ar (4 : Nat) (1 : Nat) fun (i0 : Nat) => AV.sc (Value.int IntKind.u64 (r i0))) [] ∧
    (∀ (i : Nat), i < (4 : Nat) → (AV.sc (Value.int IntKind.u64 (r i))).sz = (1 : Nat) ∧ (AV.sc (Value.int IntKind.u64 (b0f i))).sz = (1 : Nat)) ∧
    (cdec (∀ (i : Nat), i < (4 : Nat) → r i = b0f i) = true →
    ∃ (r : Bool), Ok Proofs.Try.prog (12 : Nat) [] [] (AV.sc (Value.bool r)) [] ∧ Sub (AV.sc (Value.bool r)) res) ∧
    (cdec (∀ (i : Nat), i < (4 : Nat) → r i = b0f i) = !true → Sub (AV.sc (Value.bool false)) res)) ∧
    (((↑m.size : Int) == r) = !true → Sub (AV.sc (Value.bool false)) res))) :
    L5_0 m i b0f res :=
  rule Go.Am.Seat.tabOk 5 [] Go.Proofs.Try.f5 hf5 [1, 1, 0, 1, 0, 0] (s5_0 m i b0f) (m5_0 m i b0f) res [] 400
    ((Orc.call [] [] (fun (r15 : Bool) => AV.sc (Value.bool r15)) (fun (r15 : Bool) => []) fun (r15 : Bool) =>
    ((Orc.ch (Ch.p true)
    (Orc.ch (Ch.p false)
    ((Orc.fin (AV.sc (Value.bool false)) [] []).br
    (Orc.cut (nat_lit 4) (s5_0 m (IntKind.i64.wrap (i + (1 : Int))) b0f) (m5_0 m (IntKind.i64.wrap (i + (1 : Int))) b0f)
    [((1000 : Nat), some (1000 : Nat))])))).yes.yes.yes.yes.yes.yes.yes.yes.br
    (Orc.ch (Ch.p false)
    (Orc.ch (Ch.p false)
    (Orc.cut (nat_lit 4) (s5_0 m (IntKind.i64.wrap (i + (1 : Int))) b0f) (m5_0 m (IntKind.i64.wrap (i + (1 : Int))) b0f)
    [((1000 : Nat), some (1000 : Nat))]).no)).yes.no.no.no.no.no.no.no).yes.yes.br
    (Orc.ch (Ch.p true) (Orc.fin (AV.sc (Value.bool false)) [] []).yes).no.no.no).br
  (Orc.call [] [] (fun (r16 : Int) => AV.sc (Value.int IntKind.i64 r16)) (fun (r16 : Int) => []) fun (r16 : Int) =>
    (Orc.call [] [] (fun (r17 : Nat → Int) => AV.ar (4 : Nat) (1 : Nat) fun (i0 : Nat) => AV.sc (Value.int IntKind.u64 (r17 i0))) (fun (r17 : Nat → Int) => [])
    fun (r17 : Nat → Int) =>
    (Orc.ch Ch.none
    (Orc.ch (Ch.p true)
    ((Orc.call [] [] (fun (r12 : Bool) => AV.sc (Value.bool r12)) (fun (r12 : Bool) => []) fun (r12 : Bool) =>
    Orc.ch (Ch.p true) (Orc.fin (AV.sc (Value.bool r12)) [] [])).br
    (Orc.ch (Ch.p false) (Orc.fin (AV.sc (Value.bool false)) [] []))))).yes.yes).yes.br
    (Orc.ch (Ch.p false) (Orc.ch (Ch.p false) (Orc.fin (AV.sc (Value.bool false)) [] [])).no).no.no.no)) _ _ (by kernel_rfl) (by kernel_rfl) (show True ∧
  True ∧
    True ∧
    True ∧
    (decide (i < (↑m.size : Int)) = true →
    ((0 : Nat) = (0 : Nat) ∧ True) ∧
    True ∧
    True ∧
    ((0 : Int) ≤ i ∧ i < (↑m.size : Int)) ∧
    ∃ (r : Bool),
    ((True ∧ True ∧ True) ∧
    True ∧
    Ok Proofs.Try.prog (15 : Nat)
    [AV.ar (4 : Nat) (1 : Nat) fun (i : Nat) => AV.sc (Value.int IntKind.u64 (b0f i)),
    AV.sc (Value.int IntKind.u8 (↑(byteAt m i.toNat).toNat : Int))]
    [] (AV.sc (Value.bool r)) []) ∧
    True ∧
    True ∧
    ((!r) = false →
    True ∧
    (!r) = false ∧
    True ∧
    (!r) = false ∧
    True ∧
    (decide (i > (0 : Int)) = true →
    True ∧
    decide (i > (0 : Int)) = true ∧
    True ∧
    decide (i > (0 : Int)) = true ∧
    True ∧
    decide (i > (0 : Int)) = true ∧
    ((0 : Int) ≤ IntKind.i64.wrap (i - (1 : Int)) ∧ IntKind.i64.wrap (i - (1 : Int)) < (↑m.size : Int)) ∧
    decide (i > (0 : Int)) = true ∧
    True ∧
    decide (i > (0 : Int)) = true ∧
    True ∧
    decide (i > (0 : Int)) = true ∧
    ((0 : Int) ≤ i ∧ i < (↑m.size : Int)) ∧
    decide (i > (0 : Int)) = true ∧
    True ∧
    (!r) = false ∧
    decide (i > (0 : Int)) = true ∧
    (!r) = false ∧
    (decide
    ((↑(byteAt m (IntKind.i64.wrap (i - (1 : Int))).toNat).toNat : Int) ≥
    (↑(byteAt m i.toNat).toNat : Int)) =
    true →
    True ∧
    True ∧
    ((True ∧
    Sub (AV.sc (Value.bool false)) (AV.sc (Value.bool false)) ∧
    True) ∧
    True) ∧
    Sub (AV.sc (Value.bool false)) res ∧ SubOut [] []) ∧
    (decide
    ((↑(byteAt m (IntKind.i64.wrap (i - (1 : Int))).toNat).toNat : Int) ≥
    (↑(byteAt m i.toNat).toNat : Int)) =
    false →
    True ∧
    True ∧
    True ∧
    ((True ∧
    Sub (AV.pt (1000 : Nat) [] (0 : Nat))
    (AV.pt (1000 : Nat) [] (0 : Nat)) ∧
    True ∧
    Sub (AV.sc (Value.string m)) (AV.sc (Value.string m)) ∧
    True ∧
    Sub
    (AV.sc
    (Value.int IntKind.i64
    (IntKind.i64.wrap (i + (1 : Int)))))
    (AV.sc
    (Value.int IntKind.i64
    (IntKind.i64.wrap (i + (1 : Int))))) ∧
    True) ∧
    True ∧
    SubB
    (AV.ar (4 : Nat) (1 : Nat) fun (i0 : Nat) =>
    AV.sc (Value.int IntKind.u64 (b0f i0)))
    (AV.ar (4 : Nat) (1 : Nat) fun (i0 : Nat) =>
    AV.sc (Value.int IntKind.u64 (b0f i0))) ∧
    True) ∧
    L5_0 m (IntKind.i64.wrap (i + (1 : Int))) b0f res)) ∧
    (decide (i > (0 : Int)) = !true →
    true = true ∧
    decide (i > (0 : Int)) = !true ∧
    true = true ∧
    decide (i > (0 : Int)) = !true ∧
    true = true ∧
    decide (i > (0 : Int)) = !true ∧
    true = true ∧
    decide (i > (0 : Int)) = !true ∧
    true = true ∧
    decide (i > (0 : Int)) = !true ∧
    true = true ∧
    decide (i > (0 : Int)) = !true ∧
    true = true ∧
    decide (i > (0 : Int)) = !true ∧
    true = true ∧
    (!r) = false ∧
    decide (i > (0 : Int)) = false ∧
    (!r) = false ∧
    false = false ∧
    True ∧
    True ∧
    True ∧
    ((True ∧
    Sub (AV.pt (1000 : Nat) [] (0 : Nat))
    (AV.pt (1000 : Nat) [] (0 : Nat)) ∧
    True ∧
    Sub (AV.sc (Value.string m)) (AV.sc (Value.string m)) ∧
    True ∧
    Sub
    (AV.sc
    (Value.int IntKind.i64
    (IntKind.i64.wrap (i + (1 : Int)))))
    (AV.sc
    (Value.int IntKind.i64
    (IntKind.i64.wrap (i + (1 : Int))))) ∧
    True) ∧
    True ∧
    SubB
    (AV.ar (4 : Nat) (1 : Nat) fun (i0 : Nat) =>
    AV.sc (Value.int IntKind.u64 (b0f i0)))
    (AV.ar (4 : Nat) (1 : Nat) fun (i0 : Nat) =>
    AV.sc (Value.int IntKind.u64 (b0f i0))) ∧
    True) ∧
    L5_0 m (IntKind.i64.wrap (i + (1 : Int))) b0f res)) ∧
    ((!r) = !false →
    true = true ∧
    (!r) = !false ∧
    true = true ∧
    (!r) = !false ∧
    true = true ∧
    true = true ∧
    true = true ∧
    true = true ∧
    true = true ∧
    true = true ∧
    true = true ∧
    true = true ∧
    true = true ∧
    (!r) = !false ∧
    true = true ∧
    (!r) = true ∧
    true = true ∧
    True ∧
    True ∧
    ((True ∧ Sub (AV.sc (Value.bool false)) (AV.sc (Value.bool false)) ∧ True) ∧ True) ∧
    Sub (AV.sc (Value.bool false)) res ∧ SubOut [] [])) ∧
    (decide (i < (↑m.size : Int)) = false →
    True ∧
    True ∧
    ((0 : Nat) = (0 : Nat) ∧ True) ∧
    ∃ (r : Int),
    ((True ∧ True) ∧
    True ∧
    Ok Proofs.Try.prog (16 : Nat) [AV.ar (4 : Nat) (1 : Nat) fun (i : Nat) => AV.sc (Value.int IntKind.u64 (b0f i))] []
    (AV.sc (Value.int IntKind.i64 r)) []) ∧
    True ∧
    True ∧
    (((↑m.size : Int) == r) = true →
    True ∧
    ((↑m.size : Int) == r) = true ∧
    ∃ (r_1 : Nat → Int),
    ((True ∧ True) ∧
    True ∧
    Ok Proofs.Try.prog (17 : Nat) [AV.sc (Value.string m)] []
    (AV.ar (4 : Nat) (1 : Nat) fun (i0 : Nat) => AV.sc (Value.int IntKind.u64 (r_1 i0))) []) ∧
    ((↑m.size : Int) == r) = true ∧
    ((0 : Nat) = (0 : Nat) ∧ True) ∧
    ((↑m.size : Int) == r) = true ∧
    (∀ (i : Nat),
    i < (4 : Nat) →
    (AV.sc (Value.int IntKind.u64 (r_1 i))).sz = (1 : Nat) ∧
    (AV.sc (Value.int IntKind.u64 (b0f i))).sz = (1 : Nat) ∧ false = false ∧ false = false ∧ True) ∧
    ((↑m.size : Int) == r) = true ∧
    True ∧
    (cdec (∀ (i : Nat), i < (4 : Nat) → r_1 i = b0f i) = true →
    ∃ (r : Bool),
    (True ∧ True ∧ Ok Proofs.Try.prog (12 : Nat) [] [] (AV.sc (Value.bool r)) []) ∧
    cdec (∀ (i : Nat), i < (4 : Nat) → r_1 i = b0f i) = true ∧
    True ∧
    True ∧
    ((True ∧ Sub (AV.sc (Value.bool r)) (AV.sc (Value.bool r)) ∧ True) ∧ True) ∧
    Sub (AV.sc (Value.bool r)) res ∧ SubOut [] []) ∧
    (cdec (∀ (i : Nat), i < (4 : Nat) → r_1 i = b0f i) = !true →
    true = true ∧
    cdec (∀ (i : Nat), i < (4 : Nat) → r_1 i = b0f i) = false ∧
    True ∧
    True ∧
    ((True ∧ Sub (AV.sc (Value.bool false)) (AV.sc (Value.bool false)) ∧ True) ∧ True) ∧
    Sub (AV.sc (Value.bool false)) res ∧ SubOut [] [])) ∧
    (((↑m.size : Int) == r) = !true →
    true = true ∧
    ((↑m.size : Int) == r) = !true ∧
    true = true ∧
    ((↑m.size : Int) == r) = !true ∧
    true = true ∧
    ((↑m.size : Int) == r) = !true ∧
    true = true ∧
    ((↑m.size : Int) == r) = false ∧
    True ∧
    false = !true ∧
    true = true ∧
    false = false ∧
    True ∧
    True ∧
    ((True ∧ Sub (AV.sc (Value.bool false)) (AV.sc (Value.bool false)) ∧ True) ∧ True) ∧
    Sub (AV.sc (Value.bool false)) res ∧ SubOut [] [])) from
    ⟨trivial, ⟨trivial, ⟨trivial, ⟨trivial, (And.elim (fun h4 k4 => ⟨(fun x5 => (fun h5 => ⟨⟨rfl, trivial⟩, ⟨trivial, ⟨trivial, (And.elim (fun h9 k9 => ⟨(And.elim (fun h10 k10 => ⟨h10, k10⟩) h9), (Exists.elim k9 fun x10 h10 => ⟨x10, (And.elim (fun h11 k11 => ⟨⟨⟨trivial, ⟨trivial, trivial⟩⟩, ⟨trivial, h11⟩⟩, ⟨trivial, ⟨trivial, (And.elim (fun h14 k14 => ⟨(fun x15 => (fun h15 => ⟨trivial, ⟨x15, ⟨trivial, ⟨x15, ⟨trivial, (And.elim (fun h21 k21 => ⟨(fun x22 => (fun h22 => ⟨trivial, ⟨x22, ⟨trivial, ⟨x22, ⟨trivial, ⟨x22, (And.elim (fun h29 k29 => ⟨(And.elim (fun h30 k30 => ⟨h30, k30⟩) h29), ⟨x22, ⟨trivial, ⟨x22, ⟨trivial, ⟨x22, ⟨(And.elim (fun h36 k36 => ⟨h36, k36⟩) h9), ⟨x22, ⟨trivial, ⟨x15, ⟨x22, ⟨x15, (And.elim (fun h41 k41 => ⟨(fun x42 => (fun h42 => ⟨trivial, ⟨trivial, ⟨⟨⟨trivial, ⟨Sub.refl _, trivial⟩⟩, trivial⟩, ((fun h46 => ⟨h46, trivial⟩) h42)⟩⟩⟩) (h41 x42)), (fun x42 => (fun h42 => ⟨trivial, ⟨trivial, ⟨trivial, ⟨⟨⟨trivial, ⟨Sub.refl _, ⟨trivial, ⟨Sub.refl _, ⟨trivial, ⟨Sub.refl _, trivial⟩⟩⟩⟩⟩⟩, ⟨trivial, ⟨SubB.refl _, trivial⟩⟩⟩, h42⟩⟩⟩⟩) (k41 x42))⟩) k29)⟩⟩⟩⟩⟩⟩⟩⟩⟩⟩⟩⟩) h22)⟩⟩⟩⟩⟩⟩) (h21 x22)), (fun x22 => (fun h22 => ⟨rfl, ⟨x22, ⟨rfl, ⟨x22, ⟨rfl, ⟨x22, ⟨rfl, ⟨x22, ⟨rfl, ⟨x22, ⟨rfl, ⟨x22, ⟨rfl, ⟨x22, ⟨rfl, ⟨x15, ⟨x22, ⟨x15, ⟨rfl, ⟨trivial, ⟨trivial, ⟨trivial, ⟨⟨⟨trivial, ⟨Sub.refl _, ⟨trivial, ⟨Sub.refl _, ⟨trivial, ⟨Sub.refl _, trivial⟩⟩⟩⟩⟩⟩, ⟨trivial, ⟨SubB.refl _, trivial⟩⟩⟩, h22⟩⟩⟩⟩⟩⟩⟩⟩⟩⟩⟩⟩⟩⟩⟩⟩⟩⟩⟩⟩⟩⟩⟩) (k21 x22))⟩) h15)⟩⟩⟩⟩⟩) (h14 x15)), (fun x15 => (fun h15 => ⟨rfl, ⟨x15, ⟨rfl, ⟨x15, ⟨rfl, ⟨rfl, ⟨rfl, ⟨rfl, ⟨rfl, ⟨rfl, ⟨rfl, ⟨rfl, ⟨rfl, ⟨x15, ⟨rfl, ⟨x15, ⟨rfl, ⟨trivial, ⟨trivial, ⟨⟨⟨trivial, ⟨Sub.refl _, trivial⟩⟩, trivial⟩, ((fun h36 => ⟨h36, trivial⟩) h15)⟩⟩⟩⟩⟩⟩⟩⟩⟩⟩⟩⟩⟩⟩⟩⟩⟩⟩⟩⟩) (k14 x15))⟩) k11)⟩⟩⟩) h10)⟩)⟩) h5)⟩⟩⟩) (h4 x5)), (fun x5 => (fun h5 => ⟨trivial, ⟨trivial, ⟨⟨rfl, trivial⟩, (Exists.elim h5 fun x9 h9 => ⟨x9, (And.elim (fun h10 k10 => ⟨⟨⟨trivial, trivial⟩, ⟨trivial, h10⟩⟩, ⟨trivial, ⟨trivial, (And.elim (fun h13 k13 => ⟨(fun x14 => (fun h14 => ⟨trivial, ⟨x14, (Exists.elim h14 fun x17 h17 => ⟨x17, (And.elim (fun h18 k18 => ⟨⟨⟨trivial, trivial⟩, ⟨trivial, h18⟩⟩, ⟨x14, ⟨⟨rfl, trivial⟩, ⟨x14, (And.elim (fun h22 k22 => ⟨(fun x23 => (fun h23 => (fun x24 => (fun h24 => (And.elim (fun h25 k25 => ⟨h25, ((fun h26 => ⟨h26, ⟨rfl, ⟨rfl, trivial⟩⟩⟩) k25)⟩) h24)) (h23 x24))) (h22 x23)), ⟨x14, ⟨trivial, (And.elim (fun h25 k25 => ⟨(fun x26 => (fun h26 => (Exists.elim h26 fun x27 h27 => ⟨x27, (And.elim (fun h28 k28 => ⟨⟨trivial, ⟨trivial, h28⟩⟩, ⟨x26, ⟨trivial, ⟨trivial, ⟨⟨⟨trivial, ⟨Sub.refl _, trivial⟩⟩, trivial⟩, ((fun h33 => ⟨h33, trivial⟩) k28)⟩⟩⟩⟩⟩) h27)⟩)) (h25 x26)), (fun x26 => (fun h26 => ⟨rfl, ⟨x26, ⟨trivial, ⟨trivial, ⟨⟨⟨trivial, ⟨Sub.refl _, trivial⟩⟩, trivial⟩, ((fun h32 => ⟨h32, trivial⟩) h26)⟩⟩⟩⟩⟩) (k25 x26))⟩) k22)⟩⟩⟩) k18)⟩⟩⟩⟩) h17)⟩)⟩⟩) (h13 x14)), (fun x14 => (fun h14 => ⟨rfl, ⟨x14, ⟨rfl, ⟨x14, ⟨rfl, ⟨x14, ⟨rfl, ⟨x14, ⟨trivial, ⟨rfl, ⟨rfl, ⟨rfl, ⟨trivial, ⟨trivial, ⟨⟨⟨trivial, ⟨Sub.refl _, trivial⟩⟩, trivial⟩, ((fun h30 => ⟨h30, trivial⟩) h14)⟩⟩⟩⟩⟩⟩⟩⟩⟩⟩⟩⟩⟩⟩⟩) (k13 x14))⟩) k10)⟩⟩⟩) h9)⟩)⟩⟩⟩) (k4 x5))⟩) h)⟩⟩⟩⟩)
theorem hf7 : Go.Proofs.Try.prog.funcs[7]? = some Go.Proofs.Try.f7 := by kernel_rfl
abbrev s7_e (sf : Nat → Int) (tf : Nat → Int) : List (Nat × AV) := [(0, (.ar 4 1 (fun i0 => (.sc (.int .u64 (sf i0)))))), (1, (.ar 4 1 (fun i0 => (.sc (.int .u64 (tf i0))))))]
abbrev m7_e (sf : Nat → Int) (tf : Nat → Int) : List (Nat × Nat × AV) := []
def L7_e (sf : Nat → Int) (tf : Nat → Int) (res : AV) : Prop := Goes ⟨Go.Proofs.Try.prog, 7, [], res, []⟩ (place Go.Proofs.Try.f7 []) (s7_e sf tf) (m7_e sf tf)
theorem a7_e (sf : Nat → Int) (tf : Nat → Int) (res : AV) (h : (∀ slot, fact (look .undef (s7_e sf tf) slot)) → L7_e sf tf res) : L7_e sf tf res :=
  assumeRule 7 [] Go.Proofs.Try.f7 hf7 [] (s7_e sf tf) (m7_e sf tf) res [] _ (by kernel_rfl) h
abbrev s7_0 (b : Int) (b0f : Nat → Int) (b1f : Nat → Int) (b2f : Nat → Bool) (b3f : Nat → Bool) (b4f : Nat → Bool) (b5f : Nat → Bool) (b6f : Nat → Bool) : List (Nat × AV) := [(2, (.pt 1000 [] 0)), (3, (.pt 1001 [] 0)), (5, (.pt 1002 [] 0)), (6, (.pt 1003 [] 0)), (7, (.pt 1004 [] 0)), (8, (.pt 1005 [] 0)), (9, (.pt 1006 [] 0)), (10, (.sc (.int .i64 b)))]
abbrev m7_0 (b : Int) (b0f : Nat → Int) (b1f : Nat → Int) (b2f : Nat → Bool) (b3f : Nat → Bool) (b4f : Nat → Bool) (b5f : Nat → Bool) (b6f : Nat → Bool) : List (Nat × Nat × AV) := [(1000, 24, (.ar 4 1 (fun i0 => (.sc (.int .u64 (b0f i0)))))), (1001, 24, (.ar 4 1 (fun i0 => (.sc (.int .u64 (b1f i0)))))), (1002, 38, (.ar 256 1 (fun i0 => (.sc (.bool (b2f i0)))))), (1003, 38, (.ar 256 1 (fun i0 => (.sc (.bool (b3f i0)))))), (1004, 38, (.ar 256 1 (fun i0 => (.sc (.bool (b4f i0)))))), (1005, 38, (.ar 256 1 (fun i0 => (.sc (.bool (b5f i0)))))), (1006, 38, (.ar 256 1 (fun i0 => (.sc (.bool (b6f i0))))))]
def L7_0 (b : Int) (b0f : Nat → Int) (b1f : Nat → Int) (b2f : Nat → Bool) (b3f : Nat → Bool) (b4f : Nat → Bool) (b5f : Nat → Bool) (b6f : Nat → Bool) (res : AV) : Prop := Goes ⟨Go.Proofs.Try.prog, 7, [], res, []⟩ (place Go.Proofs.Try.f7 [1, 1, 1, 0, 1, 0, 0]) (s7_0 b b0f b1f b2f b3f b4f b5f b6f) (m7_0 b b0f b1f b2f b3f b4f b5f b6f)
theorem a7_0 (b : Int) (b0f : Nat → Int) (b1f : Nat → Int) (b2f : Nat → Bool) (b3f : Nat → Bool) (b4f : Nat → Bool) (b5f : Nat → Bool) (b6f : Nat → Bool) (res : AV) (h : (∀ slot, fact (look .undef (s7_0 b b0f b1f b2f b3f b4f b5f b6f) slot)) → L7_0 b b0f b1f b2f b3f b4f b5f b6f res) : L7_0 b b0f b1f b2f b3f b4f b5f b6f res :=
  assumeRule 7 [] Go.Proofs.Try.f7 hf7 [1, 1, 1, 0, 1, 0, 0] (s7_0 b b0f b1f b2f b3f b4f b5f b6f) (m7_0 b b0f b1f b2f b3f b4f b5f b6f) res [] _ (by kernel_rfl) h
theorem o7 (sf : Nat → Int) (tf : Nat → Int) (res : AV) (hnew : newOnly res) (h : L7_e sf tf res) : Ok Go.Proofs.Try.prog 7 [(.ar 4 1 (fun i0 => (.sc (.int .u64 (sf i0))))), (.ar 4 1 (fun i0 => (.sc (.int .u64 (tf i0)))))] [] res [] :=
  okRule2 7 Go.Proofs.Try.f7 hf7 [(.ar 4 1 (fun i0 => (.sc (.int .u64 (sf i0))))), (.ar 4 1 (fun i0 => (.sc (.int .u64 (tf i0)))))] [] res [] [] rfl (by kernel_rfl) (by kernel_rfl) (by kernel_rfl) ⟨hnew, by simp⟩ (L7_e sf tf res) (by kernel_rfl) h
theorem r7_e (sf : Nat → Int) (tf : Nat → Int) (res : AV)
    (h : ∃ (r : Nat → Bool),
  Ok Proofs.Try.prog (18 : Nat) [AV.ar (4 : Nat) (1 : Nat) fun (i : Nat) => AV.sc (Value.int IntKind.u64 (sf i))] []
    (AV.ar (256 : Nat) (1 : Nat) fun (i0 : Nat) => AV.sc (Value.bool (r i0))) [] ∧
    ∃ (r_1 : Nat → Bool),
    Ok Proofs.Try.prog (18 : Nat) [AV.ar (4 : Nat) (1 : Nat) fun (i : Nat) => AV.sc (Value.int IntKind.u64 (tf i))] []
    (AV.ar (256 : Nat) (1 : Nat) fun (i0 : Nat) => AV.sc (Value.bool (r_1 i0))) [] ∧
    L7_0 (0 : Int) sf tf r r_1 (fun (x : Nat) => false) (fun (x : Nat) => false) (fun (x : Nat) => false) res) :
    L7_e sf tf res :=
  rule Go.Am.Seat.tabOk 7 [] Go.Proofs.Try.f7 hf7 [] (s7_e sf tf) (m7_e sf tf) res [] 400
    (Orc.call [] [] (fun (r18 : Nat → Bool) => AV.ar (256 : Nat) (1 : Nat) fun (i0 : Nat) => AV.sc (Value.bool (r18 i0))) (fun (r18 : Nat → Bool) => [])
  fun (r18 : Nat → Bool) =>
  Orc.call [] [] (fun (r18 : Nat → Bool) => AV.ar (256 : Nat) (1 : Nat) fun (i0 : Nat) => AV.sc (Value.bool (r18 i0))) (fun (r18 : Nat → Bool) => [])
    fun (r18_1 : Nat → Bool) =>
    Orc.cut (nat_lit 7) (s7_0 (0 : Int) sf tf r18 r18_1 (fun (x : Nat) => false) (fun (x : Nat) => false) fun (x : Nat) => false)
    (m7_0 (0 : Int) sf tf r18 r18_1 (fun (x : Nat) => false) (fun (x : Nat) => false) fun (x : Nat) => false)
    [((1000 : Nat), some (2 : Nat)), ((1001 : Nat), some (3 : Nat)), ((1002 : Nat), some (5 : Nat)), ((1003 : Nat), some (6 : Nat)),
    ((1004 : Nat), some (7 : Nat)), ((1005 : Nat), some (8 : Nat)), ((1006 : Nat), some (9 : Nat))]) _ _ (by kernel_rfl) (by kernel_rfl) (show True ∧
  True ∧
    True ∧
    ((0 : Nat) = (0 : Nat) ∧ True) ∧
    ∃ (r : Nat → Bool),
    ((True ∧ True) ∧
    True ∧
    Ok Proofs.Try.prog (18 : Nat) [AV.ar (4 : Nat) (1 : Nat) fun (i : Nat) => AV.sc (Value.int IntKind.u64 (sf i))] []
    (AV.ar (256 : Nat) (1 : Nat) fun (i0 : Nat) => AV.sc (Value.bool (r i0))) []) ∧
    ((0 : Nat) = (0 : Nat) ∧ True) ∧
    ∃ (r_1 : Nat → Bool),
    ((True ∧ True) ∧
    True ∧
    Ok Proofs.Try.prog (18 : Nat) [AV.ar (4 : Nat) (1 : Nat) fun (i : Nat) => AV.sc (Value.int IntKind.u64 (tf i))] []
    (AV.ar (256 : Nat) (1 : Nat) fun (i0 : Nat) => AV.sc (Value.bool (r_1 i0))) []) ∧
    True ∧
    True ∧
    ((0 : Nat) = (0 : Nat) ∧ True) ∧
    ((0 : Nat) = (0 : Nat) ∧ True) ∧
    True ∧
    True ∧
    True ∧
    True ∧
    ((True ∧
    Sub (AV.pt (1000 : Nat) [] (0 : Nat)) (AV.pt (1000 : Nat) [] (0 : Nat)) ∧
    True ∧
    Sub (AV.pt (1001 : Nat) [] (0 : Nat)) (AV.pt (1001 : Nat) [] (0 : Nat)) ∧
    True ∧
    Sub (AV.pt (1002 : Nat) [] (0 : Nat)) (AV.pt (1002 : Nat) [] (0 : Nat)) ∧
    True ∧
    Sub (AV.pt (1003 : Nat) [] (0 : Nat)) (AV.pt (1003 : Nat) [] (0 : Nat)) ∧
    True ∧
    Sub (AV.pt (1004 : Nat) [] (0 : Nat)) (AV.pt (1004 : Nat) [] (0 : Nat)) ∧
    True ∧
    Sub (AV.pt (1005 : Nat) [] (0 : Nat)) (AV.pt (1005 : Nat) [] (0 : Nat)) ∧
    True ∧
    Sub (AV.pt (1006 : Nat) [] (0 : Nat)) (AV.pt (1006 : Nat) [] (0 : Nat)) ∧
    True ∧
    Sub (AV.sc (Value.int IntKind.i64 (0 : Int))) (AV.sc (Value.int IntKind.i64 (0 : Int))) ∧
    True) ∧
    True ∧
    SubB (AV.ar (4 : Nat) (1 : Nat) fun (i0 : Nat) => AV.sc (Value.int IntKind.u64 (sf i0)))
    (AV.ar (4 : Nat) (1 : Nat) fun (i0 : Nat) => AV.sc (Value.int IntKind.u64 (sf i0))) ∧
    True ∧
    SubB (AV.ar (4 : Nat) (1 : Nat) fun (i0 : Nat) => AV.sc (Value.int IntKind.u64 (tf i0)))
    (AV.ar (4 : Nat) (1 : Nat) fun (i0 : Nat) => AV.sc (Value.int IntKind.u64 (tf i0))) ∧
    True ∧
    SubB (AV.ar (256 : Nat) (1 : Nat) fun (i0 : Nat) => AV.sc (Value.bool (r i0)))
    (AV.ar (256 : Nat) (1 : Nat) fun (i0 : Nat) => AV.sc (Value.bool (r i0))) ∧
    True ∧
    SubB (AV.ar (256 : Nat) (1 : Nat) fun (i0 : Nat) => AV.sc (Value.bool (r_1 i0)))
    (AV.ar (256 : Nat) (1 : Nat) fun (i0 : Nat) => AV.sc (Value.bool (r_1 i0))) ∧
    True ∧
    SubB (AV.ar (256 : Nat) (1 : Nat) fun (x : Nat) => AV.sc (Value.bool false))
    (AV.ar (256 : Nat) (1 : Nat) fun (i0 : Nat) => AV.sc (Value.bool false)) ∧
    True ∧
    SubB (AV.ar (256 : Nat) (1 : Nat) fun (x : Nat) => AV.sc (Value.bool false))
    (AV.ar (256 : Nat) (1 : Nat) fun (i0 : Nat) => AV.sc (Value.bool false)) ∧
    True ∧
    SubB (AV.ar (256 : Nat) (1 : Nat) fun (x : Nat) => AV.sc (Value.bool false))
    (AV.ar (256 : Nat) (1 : Nat) fun (i0 : Nat) => AV.sc (Value.bool false)) ∧
    True) ∧
    L7_0 (0 : Int) sf tf r r_1 (fun (x : Nat) => false) (fun (x : Nat) => false) (fun (x : Nat) => false) res from
    ⟨trivial, ⟨trivial, ⟨trivial, ⟨⟨rfl, trivial⟩, (Exists.elim h fun x4 h4 => ⟨x4, (And.elim (fun h5 k5 => ⟨⟨⟨trivial, trivial⟩, ⟨trivial, h5⟩⟩, ⟨⟨rfl, trivial⟩, (Exists.elim k5 fun x7 h7 => ⟨x7, (And.elim (fun h8 k8 => ⟨⟨⟨trivial, trivial⟩, ⟨trivial, h8⟩⟩, ⟨trivial, ⟨trivial, ⟨⟨rfl, trivial⟩, ⟨⟨rfl, trivial⟩, ⟨trivial, ⟨trivial, ⟨trivial, ⟨trivial, ⟨⟨⟨trivial, ⟨Sub.refl _, ⟨trivial, ⟨Sub.refl _, ⟨trivial, ⟨Sub.refl _, ⟨trivial, ⟨Sub.refl _, ⟨trivial, ⟨Sub.refl _, ⟨trivial, ⟨Sub.refl _, ⟨trivial, ⟨Sub.refl _, ⟨trivial, ⟨Sub.refl _, trivial⟩⟩⟩⟩⟩⟩⟩⟩⟩⟩⟩⟩⟩⟩⟩⟩, ⟨trivial, ⟨SubB.refl _, ⟨trivial, ⟨SubB.refl _, ⟨trivial, ⟨SubB.refl _, ⟨trivial, ⟨SubB.refl _, ⟨trivial, ⟨SubB.refl _, ⟨trivial, ⟨SubB.refl _, ⟨trivial, ⟨SubB.refl _, trivial⟩⟩⟩⟩⟩⟩⟩⟩⟩⟩⟩⟩⟩⟩⟩, k8⟩⟩⟩⟩⟩⟩⟩⟩⟩⟩) h7)⟩)⟩⟩) h4)⟩)⟩⟩⟩⟩)
theorem r7_0 (b : Int) (b0f : Nat → Int) (b1f : Nat → Int) (b2f : Nat → Bool) (b3f : Nat → Bool) (b4f : Nat → Bool) (b5f : Nat → Bool) (b6f : Nat → Bool) (res : AV)
    (h : (decide (b < (256 : Int)) = true →
    ((0 : Int) ≤ b ∧ b < (↑(256 : Nat) : Int)) ∧
    b.toNat < (256 : Nat) ∧
    (b2f b.toNat = false →
    (b2f b.toNat = true →
    L7_0 (IntKind.i64.wrap (b + (1 : Int))) b0f b1f b2f b3f (fun (i : Nat) => bif i.beq b.toNat then b3f b.toNat else b4f i)
    (fun (i : Nat) => bif i.beq b.toNat then b3f b.toNat else b5f i) (fun (i : Nat) => bif i.beq b.toNat then !b2f b.toNat else b6f i) res) ∧
    (b2f b.toNat = !true →
    L7_0 (IntKind.i64.wrap (b + (1 : Int))) b0f b1f b2f b3f (fun (i : Nat) => bif i.beq b.toNat then b3f b.toNat else b4f i)
    (fun (i : Nat) => bif i.beq b.toNat then false else b5f i) (fun (i : Nat) => bif i.beq b.toNat then !b2f b.toNat else b6f i) res)) ∧
    (b2f b.toNat = !false →
    (b2f b.toNat = true →
    L7_0 (IntKind.i64.wrap (b + (1 : Int))) b0f b1f b2f b3f (fun (i : Nat) => bif i.beq b.toNat then true else b4f i)
    (fun (i : Nat) => bif i.beq b.toNat then b3f b.toNat else b5f i) (fun (i : Nat) => bif i.beq b.toNat then !b2f b.toNat else b6f i) res) ∧
    (b2f b.toNat = !true →
    L7_0 (IntKind.i64.wrap (b + (1 : Int))) b0f b1f b2f b3f (fun (i : Nat) => bif i.beq b.toNat then true else b4f i)
    (fun (i : Nat) => bif i.beq b.toNat then false else b5f i) (fun (i : Nat) => bif i.beq b.toNat then !b2f b.toNat else b6f i) res))) ∧
  (decide (b < (256 : Int)) = false →
    ∃ (r : Nat → Int),
    Ok Proofs.Try.prog (23 : Nat)
    [AV.ar (4 : Nat) (1 : Nat) fun (i : Nat) => AV.sc (Value.int IntKind.u64 (b0f i)),
    AV.ar (4 : Nat) (1 : Nat) fun (i : Nat) => AV.sc (Value.int IntKind.u64 (b1f i))]
    [] (AV.ar (4 : Nat) (1 : Nat) fun (i0 : Nat) => AV.sc (Value.int IntKind.u64 (r i0))) [] ∧
    ∃ (r_1 : Nat → Int),
    Ok Proofs.Try.prog (21 : Nat) [AV.ar (256 : Nat) (1 : Nat) fun (i : Nat) => AV.sc (Value.bool (b4f i))] []
    (AV.ar (4 : Nat) (1 : Nat) fun (i0 : Nat) => AV.sc (Value.int IntKind.u64 (r_1 i0))) [] ∧
    (∀ (i : Nat), i < (4 : Nat) → (AV.sc (Value.int IntKind.u64 (r i))).sz = (1 : Nat) ∧ (AV.sc (Value.int IntKind.u64 (r_1 i))).sz = (1 : Nat)) ∧
    (cdec (∀ (i : Nat), i < (4 : Nat) → r i = r_1 i) = true →
    ∃ (r : Nat → Int),
    Ok Proofs.Try.prog (24 : Nat)
    [AV.ar (4 : Nat) (1 : Nat) fun (i : Nat) => AV.sc (Value.int IntKind.u64 (b0f i)),
    AV.ar (4 : Nat) (1 : Nat) fun (i : Nat) => AV.sc (Value.int IntKind.u64 (b1f i))]
    [] (AV.ar (4 : Nat) (1 : Nat) fun (i0 : Nat) => AV.sc (Value.int IntKind.u64 (r i0))) [] ∧
    ∃ (r_2 : Nat → Int),
    Ok Proofs.Try.prog (21 : Nat) [AV.ar (256 : Nat) (1 : Nat) fun (i : Nat) => AV.sc (Value.bool (b5f i))] []
    (AV.ar (4 : Nat) (1 : Nat) fun (i0 : Nat) => AV.sc (Value.int IntKind.u64 (r_2 i0))) [] ∧
    (∀ (i : Nat),
    i < (4 : Nat) → (AV.sc (Value.int IntKind.u64 (r i))).sz = (1 : Nat) ∧ (AV.sc (Value.int IntKind.u64 (r_2 i))).sz = (1 : Nat)) ∧
    (cdec (∀ (i : Nat), i < (4 : Nat) → r i = r_2 i) = true →
    ∃ (r : Nat → Int),
    Ok Proofs.Try.prog (25 : Nat) [AV.ar (4 : Nat) (1 : Nat) fun (i : Nat) => AV.sc (Value.int IntKind.u64 (b0f i))] []
    (AV.ar (4 : Nat) (1 : Nat) fun (i0 : Nat) => AV.sc (Value.int IntKind.u64 (r i0))) [] ∧
    ∃ (r_3 : Nat → Int),
    Ok Proofs.Try.prog (21 : Nat) [AV.ar (256 : Nat) (1 : Nat) fun (i : Nat) => AV.sc (Value.bool (b6f i))] []
    (AV.ar (4 : Nat) (1 : Nat) fun (i0 : Nat) => AV.sc (Value.int IntKind.u64 (r_3 i0))) [] ∧
    (∀ (i : Nat),
    i < (4 : Nat) →
    (AV.sc (Value.int IntKind.u64 (r i))).sz = (1 : Nat) ∧ (AV.sc (Value.int IntKind.u64 (r_3 i))).sz = (1 : Nat)) ∧
    (cdec (∀ (i : Nat), i < (4 : Nat) → r i = r_3 i) = true →
    ∃ (r : Bool), Ok Proofs.Try.prog (12 : Nat) [] [] (AV.sc (Value.bool r)) [] ∧ Sub (AV.sc (Value.bool r)) res) ∧
    (cdec (∀ (i : Nat), i < (4 : Nat) → r i = r_3 i) = !true → Sub (AV.sc (Value.bool false)) res)) ∧
    (cdec (∀ (i : Nat), i < (4 : Nat) → r i = r_2 i) = !true → Sub (AV.sc (Value.bool false)) res)) ∧
    (cdec (∀ (i : Nat), i < (4 : Nat) → r i = r_1 i) = !true → Sub (AV.sc (Value.bool false)) res))) :
    L7_0 b b0f b1f b2f b3f b4f b5f b6f res :=
  rule Go.Am.Seat.tabOk 7 [] Go.Proofs.Try.f7 hf7 [1, 1, 1, 0, 1, 0, 0] (s7_0 b b0f b1f b2f b3f b4f b5f b6f) (m7_0 b b0f b1f b2f b3f b4f b5f b6f) res [] 400
    ((((Orc.cut (nat_lit 4)
    (s7_0 (IntKind.i64.wrap (b + (1 : Int))) b0f b1f b2f b3f
    (fun (i : Nat) => bif i.beq b.toNat then bif false then true else b3f b.toNat else b4f i)
    (fun (i : Nat) => bif i.beq b.toNat then bif true then b3f b.toNat else false else b5f i) fun (i : Nat) =>
    bif i.beq b.toNat then !b2f b.toNat else b6f i)
    (m7_0 (IntKind.i64.wrap (b + (1 : Int))) b0f b1f b2f b3f
    (fun (i : Nat) => bif i.beq b.toNat then bif false then true else b3f b.toNat else b4f i)
    (fun (i : Nat) => bif i.beq b.toNat then bif true then b3f b.toNat else false else b5f i) fun (i : Nat) =>
    bif i.beq b.toNat then !b2f b.toNat else b6f i)
    [((1000 : Nat), some (1000 : Nat)), ((1001 : Nat), some (1001 : Nat)), ((1002 : Nat), some (1002 : Nat)),
    ((1003 : Nat), some (1003 : Nat)), ((1004 : Nat), some (1004 : Nat)), ((1005 : Nat), some (1005 : Nat)),
    ((1006 : Nat), some (1006 : Nat))]).yes.yes.br
    (Orc.cut (nat_lit 4)
    (s7_0 (IntKind.i64.wrap (b + (1 : Int))) b0f b1f b2f b3f
    (fun (i : Nat) => bif i.beq b.toNat then bif false then true else b3f b.toNat else b4f i)
    (fun (i : Nat) => bif i.beq b.toNat then false else b5f i) fun (i : Nat) => bif i.beq b.toNat then !b2f b.toNat else b6f i)
    (m7_0 (IntKind.i64.wrap (b + (1 : Int))) b0f b1f b2f b3f
    (fun (i : Nat) => bif i.beq b.toNat then bif false then true else b3f b.toNat else b4f i)
    (fun (i : Nat) => bif i.beq b.toNat then false else b5f i) fun (i : Nat) => bif i.beq b.toNat then !b2f b.toNat else b6f i)
    [((1000 : Nat), some (1000 : Nat)), ((1001 : Nat), some (1001 : Nat)), ((1002 : Nat), some (1002 : Nat)), ((1003 : Nat), some (1003 : Nat)),
    ((1004 : Nat), some (1004 : Nat)), ((1005 : Nat), some (1005 : Nat)), ((1006 : Nat), some (1006 : Nat))]).no.no).yes.yes.br
    ((Orc.cut (nat_lit 4)
    (s7_0 (IntKind.i64.wrap (b + (1 : Int))) b0f b1f b2f b3f (fun (i : Nat) => bif i.beq b.toNat then true else b4f i)
    (fun (i : Nat) => bif i.beq b.toNat then bif true then b3f b.toNat else false else b5f i) fun (i : Nat) =>
    bif i.beq b.toNat then !b2f b.toNat else b6f i)
    (m7_0 (IntKind.i64.wrap (b + (1 : Int))) b0f b1f b2f b3f (fun (i : Nat) => bif i.beq b.toNat then true else b4f i)
    (fun (i : Nat) => bif i.beq b.toNat then bif true then b3f b.toNat else false else b5f i) fun (i : Nat) =>
    bif i.beq b.toNat then !b2f b.toNat else b6f i)
    [((1000 : Nat), some (1000 : Nat)), ((1001 : Nat), some (1001 : Nat)), ((1002 : Nat), some (1002 : Nat)), ((1003 : Nat), some (1003 : Nat)),
    ((1004 : Nat), some (1004 : Nat)), ((1005 : Nat), some (1005 : Nat)), ((1006 : Nat), some (1006 : Nat))]).yes.yes.br
    (Orc.cut (nat_lit 4)
    (s7_0 (IntKind.i64.wrap (b + (1 : Int))) b0f b1f b2f b3f (fun (i : Nat) => bif i.beq b.toNat then true else b4f i)
    (fun (i : Nat) => bif i.beq b.toNat then false else b5f i) fun (i : Nat) => bif i.beq b.toNat then !b2f b.toNat else b6f i)
    (m7_0 (IntKind.i64.wrap (b + (1 : Int))) b0f b1f b2f b3f (fun (i : Nat) => bif i.beq b.toNat then true else b4f i)
    (fun (i : Nat) => bif i.beq b.toNat then false else b5f i) fun (i : Nat) => bif i.beq b.toNat then !b2f b.toNat else b6f i)
    [((1000 : Nat), some (1000 : Nat)), ((1001 : Nat), some (1001 : Nat)), ((1002 : Nat), some (1002 : Nat)), ((1003 : Nat), some (1003 : Nat)),
    ((1004 : Nat), some (1004 : Nat)), ((1005 : Nat), some (1005 : Nat)), ((1006 : Nat), some (1006 : Nat))]).no.no).no.no).br
  (Orc.call [] [] (fun (r23 : Nat → Int) => AV.ar (4 : Nat) (1 : Nat) fun (i0 : Nat) => AV.sc (Value.int IntKind.u64 (r23 i0))) (fun (r23 : Nat → Int) => [])
    fun (r23 : Nat → Int) =>
    Orc.call [] [] (fun (r21 : Nat → Int) => AV.ar (4 : Nat) (1 : Nat) fun (i0 : Nat) => AV.sc (Value.int IntKind.u64 (r21 i0))) (fun (r21 : Nat → Int) => [])
    fun (r21 : Nat → Int) =>
    (Orc.call [] [] (fun (r24 : Nat → Int) => AV.ar (4 : Nat) (1 : Nat) fun (i0 : Nat) => AV.sc (Value.int IntKind.u64 (r24 i0)))
    (fun (r24 : Nat → Int) => []) fun (r24 : Nat → Int) =>
    (Orc.call [] [] (fun (r21 : Nat → Int) => AV.ar (4 : Nat) (1 : Nat) fun (i0 : Nat) => AV.sc (Value.int IntKind.u64 (r21 i0)))
    (fun (r21 : Nat → Int) => []) fun (r21 : Nat → Int) =>
    (Orc.ch Ch.none
    (Orc.ch (Ch.p true)
    ((Orc.call [] [] (fun (r25 : Nat → Int) => AV.ar (4 : Nat) (1 : Nat) fun (i0 : Nat) => AV.sc (Value.int IntKind.u64 (r25 i0)))
    (fun (r25 : Nat → Int) => []) fun (r25 : Nat → Int) =>
    (Orc.call [] []
    (fun (r21 : Nat → Int) => AV.ar (4 : Nat) (1 : Nat) fun (i0 : Nat) => AV.sc (Value.int IntKind.u64 (r21 i0)))
    (fun (r21 : Nat → Int) => []) fun (r21 : Nat → Int) =>
    (Orc.ch Ch.none
    (Orc.ch (Ch.p true)
    ((Orc.call [] [] (fun (r12 : Bool) => AV.sc (Value.bool r12)) (fun (r12 : Bool) => []) fun (r12 : Bool) =>
    Orc.ch (Ch.p true) (Orc.fin (AV.sc (Value.bool r12)) [] [])).br
    (Orc.ch (Ch.p false) (Orc.fin (AV.sc (Value.bool false)) [] []))))).yes).yes.yes).yes.br
    (Orc.ch (Ch.p false) (Orc.ch (Ch.p false) (Orc.fin (AV.sc (Value.bool false)) [] [])).no).no.no.no.no))).yes).yes.yes).yes.yes.br
    (Orc.ch (Ch.p false) (Orc.ch (Ch.p false) (Orc.ch (Ch.p false) (Orc.fin (AV.sc (Value.bool false)) [] [])).no).no.no.no.no.no).no.no.no.no.no)) _ _ (by kernel_rfl) (by kernel_rfl) (show True ∧
  True ∧
    (decide (b < (256 : Int)) = true →
    True ∧
    True ∧
    ((0 : Int) ≤ b ∧ b < (↑(256 : Nat) : Int)) ∧
    (b.toNat * (1 : Nat) + (0 : Nat) = plus (0 : Nat) (b.toNat * (1 : Nat)) ∧ b.toNat < (256 : Nat) ∧ True) ∧
    True ∧
    (b2f b.toNat = false →
    True ∧
    false = false ∧
    ((0 : Int) ≤ b ∧ b < (↑(256 : Nat) : Int)) ∧
    false = false ∧
    (b.toNat * (1 : Nat) + (0 : Nat) = plus (0 : Nat) (b.toNat * (1 : Nat)) ∧ b.toNat < (256 : Nat) ∧ True) ∧
    True ∧
    ((0 : Int) ≤ b ∧ b < (↑(256 : Nat) : Int)) ∧
    (b.toNat * (1 : Nat) + (0 : Nat) = plus (0 : Nat) (b.toNat * (1 : Nat)) ∧ (b.toNat < (256 : Nat) ∧ True) ∧ True) ∧
    True ∧
    True ∧
    ((0 : Int) ≤ b ∧ b < (↑(256 : Nat) : Int)) ∧
    (b.toNat * (1 : Nat) + (0 : Nat) = plus (0 : Nat) (b.toNat * (1 : Nat)) ∧ b.toNat < (256 : Nat) ∧ True) ∧
    True ∧
    (b2f b.toNat = true →
    True ∧
    true = true ∧
    ((0 : Int) ≤ b ∧ b < (↑(256 : Nat) : Int)) ∧
    true = true ∧
    (b.toNat * (1 : Nat) + (0 : Nat) = plus (0 : Nat) (b.toNat * (1 : Nat)) ∧
    b.toNat < (256 : Nat) ∧ True) ∧
    True ∧
    ((0 : Int) ≤ b ∧ b < (↑(256 : Nat) : Int)) ∧
    (b.toNat * (1 : Nat) + (0 : Nat) = plus (0 : Nat) (b.toNat * (1 : Nat)) ∧
    (b.toNat < (256 : Nat) ∧ True) ∧ True) ∧
    True ∧
    True ∧
    ((0 : Int) ≤ b ∧ b < (↑(256 : Nat) : Int)) ∧
    (b.toNat * (1 : Nat) + (0 : Nat) = plus (0 : Nat) (b.toNat * (1 : Nat)) ∧
    b.toNat < (256 : Nat) ∧ True) ∧
    True ∧
    ((0 : Int) ≤ b ∧ b < (↑(256 : Nat) : Int)) ∧
    (b.toNat * (1 : Nat) + (0 : Nat) = plus (0 : Nat) (b.toNat * (1 : Nat)) ∧
    (b.toNat < (256 : Nat) ∧ True) ∧ True) ∧
    True ∧
    True ∧
    True ∧
    ((True ∧
    Sub (AV.pt (1000 : Nat) [] (0 : Nat))
    (AV.pt (1000 : Nat) [] (0 : Nat)) ∧
    True ∧
    Sub (AV.pt (1001 : Nat) [] (0 : Nat))
    (AV.pt (1001 : Nat) [] (0 : Nat)) ∧
    True ∧
    Sub (AV.pt (1002 : Nat) [] (0 : Nat))
    (AV.pt (1002 : Nat) [] (0 : Nat)) ∧
    True ∧
    Sub (AV.pt (1003 : Nat) [] (0 : Nat))
    (AV.pt (1003 : Nat) [] (0 : Nat)) ∧
    True ∧
    Sub (AV.pt (1004 : Nat) [] (0 : Nat))
    (AV.pt (1004 : Nat) [] (0 : Nat)) ∧
    True ∧
    Sub (AV.pt (1005 : Nat) [] (0 : Nat))
    (AV.pt (1005 : Nat) [] (0 : Nat)) ∧
    True ∧
    Sub (AV.pt (1006 : Nat) [] (0 : Nat))
    (AV.pt (1006 : Nat) [] (0 : Nat)) ∧
    True ∧
    Sub
    (AV.sc
    (Value.int IntKind.i64
    (IntKind.i64.wrap
    (b + (1 : Int)))))
    (AV.sc
    (Value.int IntKind.i64
    (IntKind.i64.wrap
    (b + (1 : Int))))) ∧
    True) ∧
    True ∧
    SubB
    (AV.ar (4 : Nat) (1 : Nat) fun (i0 : Nat) =>
    AV.sc (Value.int IntKind.u64 (b0f i0)))
    (AV.ar (4 : Nat) (1 : Nat) fun (i0 : Nat) =>
    AV.sc (Value.int IntKind.u64 (b0f i0))) ∧
    True ∧
    SubB
    (AV.ar (4 : Nat) (1 : Nat) fun (i0 : Nat) =>
    AV.sc (Value.int IntKind.u64 (b1f i0)))
    (AV.ar (4 : Nat) (1 : Nat) fun (i0 : Nat) =>
    AV.sc (Value.int IntKind.u64 (b1f i0))) ∧
    True ∧
    SubB
    (AV.ar (256 : Nat) (1 : Nat) fun (i0 : Nat) =>
    AV.sc (Value.bool (b2f i0)))
    (AV.ar (256 : Nat) (1 : Nat) fun (i0 : Nat) =>
    AV.sc (Value.bool (b2f i0))) ∧
    True ∧
    SubB
    (AV.ar (256 : Nat) (1 : Nat) fun (i0 : Nat) =>
    AV.sc (Value.bool (b3f i0)))
    (AV.ar (256 : Nat) (1 : Nat) fun (i0 : Nat) =>
    AV.sc (Value.bool (b3f i0))) ∧
    True ∧
    SubB
    (AV.ar (256 : Nat) (1 : Nat) fun (i : Nat) =>
    AV.sc
    (Value.bool
    (bif i.beq b.toNat then b3f b.toNat
    else b4f i)))
    (AV.ar (256 : Nat) (1 : Nat) fun (i0 : Nat) =>
    AV.sc
    (Value.bool
    (bif i0.beq b.toNat then b3f b.toNat
    else b4f i0))) ∧
    True ∧
    SubB
    (AV.ar (256 : Nat) (1 : Nat)
    fun (i : Nat) =>
    AV.sc
    (Value.bool
    (bif i.beq b.toNat then b3f b.toNat
    else b5f i)))
    (AV.ar (256 : Nat) (1 : Nat)
    fun (i0 : Nat) =>
    AV.sc
    (Value.bool
    (bif i0.beq b.toNat then b3f b.toNat
    else b5f i0))) ∧
    True ∧
    SubB
    (AV.ar (256 : Nat) (1 : Nat)
    fun (i : Nat) =>
    AV.sc
    (Value.bool
    (bif i.beq b.toNat then
    !b2f b.toNat
    else b6f i)))
    (AV.ar (256 : Nat) (1 : Nat)
    fun (i0 : Nat) =>
    AV.sc
    (Value.bool
    (bif i0.beq b.toNat then
    !b2f b.toNat
    else b6f i0))) ∧
    True) ∧
    L7_0 (IntKind.i64.wrap (b + (1 : Int))) b0f b1f b2f b3f
    (fun (i : Nat) => bif i.beq b.toNat then b3f b.toNat else b4f i)
    (fun (i : Nat) => bif i.beq b.toNat then b3f b.toNat else b5f i)
    (fun (i : Nat) => bif i.beq b.toNat then !b2f b.toNat else b6f i)
    res) ∧
    (b2f b.toNat = !true →
    true = true ∧
    (!true) = !true ∧
    true = true ∧
    (!true) = !true ∧
    true = true ∧
    True ∧
    ((0 : Int) ≤ b ∧ b < (↑(256 : Nat) : Int)) ∧
    (b.toNat * (1 : Nat) + (0 : Nat) = plus (0 : Nat) (b.toNat * (1 : Nat)) ∧
    (b.toNat < (256 : Nat) ∧ True) ∧ True) ∧
    True ∧
    True ∧
    ((0 : Int) ≤ b ∧ b < (↑(256 : Nat) : Int)) ∧
    (b.toNat * (1 : Nat) + (0 : Nat) = plus (0 : Nat) (b.toNat * (1 : Nat)) ∧
    b.toNat < (256 : Nat) ∧ True) ∧
    True ∧
    ((0 : Int) ≤ b ∧ b < (↑(256 : Nat) : Int)) ∧
    (b.toNat * (1 : Nat) + (0 : Nat) = plus (0 : Nat) (b.toNat * (1 : Nat)) ∧
    (b.toNat < (256 : Nat) ∧ True) ∧ True) ∧
    True ∧
    True ∧
    True ∧
    ((True ∧
    Sub (AV.pt (1000 : Nat) [] (0 : Nat))
    (AV.pt (1000 : Nat) [] (0 : Nat)) ∧
    True ∧
    Sub (AV.pt (1001 : Nat) [] (0 : Nat))
    (AV.pt (1001 : Nat) [] (0 : Nat)) ∧
    True ∧
    Sub (AV.pt (1002 : Nat) [] (0 : Nat))
    (AV.pt (1002 : Nat) [] (0 : Nat)) ∧
    True ∧
    Sub (AV.pt (1003 : Nat) [] (0 : Nat))
    (AV.pt (1003 : Nat) [] (0 : Nat)) ∧
    True ∧
    Sub (AV.pt (1004 : Nat) [] (0 : Nat))
    (AV.pt (1004 : Nat) [] (0 : Nat)) ∧
    True ∧
    Sub (AV.pt (1005 : Nat) [] (0 : Nat))
    (AV.pt (1005 : Nat) [] (0 : Nat)) ∧
    True ∧
    Sub (AV.pt (1006 : Nat) [] (0 : Nat))
    (AV.pt (1006 : Nat) [] (0 : Nat)) ∧
    True ∧
    Sub
    (AV.sc
    (Value.int IntKind.i64
    (IntKind.i64.wrap
    (b + (1 : Int)))))
    (AV.sc
    (Value.int IntKind.i64
    (IntKind.i64.wrap
    (b + (1 : Int))))) ∧
    True) ∧
    True ∧
    SubB
    (AV.ar (4 : Nat) (1 : Nat) fun (i0 : Nat) =>
    AV.sc (Value.int IntKind.u64 (b0f i0)))
    (AV.ar (4 : Nat) (1 : Nat) fun (i0 : Nat) =>
    AV.sc (Value.int IntKind.u64 (b0f i0))) ∧
    True ∧
    SubB
    (AV.ar (4 : Nat) (1 : Nat) fun (i0 : Nat) =>
    AV.sc (Value.int IntKind.u64 (b1f i0)))
    (AV.ar (4 : Nat) (1 : Nat) fun (i0 : Nat) =>
    AV.sc (Value.int IntKind.u64 (b1f i0))) ∧
    True ∧
    SubB
    (AV.ar (256 : Nat) (1 : Nat) fun (i0 : Nat) =>
    AV.sc (Value.bool (b2f i0)))
    (AV.ar (256 : Nat) (1 : Nat) fun (i0 : Nat) =>
    AV.sc (Value.bool (b2f i0))) ∧
    True ∧
    SubB
    (AV.ar (256 : Nat) (1 : Nat) fun (i0 : Nat) =>
    AV.sc (Value.bool (b3f i0)))
    (AV.ar (256 : Nat) (1 : Nat) fun (i0 : Nat) =>
    AV.sc (Value.bool (b3f i0))) ∧
    True ∧
    SubB
    (AV.ar (256 : Nat) (1 : Nat) fun (i : Nat) =>
    AV.sc
    (Value.bool
    (bif i.beq b.toNat then b3f b.toNat
    else b4f i)))
    (AV.ar (256 : Nat) (1 : Nat) fun (i0 : Nat) =>
    AV.sc
    (Value.bool
    (bif i0.beq b.toNat then b3f b.toNat
    else b4f i0))) ∧
    True ∧
    SubB
    (AV.ar (256 : Nat) (1 : Nat)
    fun (i : Nat) =>
    AV.sc
    (Value.bool
    (bif i.beq b.toNat then false
    else b5f i)))
    (AV.ar (256 : Nat) (1 : Nat)
    fun (i0 : Nat) =>
    AV.sc
    (Value.bool
    (bif i0.beq b.toNat then false
    else b5f i0))) ∧
    True ∧
    SubB
    (AV.ar (256 : Nat) (1 : Nat)
    fun (i : Nat) =>
    AV.sc
    (Value.bool
    (bif i.beq b.toNat then
    !b2f b.toNat
    else b6f i)))
    (AV.ar (256 : Nat) (1 : Nat)
    fun (i0 : Nat) =>
    AV.sc
    (Value.bool
    (bif i0.beq b.toNat then
    !b2f b.toNat
    else b6f i0))) ∧
    True) ∧
    L7_0 (IntKind.i64.wrap (b + (1 : Int))) b0f b1f b2f b3f
    (fun (i : Nat) => bif i.beq b.toNat then b3f b.toNat else b4f i)
    (fun (i : Nat) => bif i.beq b.toNat then false else b5f i)
    (fun (i : Nat) => bif i.beq b.toNat then !b2f b.toNat else b6f i)
    res)) ∧
    (b2f b.toNat = !false →
    true = true ∧
    (!false) = !false ∧
    true = true ∧
    (!false) = !false ∧
    true = true ∧
    True ∧
    ((0 : Int) ≤ b ∧ b < (↑(256 : Nat) : Int)) ∧
    (b.toNat * (1 : Nat) + (0 : Nat) = plus (0 : Nat) (b.toNat * (1 : Nat)) ∧ (b.toNat < (256 : Nat) ∧ True) ∧ True) ∧
    True ∧
    True ∧
    ((0 : Int) ≤ b ∧ b < (↑(256 : Nat) : Int)) ∧
    (b.toNat * (1 : Nat) + (0 : Nat) = plus (0 : Nat) (b.toNat * (1 : Nat)) ∧ b.toNat < (256 : Nat) ∧ True) ∧
    True ∧
    (b2f b.toNat = true →
    True ∧
    true = true ∧
    ((0 : Int) ≤ b ∧ b < (↑(256 : Nat) : Int)) ∧
    true = true ∧
    (b.toNat * (1 : Nat) + (0 : Nat) = plus (0 : Nat) (b.toNat * (1 : Nat)) ∧
    b.toNat < (256 : Nat) ∧ True) ∧
    True ∧
    ((0 : Int) ≤ b ∧ b < (↑(256 : Nat) : Int)) ∧
    (b.toNat * (1 : Nat) + (0 : Nat) = plus (0 : Nat) (b.toNat * (1 : Nat)) ∧
    (b.toNat < (256 : Nat) ∧ True) ∧ True) ∧
    True ∧
    True ∧
    ((0 : Int) ≤ b ∧ b < (↑(256 : Nat) : Int)) ∧
    (b.toNat * (1 : Nat) + (0 : Nat) = plus (0 : Nat) (b.toNat * (1 : Nat)) ∧
    b.toNat < (256 : Nat) ∧ True) ∧
    True ∧
    ((0 : Int) ≤ b ∧ b < (↑(256 : Nat) : Int)) ∧
    (b.toNat * (1 : Nat) + (0 : Nat) = plus (0 : Nat) (b.toNat * (1 : Nat)) ∧
    (b.toNat < (256 : Nat) ∧ True) ∧ True) ∧
    True ∧
    True ∧
    True ∧
    ((True ∧
    Sub (AV.pt (1000 : Nat) [] (0 : Nat))
    (AV.pt (1000 : Nat) [] (0 : Nat)) ∧
    True ∧
    Sub (AV.pt (1001 : Nat) [] (0 : Nat))
    (AV.pt (1001 : Nat) [] (0 : Nat)) ∧
    True ∧
    Sub (AV.pt (1002 : Nat) [] (0 : Nat))
    (AV.pt (1002 : Nat) [] (0 : Nat)) ∧
    True ∧
    Sub (AV.pt (1003 : Nat) [] (0 : Nat))
    (AV.pt (1003 : Nat) [] (0 : Nat)) ∧
    True ∧
    Sub (AV.pt (1004 : Nat) [] (0 : Nat))
    (AV.pt (1004 : Nat) [] (0 : Nat)) ∧
    True ∧
    Sub (AV.pt (1005 : Nat) [] (0 : Nat))
    (AV.pt (1005 : Nat) [] (0 : Nat)) ∧
    True ∧
    Sub (AV.pt (1006 : Nat) [] (0 : Nat))
    (AV.pt (1006 : Nat) [] (0 : Nat)) ∧
    True ∧
    Sub
    (AV.sc
    (Value.int IntKind.i64
    (IntKind.i64.wrap
    (b + (1 : Int)))))
    (AV.sc
    (Value.int IntKind.i64
    (IntKind.i64.wrap
    (b + (1 : Int))))) ∧
    True) ∧
    True ∧
    SubB
    (AV.ar (4 : Nat) (1 : Nat) fun (i0 : Nat) =>
    AV.sc (Value.int IntKind.u64 (b0f i0)))
    (AV.ar (4 : Nat) (1 : Nat) fun (i0 : Nat) =>
    AV.sc (Value.int IntKind.u64 (b0f i0))) ∧
    True ∧
    SubB
    (AV.ar (4 : Nat) (1 : Nat) fun (i0 : Nat) =>
    AV.sc (Value.int IntKind.u64 (b1f i0)))
    (AV.ar (4 : Nat) (1 : Nat) fun (i0 : Nat) =>
    AV.sc (Value.int IntKind.u64 (b1f i0))) ∧
    True ∧
    SubB
    (AV.ar (256 : Nat) (1 : Nat) fun (i0 : Nat) =>
    AV.sc (Value.bool (b2f i0)))
    (AV.ar (256 : Nat) (1 : Nat) fun (i0 : Nat) =>
    AV.sc (Value.bool (b2f i0))) ∧
    True ∧
    SubB
    (AV.ar (256 : Nat) (1 : Nat) fun (i0 : Nat) =>
    AV.sc (Value.bool (b3f i0)))
    (AV.ar (256 : Nat) (1 : Nat) fun (i0 : Nat) =>
    AV.sc (Value.bool (b3f i0))) ∧
    True ∧
    SubB
    (AV.ar (256 : Nat) (1 : Nat) fun (i : Nat) =>
    AV.sc
    (Value.bool
    (bif i.beq b.toNat then true
    else b4f i)))
    (AV.ar (256 : Nat) (1 : Nat) fun (i0 : Nat) =>
    AV.sc
    (Value.bool
    (bif i0.beq b.toNat then true
    else b4f i0))) ∧
    True ∧
    SubB
    (AV.ar (256 : Nat) (1 : Nat)
    fun (i : Nat) =>
    AV.sc
    (Value.bool
    (bif i.beq b.toNat then b3f b.toNat
    else b5f i)))
    (AV.ar (256 : Nat) (1 : Nat)
    fun (i0 : Nat) =>
    AV.sc
    (Value.bool
    (bif i0.beq b.toNat then b3f b.toNat
    else b5f i0))) ∧
    True ∧
    SubB
    (AV.ar (256 : Nat) (1 : Nat)
    fun (i : Nat) =>
    AV.sc
    (Value.bool
    (bif i.beq b.toNat then
    !b2f b.toNat
    else b6f i)))
    (AV.ar (256 : Nat) (1 : Nat)
    fun (i0 : Nat) =>
    AV.sc
    (Value.bool
    (bif i0.beq b.toNat then
    !b2f b.toNat
    else b6f i0))) ∧
    True) ∧
    L7_0 (IntKind.i64.wrap (b + (1 : Int))) b0f b1f b2f b3f
    (fun (i : Nat) => bif i.beq b.toNat then true else b4f i)
    (fun (i : Nat) => bif i.beq b.toNat then b3f b.toNat else b5f i)
    (fun (i : Nat) => bif i.beq b.toNat then !b2f b.toNat else b6f i)
    res) ∧
    (b2f b.toNat = !true →
    true = true ∧
    (!true) = !true ∧
    true = true ∧
    (!true) = !true ∧
    true = true ∧
    True ∧
    ((0 : Int) ≤ b ∧ b < (↑(256 : Nat) : Int)) ∧
    (b.toNat * (1 : Nat) + (0 : Nat) = plus (0 : Nat) (b.toNat * (1 : Nat)) ∧
    (b.toNat < (256 : Nat) ∧ True) ∧ True) ∧
    True ∧
    True ∧
    ((0 : Int) ≤ b ∧ b < (↑(256 : Nat) : Int)) ∧
    (b.toNat * (1 : Nat) + (0 : Nat) = plus (0 : Nat) (b.toNat * (1 : Nat)) ∧
    b.toNat < (256 : Nat) ∧ True) ∧
    True ∧
    ((0 : Int) ≤ b ∧ b < (↑(256 : Nat) : Int)) ∧
    (b.toNat * (1 : Nat) + (0 : Nat) = plus (0 : Nat) (b.toNat * (1 : Nat)) ∧
    (b.toNat < (256 : Nat) ∧ True) ∧ True) ∧
    True ∧
    True ∧
    True ∧
    ((True ∧
    Sub (AV.pt (1000 : Nat) [] (0 : Nat))
    (AV.pt (1000 : Nat) [] (0 : Nat)) ∧
    True ∧
    Sub (AV.pt (1001 : Nat) [] (0 : Nat))
    (AV.pt (1001 : Nat) [] (0 : Nat)) ∧
    True ∧
    Sub (AV.pt (1002 : Nat) [] (0 : Nat))
    (AV.pt (1002 : Nat) [] (0 : Nat)) ∧
    True ∧
    Sub (AV.pt (1003 : Nat) [] (0 : Nat))
    (AV.pt (1003 : Nat) [] (0 : Nat)) ∧
    True ∧
    Sub (AV.pt (1004 : Nat) [] (0 : Nat))
    (AV.pt (1004 : Nat) [] (0 : Nat)) ∧
    True ∧
    Sub (AV.pt (1005 : Nat) [] (0 : Nat))
    (AV.pt (1005 : Nat) [] (0 : Nat)) ∧
    True ∧
    Sub (AV.pt (1006 : Nat) [] (0 : Nat))
    (AV.pt (1006 : Nat) [] (0 : Nat)) ∧
    True ∧
    Sub
    (AV.sc
    (Value.int IntKind.i64
    (IntKind.i64.wrap
    (b + (1 : Int)))))
    (AV.sc
    (Value.int IntKind.i64
    (IntKind.i64.wrap
    (b + (1 : Int))))) ∧
    True) ∧
    True ∧
    SubB
    (AV.ar (4 : Nat) (1 : Nat) fun (i0 : Nat) =>
    AV.sc (Value.int IntKind.u64 (b0f i0)))
    (AV.ar (4 : Nat) (1 : Nat) fun (i0 : Nat) =>
    AV.sc (Value.int IntKind.u64 (b0f i0))) ∧
    True ∧
    SubB
    (AV.ar (4 : Nat) (1 : Nat) fun (i0 : Nat) =>
    AV.sc (Value.int IntKind.u64 (b1f i0)))
    (AV.ar (4 : Nat) (1 : Nat) fun (i0 : Nat) =>
    AV.sc (Value.int IntKind.u64 (b1f i0))) ∧
    True ∧
    SubB
    (AV.ar (256 : Nat) (1 : Nat) fun (i0 : Nat) =>
    AV.sc (Value.bool (b2f i0)))
    (AV.ar (256 : Nat) (1 : Nat) fun (i0 : Nat) =>
    AV.sc (Value.bool (b2f i0))) ∧
    True ∧
    SubB
    (AV.ar (256 : Nat) (1 : Nat) fun (i0 : Nat) =>
    AV.sc (Value.bool (b3f i0)))
    (AV.ar (256 : Nat) (1 : Nat) fun (i0 : Nat) =>
    AV.sc (Value.bool (b3f i0))) ∧
    True ∧
    SubB
    (AV.ar (256 : Nat) (1 : Nat) fun (i : Nat) =>
    AV.sc
    (Value.bool
    (bif i.beq b.toNat then true
    else b4f i)))
    (AV.ar (256 : Nat) (1 : Nat) fun (i0 : Nat) =>
    AV.sc
    (Value.bool
    (bif i0.beq b.toNat then true
    else b4f i0))) ∧
    True ∧
    SubB
    (AV.ar (256 : Nat) (1 : Nat)
    fun (i : Nat) =>
    AV.sc
    (Value.bool
    (bif i.beq b.toNat then false
    else b5f i)))
    (AV.ar (256 : Nat) (1 : Nat)
    fun (i0 : Nat) =>
    AV.sc
    (Value.bool
    (bif i0.beq b.toNat then false
    else b5f i0))) ∧
    True ∧
    SubB
    (AV.ar (256 : Nat) (1 : Nat)
    fun (i : Nat) =>
    AV.sc
    (Value.bool
    (bif i.beq b.toNat then
    !b2f b.toNat
    else b6f i)))
    (AV.ar (256 : Nat) (1 : Nat)
    fun (i0 : Nat) =>
    AV.sc
    (Value.bool
    (bif i0.beq b.toNat then
    !b2f b.toNat
    else b6f i0))) ∧
    True) ∧
    L7_0 (IntKind.i64.wrap (b + (1 : Int))) b0f b1f b2f b3f
    (fun (i : Nat) => bif i.beq b.toNat then true else b4f i)
    (fun (i : Nat) => bif i.beq b.toNat then false else b5f i)
    (fun (i : Nat) => bif i.beq b.toNat then !b2f b.toNat else b6f i)
    res))) ∧
    (decide (b < (256 : Int)) = false →
    ((0 : Nat) = (0 : Nat) ∧ True) ∧
    ((0 : Nat) = (0 : Nat) ∧ True) ∧
    ∃ (r : Nat → Int),
    ((True ∧ True ∧ True) ∧
    True ∧
    Ok Proofs.Try.prog (23 : Nat)
    [AV.ar (4 : Nat) (1 : Nat) fun (i : Nat) => AV.sc (Value.int IntKind.u64 (b0f i)),
    AV.ar (4 : Nat) (1 : Nat) fun (i : Nat) => AV.sc (Value.int IntKind.u64 (b1f i))]
    [] (AV.ar (4 : Nat) (1 : Nat) fun (i0 : Nat) => AV.sc (Value.int IntKind.u64 (r i0))) []) ∧
    ((0 : Nat) = (0 : Nat) ∧ True) ∧
    ∃ (r_1 : Nat → Int),
    ((True ∧ True) ∧
    True ∧
    Ok Proofs.Try.prog (21 : Nat) [AV.ar (256 : Nat) (1 : Nat) fun (i : Nat) => AV.sc (Value.bool (b4f i))] []
    (AV.ar (4 : Nat) (1 : Nat) fun (i0 : Nat) => AV.sc (Value.int IntKind.u64 (r_1 i0))) []) ∧
    (∀ (i : Nat),
    i < (4 : Nat) →
    (AV.sc (Value.int IntKind.u64 (r i))).sz = (1 : Nat) ∧
    (AV.sc (Value.int IntKind.u64 (r_1 i))).sz = (1 : Nat) ∧ false = false ∧ false = false ∧ True) ∧
    True ∧
    (cdec (∀ (i : Nat), i < (4 : Nat) → r i = r_1 i) = true →
    ((0 : Nat) = (0 : Nat) ∧ True) ∧
    cdec (∀ (i : Nat), i < (4 : Nat) → r i = r_1 i) = true ∧
    ((0 : Nat) = (0 : Nat) ∧ True) ∧
    cdec (∀ (i : Nat), i < (4 : Nat) → r i = r_1 i) = true ∧
    ∃ (r_2 : Nat → Int),
    ((True ∧ True ∧ True) ∧
    True ∧
    Ok Proofs.Try.prog (24 : Nat)
    [AV.ar (4 : Nat) (1 : Nat) fun (i : Nat) => AV.sc (Value.int IntKind.u64 (b0f i)),
    AV.ar (4 : Nat) (1 : Nat) fun (i : Nat) => AV.sc (Value.int IntKind.u64 (b1f i))]
    [] (AV.ar (4 : Nat) (1 : Nat) fun (i0 : Nat) => AV.sc (Value.int IntKind.u64 (r_2 i0))) []) ∧
    cdec (∀ (i : Nat), i < (4 : Nat) → r i = r_1 i) = true ∧
    ((0 : Nat) = (0 : Nat) ∧ True) ∧
    cdec (∀ (i : Nat), i < (4 : Nat) → r i = r_1 i) = true ∧
    ∃ (r_3 : Nat → Int),
    ((True ∧ True) ∧
    True ∧
    Ok Proofs.Try.prog (21 : Nat) [AV.ar (256 : Nat) (1 : Nat) fun (i : Nat) => AV.sc (Value.bool (b5f i))]
    [] (AV.ar (4 : Nat) (1 : Nat) fun (i0 : Nat) => AV.sc (Value.int IntKind.u64 (r_3 i0))) []) ∧
    cdec (∀ (i : Nat), i < (4 : Nat) → r i = r_1 i) = true ∧
    (∀ (i : Nat),
    i < (4 : Nat) →
    (AV.sc (Value.int IntKind.u64 (r_2 i))).sz = (1 : Nat) ∧
    (AV.sc (Value.int IntKind.u64 (r_3 i))).sz = (1 : Nat) ∧ false = false ∧ false = false ∧ True) ∧
    cdec (∀ (i : Nat), i < (4 : Nat) → r i = r_1 i) = true ∧
    True ∧
    (cdec (∀ (i : Nat), i < (4 : Nat) → r_2 i = r_3 i) = true →
    ((0 : Nat) = (0 : Nat) ∧ True) ∧
    cdec (∀ (i : Nat), i < (4 : Nat) → r_2 i = r_3 i) = true ∧
    ∃ (r : Nat → Int),
    ((True ∧ True) ∧
    True ∧
    Ok Proofs.Try.prog (25 : Nat)
    [AV.ar (4 : Nat) (1 : Nat) fun (i : Nat) => AV.sc (Value.int IntKind.u64 (b0f i))]
    []
    (AV.ar (4 : Nat) (1 : Nat) fun (i0 : Nat) => AV.sc (Value.int IntKind.u64 (r i0)))
    []) ∧
    cdec (∀ (i : Nat), i < (4 : Nat) → r_2 i = r_3 i) = true ∧
    ((0 : Nat) = (0 : Nat) ∧ True) ∧
    cdec (∀ (i : Nat), i < (4 : Nat) → r_2 i = r_3 i) = true ∧
    ∃ (r_4 : Nat → Int),
    ((True ∧ True) ∧
    True ∧
    Ok Proofs.Try.prog (21 : Nat)
    [AV.ar (256 : Nat) (1 : Nat) fun (i : Nat) =>
    AV.sc (Value.bool (b6f i))]
    []
    (AV.ar (4 : Nat) (1 : Nat) fun (i0 : Nat) =>
    AV.sc (Value.int IntKind.u64 (r_4 i0)))
    []) ∧
    cdec (∀ (i : Nat), i < (4 : Nat) → r_2 i = r_3 i) = true ∧
    (∀ (i : Nat),
    i < (4 : Nat) →
    (AV.sc (Value.int IntKind.u64 (r i))).sz = (1 : Nat) ∧
    (AV.sc (Value.int IntKind.u64 (r_4 i))).sz = (1 : Nat) ∧
    false = false ∧ false = false ∧ True) ∧
    cdec (∀ (i : Nat), i < (4 : Nat) → r_2 i = r_3 i) = true ∧
    True ∧
    (cdec (∀ (i : Nat), i < (4 : Nat) → r i = r_4 i) = true →
    ∃ (r_5 : Bool),
    (True ∧
    True ∧
    Ok Proofs.Try.prog (12 : Nat) [] []
    (AV.sc (Value.bool r_5)) []) ∧
    cdec (∀ (i : Nat), i < (4 : Nat) → r i = r_4 i) = true ∧
    True ∧
    True ∧
    ((True ∧
    Sub (AV.sc (Value.bool r_5))
    (AV.sc (Value.bool r_5)) ∧
    True) ∧
    True) ∧
    Sub (AV.sc (Value.bool r_5)) res ∧ SubOut [] []) ∧
    (cdec (∀ (i : Nat), i < (4 : Nat) → r i = r_4 i) = !true →
    true = true ∧
    cdec (∀ (i : Nat), i < (4 : Nat) → r i = r_4 i) = false ∧
    True ∧
    True ∧
    ((True ∧
    Sub (AV.sc (Value.bool false))
    (AV.sc (Value.bool false)) ∧
    True) ∧
    True) ∧
    Sub (AV.sc (Value.bool false)) res ∧ SubOut [] [])) ∧
    (cdec (∀ (i : Nat), i < (4 : Nat) → r_2 i = r_3 i) = !true →
    true = true ∧
    cdec (∀ (i : Nat), i < (4 : Nat) → r_2 i = r_3 i) = !true ∧
    true = true ∧
    cdec (∀ (i : Nat), i < (4 : Nat) → r_2 i = r_3 i) = !true ∧
    true = true ∧
    cdec (∀ (i : Nat), i < (4 : Nat) → r_2 i = r_3 i) = !true ∧
    true = true ∧
    cdec (∀ (i : Nat), i < (4 : Nat) → r_2 i = r_3 i) = !true ∧
    true = true ∧
    cdec (∀ (i : Nat), i < (4 : Nat) → r_2 i = r_3 i) = false ∧
    True ∧
    false = !true ∧
    true = true ∧
    false = false ∧
    True ∧
    True ∧
    ((True ∧
    Sub (AV.sc (Value.bool false))
    (AV.sc (Value.bool false)) ∧
    True) ∧
    True) ∧
    Sub (AV.sc (Value.bool false)) res ∧ SubOut [] [])) ∧
    (cdec (∀ (i : Nat), i < (4 : Nat) → r i = r_1 i) = !true →
    true = true ∧
    cdec (∀ (i : Nat), i < (4 : Nat) → r i = r_1 i) = !true ∧
    true = true ∧
    cdec (∀ (i : Nat), i < (4 : Nat) → r i = r_1 i) = !true ∧
    true = true ∧
    cdec (∀ (i : Nat), i < (4 : Nat) → r i = r_1 i) = !true ∧
    true = true ∧
    cdec (∀ (i : Nat), i < (4 : Nat) → r i = r_1 i) = !true ∧
    true = true ∧
    cdec (∀ (i : Nat), i < (4 : Nat) → r i = r_1 i) = !true ∧
    true = true ∧
    cdec (∀ (i : Nat), i < (4 : Nat) → r i = r_1 i) = false ∧
    True ∧
    false = !true ∧
    true = true ∧
    false = !true ∧
    true = true ∧
    false = !true ∧
    true = true ∧
    false = !true ∧
    true = true ∧
    false = !true ∧
    true = true ∧
    false = false ∧
    True ∧
    false = !true ∧
    true = true ∧
    false = false ∧
    True ∧
    True ∧
    ((True ∧
    Sub (AV.sc (Value.bool false)) (AV.sc (Value.bool false)) ∧
    True) ∧
    True) ∧
    Sub (AV.sc (Value.bool false)) res ∧ SubOut [] [])) from
    ⟨trivial, ⟨trivial, (And.elim (fun h2 k2 => ⟨(fun x3 => (fun h3 => ⟨trivial, ⟨trivial, (And.elim (fun h6 k6 => ⟨(And.elim (fun h7 k7 => ⟨h7, k7⟩) h6), (And.elim (fun h7 k7 => ⟨⟨rfl, ((fun h9 => ⟨h9, trivial⟩) h7)⟩, ⟨trivial, (And.elim (fun h9 k9 => ⟨(fun x10 => (fun h10 => ⟨trivial, ⟨rfl, ⟨(And.elim (fun h14 k14 => ⟨h14, k14⟩) h6), ⟨rfl, ⟨⟨rfl, ⟨h7, trivial⟩⟩, ⟨trivial, ⟨(And.elim (fun h18 k18 => ⟨h18, k18⟩) h6), ⟨⟨rfl, ⟨⟨h7, trivial⟩, trivial⟩⟩, ⟨trivial, ⟨trivial, ⟨(And.elim (fun h22 k22 => ⟨h22, k22⟩) h6), ⟨⟨rfl, ⟨h7, trivial⟩⟩, ⟨trivial, (And.elim (fun h24 k24 => ⟨(fun x25 => (fun h25 => ⟨trivial, ⟨rfl, ⟨(And.elim (fun h29 k29 => ⟨h29, k29⟩) h6), ⟨rfl, ⟨⟨rfl, ⟨h7, trivial⟩⟩, ⟨trivial, ⟨(And.elim (fun h33 k33 => ⟨h33, k33⟩) h6), ⟨⟨rfl, ⟨⟨h7, trivial⟩, trivial⟩⟩, ⟨trivial, ⟨trivial, ⟨(And.elim (fun h37 k37 => ⟨h37, k37⟩) h6), ⟨⟨rfl, ⟨h7, trivial⟩⟩, ⟨trivial, ⟨(And.elim (fun h40 k40 => ⟨h40, k40⟩) h6), ⟨⟨rfl, ⟨⟨h7, trivial⟩, trivial⟩⟩, ⟨trivial, ⟨trivial, ⟨trivial, ⟨⟨⟨trivial, ⟨Sub.refl _, ⟨trivial, ⟨Sub.refl _, ⟨trivial, ⟨Sub.refl _, ⟨trivial, ⟨Sub.refl _, ⟨trivial, ⟨Sub.refl _, ⟨trivial, ⟨Sub.refl _, ⟨trivial, ⟨Sub.refl _, ⟨trivial, ⟨Sub.refl _, trivial⟩⟩⟩⟩⟩⟩⟩⟩⟩⟩⟩⟩⟩⟩⟩⟩, ⟨trivial, ⟨SubB.refl _, ⟨trivial, ⟨SubB.refl _, ⟨trivial, ⟨SubB.refl _, ⟨trivial, ⟨SubB.refl _, ⟨trivial, ⟨SubB.refl _, ⟨trivial, ⟨SubB.refl _, ⟨trivial, ⟨SubB.refl _, trivial⟩⟩⟩⟩⟩⟩⟩⟩⟩⟩⟩⟩⟩⟩⟩, h25⟩⟩⟩⟩⟩⟩⟩⟩⟩⟩⟩⟩⟩⟩⟩⟩⟩⟩⟩) (h24 x25)), (fun x25 => (fun h25 => ⟨rfl, ⟨rfl, ⟨rfl, ⟨rfl, ⟨rfl, ⟨trivial, ⟨(And.elim (fun h33 k33 => ⟨h33, k33⟩) h6), ⟨⟨rfl, ⟨⟨h7, trivial⟩, trivial⟩⟩, ⟨trivial, ⟨trivial, ⟨(And.elim (fun h37 k37 => ⟨h37, k37⟩) h6), ⟨⟨rfl, ⟨h7, trivial⟩⟩, ⟨trivial, ⟨(And.elim (fun h40 k40 => ⟨h40, k40⟩) h6), ⟨⟨rfl, ⟨⟨h7, trivial⟩, trivial⟩⟩, ⟨trivial, ⟨trivial, ⟨trivial, ⟨⟨⟨trivial, ⟨Sub.refl _, ⟨trivial, ⟨Sub.refl _, ⟨trivial, ⟨Sub.refl _, ⟨trivial, ⟨Sub.refl _, ⟨trivial, ⟨Sub.refl _, ⟨trivial, ⟨Sub.refl _, ⟨trivial, ⟨Sub.refl _, ⟨trivial, ⟨Sub.refl _, trivial⟩⟩⟩⟩⟩⟩⟩⟩⟩⟩⟩⟩⟩⟩⟩⟩, ⟨trivial, ⟨SubB.refl _, ⟨trivial, ⟨SubB.refl _, ⟨trivial, ⟨SubB.refl _, ⟨trivial, ⟨SubB.refl _, ⟨trivial, ⟨SubB.refl _, ⟨trivial, ⟨SubB.refl _, ⟨trivial, ⟨SubB.refl _, trivial⟩⟩⟩⟩⟩⟩⟩⟩⟩⟩⟩⟩⟩⟩⟩, h25⟩⟩⟩⟩⟩⟩⟩⟩⟩⟩⟩⟩⟩⟩⟩⟩⟩⟩⟩) (k24 x25))⟩) h10)⟩⟩⟩⟩⟩⟩⟩⟩⟩⟩⟩⟩⟩) (h9 x10)), (fun x10 => (fun h10 => ⟨rfl, ⟨rfl, ⟨rfl, ⟨rfl, ⟨rfl, ⟨trivial, ⟨(And.elim (fun h18 k18 => ⟨h18, k18⟩) h6), ⟨⟨rfl, ⟨⟨h7, trivial⟩, trivial⟩⟩, ⟨trivial, ⟨trivial, ⟨(And.elim (fun h22 k22 => ⟨h22, k22⟩) h6), ⟨⟨rfl, ⟨h7, trivial⟩⟩, ⟨trivial, (And.elim (fun h24 k24 => ⟨(fun x25 => (fun h25 => ⟨trivial, ⟨rfl, ⟨(And.elim (fun h29 k29 => ⟨h29, k29⟩) h6), ⟨rfl, ⟨⟨rfl, ⟨h7, trivial⟩⟩, ⟨trivial, ⟨(And.elim (fun h33 k33 => ⟨h33, k33⟩) h6), ⟨⟨rfl, ⟨⟨h7, trivial⟩, trivial⟩⟩, ⟨trivial, ⟨trivial, ⟨(And.elim (fun h37 k37 => ⟨h37, k37⟩) h6), ⟨⟨rfl, ⟨h7, trivial⟩⟩, ⟨trivial, ⟨(And.elim (fun h40 k40 => ⟨h40, k40⟩) h6), ⟨⟨rfl, ⟨⟨h7, trivial⟩, trivial⟩⟩, ⟨trivial, ⟨trivial, ⟨trivial, ⟨⟨⟨trivial, ⟨Sub.refl _, ⟨trivial, ⟨Sub.refl _, ⟨trivial, ⟨Sub.refl _, ⟨trivial, ⟨Sub.refl _, ⟨trivial, ⟨Sub.refl _, ⟨trivial, ⟨Sub.refl _, ⟨trivial, ⟨Sub.refl _, ⟨trivial, ⟨Sub.refl _, trivial⟩⟩⟩⟩⟩⟩⟩⟩⟩⟩⟩⟩⟩⟩⟩⟩, ⟨trivial, ⟨SubB.refl _, ⟨trivial, ⟨SubB.refl _, ⟨trivial, ⟨SubB.refl _, ⟨trivial, ⟨SubB.refl _, ⟨trivial, ⟨SubB.refl _, ⟨trivial, ⟨SubB.refl _, ⟨trivial, ⟨SubB.refl _, trivial⟩⟩⟩⟩⟩⟩⟩⟩⟩⟩⟩⟩⟩⟩⟩, h25⟩⟩⟩⟩⟩⟩⟩⟩⟩⟩⟩⟩⟩⟩⟩⟩⟩⟩⟩) (h24 x25)), (fun x25 => (fun h25 => ⟨rfl, ⟨rfl, ⟨rfl, ⟨rfl, ⟨rfl, ⟨trivial, ⟨(And.elim (fun h33 k33 => ⟨h33, k33⟩) h6), ⟨⟨rfl, ⟨⟨h7, trivial⟩, trivial⟩⟩, ⟨trivial, ⟨trivial, ⟨(And.elim (fun h37 k37 => ⟨h37, k37⟩) h6), ⟨⟨rfl, ⟨h7, trivial⟩⟩, ⟨trivial, ⟨(And.elim (fun h40 k40 => ⟨h40, k40⟩) h6), ⟨⟨rfl, ⟨⟨h7, trivial⟩, trivial⟩⟩, ⟨trivial, ⟨trivial, ⟨trivial, ⟨⟨⟨trivial, ⟨Sub.refl _, ⟨trivial, ⟨Sub.refl _, ⟨trivial, ⟨Sub.refl _, ⟨trivial, ⟨Sub.refl _, ⟨trivial, ⟨Sub.refl _, ⟨trivial, ⟨Sub.refl _, ⟨trivial, ⟨Sub.refl _, ⟨trivial, ⟨Sub.refl _, trivial⟩⟩⟩⟩⟩⟩⟩⟩⟩⟩⟩⟩⟩⟩⟩⟩, ⟨trivial, ⟨SubB.refl _, ⟨trivial, ⟨SubB.refl _, ⟨trivial, ⟨SubB.refl _, ⟨trivial, ⟨SubB.refl _, ⟨trivial, ⟨SubB.refl _, ⟨trivial, ⟨SubB.refl _, ⟨trivial, ⟨SubB.refl _, trivial⟩⟩⟩⟩⟩⟩⟩⟩⟩⟩⟩⟩⟩⟩⟩, h25⟩⟩⟩⟩⟩⟩⟩⟩⟩⟩⟩⟩⟩⟩⟩⟩⟩⟩⟩) (k24 x25))⟩) h10)⟩⟩⟩⟩⟩⟩⟩⟩⟩⟩⟩⟩⟩) (k9 x10))⟩) k7)⟩⟩) k6)⟩) h3)⟩⟩) (h2 x3)), (fun x3 => (fun h3 => ⟨⟨rfl, trivial⟩, ⟨⟨rfl, trivial⟩, (Exists.elim h3 fun x6 h6 => ⟨x6, (And.elim (fun h7 k7 => ⟨⟨⟨trivial, ⟨trivial, trivial⟩⟩, ⟨trivial, h7⟩⟩, ⟨⟨rfl, trivial⟩, (Exists.elim k7 fun x9 h9 => ⟨x9, (And.elim (fun h10 k10 => ⟨⟨⟨trivial, trivial⟩, ⟨trivial, h10⟩⟩, (And.elim (fun h11 k11 => ⟨(fun x12 => (fun h12 => (fun x13 => (fun h13 => (And.elim (fun h14 k14 => ⟨h14, ((fun h15 => ⟨h15, ⟨rfl, ⟨rfl, trivial⟩⟩⟩) k14)⟩) h13)) (h12 x13))) (h11 x12)), ⟨trivial, (And.elim (fun h13 k13 => ⟨(fun x14 => (fun h14 => ⟨⟨rfl, trivial⟩, ⟨x14, ⟨⟨rfl, trivial⟩, ⟨x14, (Exists.elim h14 fun x19 h19 => ⟨x19, (And.elim (fun h20 k20 => ⟨⟨⟨trivial, ⟨trivial, trivial⟩⟩, ⟨trivial, h20⟩⟩, ⟨x14, ⟨⟨rfl, trivial⟩, ⟨x14, (Exists.elim k20 fun x24 h24 => ⟨x24, (And.elim (fun h25 k25 => ⟨⟨⟨trivial, trivial⟩, ⟨trivial, h25⟩⟩, ⟨x14, (And.elim (fun h27 k27 => ⟨(fun x28 => (fun h28 => (fun x29 => (fun h29 => (And.elim (fun h30 k30 => ⟨h30, ((fun h31 => ⟨h31, ⟨rfl, ⟨rfl, trivial⟩⟩⟩) k30)⟩) h29)) (h28 x29))) (h27 x28)), ⟨x14, ⟨trivial, (And.elim (fun h30 k30 => ⟨(fun x31 => (fun h31 => ⟨⟨rfl, trivial⟩, ⟨x31, (Exists.elim h31 fun x34 h34 => ⟨x34, (And.elim (fun h35 k35 => ⟨⟨⟨trivial, trivial⟩, ⟨trivial, h35⟩⟩, ⟨x31, ⟨⟨rfl, trivial⟩, ⟨x31, (Exists.elim k35 fun x39 h39 => ⟨x39, (And.elim (fun h40 k40 => ⟨⟨⟨trivial, trivial⟩, ⟨trivial, h40⟩⟩, ⟨x31, (And.elim (fun h42 k42 => ⟨(fun x43 => (fun h43 => (fun x44 => (fun h44 => (And.elim (fun h45 k45 => ⟨h45, ((fun h46 => ⟨h46, ⟨rfl, ⟨rfl, trivial⟩⟩⟩) k45)⟩) h44)) (h43 x44))) (h42 x43)), ⟨x31, ⟨trivial, (And.elim (fun h45 k45 => ⟨(fun x46 => (fun h46 => (Exists.elim h46 fun x47 h47 => ⟨x47, (And.elim (fun h48 k48 => ⟨⟨trivial, ⟨trivial, h48⟩⟩, ⟨x46, ⟨trivial, ⟨trivial, ⟨⟨⟨trivial, ⟨Sub.refl _, trivial⟩⟩, trivial⟩, ((fun h53 => ⟨h53, trivial⟩) k48)⟩⟩⟩⟩⟩) h47)⟩)) (h45 x46)), (fun x46 => (fun h46 => ⟨rfl, ⟨x46, ⟨trivial, ⟨trivial, ⟨⟨⟨trivial, ⟨Sub.refl _, trivial⟩⟩, trivial⟩, ((fun h52 => ⟨h52, trivial⟩) h46)⟩⟩⟩⟩⟩) (k45 x46))⟩) k42)⟩⟩⟩) k40)⟩⟩) h39)⟩)⟩⟩⟩⟩) h34)⟩)⟩⟩) (h30 x31)), (fun x31 => (fun h31 => ⟨rfl, ⟨x31, ⟨rfl, ⟨x31, ⟨rfl, ⟨x31, ⟨rfl, ⟨x31, ⟨rfl, ⟨x31, ⟨trivial, ⟨rfl, ⟨rfl, ⟨rfl, ⟨trivial, ⟨trivial, ⟨⟨⟨trivial, ⟨Sub.refl _, trivial⟩⟩, trivial⟩, ((fun h49 => ⟨h49, trivial⟩) h31)⟩⟩⟩⟩⟩⟩⟩⟩⟩⟩⟩⟩⟩⟩⟩⟩⟩) (k30 x31))⟩) k27)⟩⟩⟩) k25)⟩⟩) h24)⟩)⟩⟩⟩⟩) h19)⟩)⟩⟩⟩⟩) (h13 x14)), (fun x14 => (fun h14 => ⟨rfl, ⟨x14, ⟨rfl, ⟨x14, ⟨rfl, ⟨x14, ⟨rfl, ⟨x14, ⟨rfl, ⟨x14, ⟨rfl, ⟨x14, ⟨trivial, ⟨rfl, ⟨rfl, ⟨rfl, ⟨rfl, ⟨rfl, ⟨rfl, ⟨rfl, ⟨rfl, ⟨rfl, ⟨rfl, ⟨rfl, ⟨trivial, ⟨rfl, ⟨rfl, ⟨rfl, ⟨trivial, ⟨trivial, ⟨⟨⟨trivial, ⟨Sub.refl _, trivial⟩⟩, trivial⟩, ((fun h46 => ⟨h46, trivial⟩) h14)⟩⟩⟩⟩⟩⟩⟩⟩⟩⟩⟩⟩⟩⟩⟩⟩⟩⟩⟩⟩⟩⟩⟩⟩⟩⟩⟩⟩⟩⟩⟩) (k13 x14))⟩) k11)⟩⟩) k10)⟩) h9)⟩)⟩⟩) h6)⟩)⟩⟩) (k2 x3))⟩) h)⟩⟩)
theorem hf10 : Go.Proofs.Try.prog.funcs[10]? = some Go.Proofs.Try.f10 := by kernel_rfl
abbrev s10_e (text : ByteArray) : List (Nat × AV) := [(0, (.sc (.string text)))]
abbrev m10_e (text : ByteArray) : List (Nat × Nat × AV) := []
def L10_e (text : ByteArray) (res : AV) : Prop := Goes ⟨Go.Proofs.Try.prog, 10, [], res, []⟩ (place Go.Proofs.Try.f10 []) (s10_e text) (m10_e text)
theorem a10_e (text : ByteArray) (res : AV) (h : (∀ slot, fact (look .undef (s10_e text) slot)) → L10_e text res) : L10_e text res :=
  assumeRule 10 [] Go.Proofs.Try.f10 hf10 [] (s10_e text) (m10_e text) res [] _ (by kernel_rfl) h
theorem o10 (text : ByteArray) (res : AV) (hnew : newOnly res) (h : L10_e text res) : Ok Go.Proofs.Try.prog 10 [(.sc (.string text))] [] res [] :=
  okRule2 10 Go.Proofs.Try.f10 hf10 [(.sc (.string text))] [] res [] [] rfl (by kernel_rfl) (by kernel_rfl) (by kernel_rfl) ⟨hnew, by simp⟩ (L10_e text res) (by kernel_rfl) h
theorem r10_e (text : ByteArray) (res : AV)
    (h : ∃ (r : (Nat → Int) × Int × Bool),
  Ok Proofs.Try.prog (26 : Nat) [AV.sc (Value.string text), AV.sc (Value.int IntKind.i64 (0 : Int))] []
    (AV.cons (1 : Nat) (AV.ar (4 : Nat) (1 : Nat) fun (i0 : Nat) => AV.sc (Value.int IntKind.u64 (r.fst i0)))
    (AV.cons (1 : Nat) (AV.sc (Value.int IntKind.i64 r.snd.fst)) (AV.cons (1 : Nat) (AV.sc (Value.bool r.snd.snd)) AV.nil))).tup
    [] ∧
    ((!r.snd.snd) = false →
    ((r.snd.fst != (↑text.size : Int)) = true →
    Sub
    (AV.cons (1 : Nat) (AV.ar (4 : Nat) (1 : Nat) fun (x : Nat) => AV.sc (Value.int IntKind.u64 (0 : Int)))
    (AV.cons (1 : Nat) (AV.sc (Value.int IntKind.i64 (50 : Int))) AV.nil)).tup
    res) ∧
    ((r.snd.fst != (↑text.size : Int)) = false →
    Sub
    (AV.cons (1 : Nat) (AV.ar (4 : Nat) (1 : Nat) fun (i0 : Nat) => AV.sc (Value.int IntKind.u64 (r.fst i0)))
    (AV.cons (1 : Nat) (AV.sc (Value.int IntKind.i64 (0 : Int))) AV.nil)).tup
    res)) ∧
    ((!r.snd.snd) = !false →
    Sub
    (AV.cons (1 : Nat) (AV.ar (4 : Nat) (1 : Nat) fun (x : Nat) => AV.sc (Value.int IntKind.u64 (0 : Int)))
    (AV.cons (1 : Nat) (AV.sc (Value.int IntKind.i64 (50 : Int))) AV.nil)).tup
    res)) :
    L10_e text res :=
  rule Go.Am.Seat.tabOk 10 [] Go.Proofs.Try.f10 hf10 [] (s10_e text) (m10_e text) res [] 400
    (Orc.call [] []
  (fun (r26 : (Nat → Int) × Int × Bool) =>
    (AV.cons (1 : Nat) (AV.ar (4 : Nat) (1 : Nat) fun (i0 : Nat) => AV.sc (Value.int IntKind.u64 (r26.fst i0)))
    (AV.cons (1 : Nat) (AV.sc (Value.int IntKind.i64 r26.snd.fst)) (AV.cons (1 : Nat) (AV.sc (Value.bool r26.snd.snd)) AV.nil))).tup)
  (fun (r26 : (Nat → Int) × Int × Bool) => []) fun (r26 : (Nat → Int) × Int × Bool) =>
  ((Orc.fin
    (AV.cons (1 : Nat) (AV.ar (4 : Nat) (1 : Nat) fun (x : Nat) => AV.sc (Value.int IntKind.u64 (0 : Int)))
    (AV.cons (1 : Nat) (AV.sc (Value.int IntKind.i64 (50 : Int))) AV.nil)).tup
    [] []).br
    (Orc.fin
    (AV.cons (1 : Nat) (AV.ar (4 : Nat) (1 : Nat) fun (i0 : Nat) => AV.sc (Value.int IntKind.u64 (r26.fst i0)))
    (AV.cons (1 : Nat) (AV.sc (Value.int IntKind.i64 (0 : Int))) AV.nil)).tup
    [] [])).yes.yes.yes.br
    (Orc.fin
    (AV.cons (1 : Nat) (AV.ar (4 : Nat) (1 : Nat) fun (x : Nat) => AV.sc (Value.int IntKind.u64 (0 : Int)))
    (AV.cons (1 : Nat) (AV.sc (Value.int IntKind.i64 (50 : Int))) AV.nil)).tup
    [] []).yes.no.no.no) _ _ (by kernel_rfl) (by kernel_rfl) (show True ∧
  True ∧
    True ∧
    ∃ (r : (Nat → Int) × Int × Bool),
    ((True ∧ True ∧ True) ∧
    True ∧
    Ok Proofs.Try.prog (26 : Nat) [AV.sc (Value.string text), AV.sc (Value.int IntKind.i64 (0 : Int))] []
    (AV.cons (1 : Nat) (AV.ar (4 : Nat) (1 : Nat) fun (i0 : Nat) => AV.sc (Value.int IntKind.u64 (r.fst i0)))
    (AV.cons (1 : Nat) (AV.sc (Value.int IntKind.i64 r.snd.fst)) (AV.cons (1 : Nat) (AV.sc (Value.bool r.snd.snd)) AV.nil))).tup
    []) ∧
    True ∧
    True ∧
    True ∧
    True ∧
    True ∧
    ((0 : Nat) = (0 : Nat) ∧ True) ∧
    True ∧
    True ∧
    True ∧
    True ∧
    True ∧
    ((!r.snd.snd) = false →
    True ∧
    false = false ∧
    True ∧
    false = false ∧
    True ∧
    false = false ∧
    True ∧
    True ∧
    ((r.snd.fst != (↑text.size : Int)) = true →
    True ∧
    ((0 : Nat) = (0 : Nat) ∧ True) ∧
    True ∧
    (((0 : Nat) = (0 : Nat) ∧ True) ∧ True ∧ True) ∧
    (((True ∧ True ∧ True) ∧
    Sub
    (AV.cons (1 : Nat)
    (AV.ar (4 : Nat) (1 : Nat) fun (x : Nat) =>
    AV.sc (Value.int IntKind.u64 (0 : Int)))
    (AV.cons (1 : Nat) (AV.sc (Value.int IntKind.i64 (50 : Int))) AV.nil)).tup
    (AV.cons (1 : Nat)
    (AV.ar (4 : Nat) (1 : Nat) fun (x : Nat) =>
    AV.sc (Value.int IntKind.u64 (0 : Int)))
    (AV.cons (1 : Nat) (AV.sc (Value.int IntKind.i64 (50 : Int))) AV.nil)).tup ∧
    True) ∧
    True) ∧
    Sub
    (AV.cons (1 : Nat)
    (AV.ar (4 : Nat) (1 : Nat) fun (x : Nat) => AV.sc (Value.int IntKind.u64 (0 : Int)))
    (AV.cons (1 : Nat) (AV.sc (Value.int IntKind.i64 (50 : Int))) AV.nil)).tup
    res ∧
    SubOut [] []) ∧
    ((r.snd.fst != (↑text.size : Int)) = false →
    ((0 : Nat) = (0 : Nat) ∧ True) ∧
    ((0 : Nat) = (0 : Nat) ∧ True) ∧
    True ∧
    (((0 : Nat) = (0 : Nat) ∧ True) ∧ True ∧ True) ∧
    (((True ∧ True ∧ True) ∧
    Sub
    (AV.cons (1 : Nat)
    (AV.ar (4 : Nat) (1 : Nat) fun (i0 : Nat) =>
    AV.sc (Value.int IntKind.u64 (r.fst i0)))
    (AV.cons (1 : Nat) (AV.sc (Value.int IntKind.i64 (0 : Int))) AV.nil)).tup
    (AV.cons (1 : Nat)
    (AV.ar (4 : Nat) (1 : Nat) fun (i0 : Nat) =>
    AV.sc (Value.int IntKind.u64 (r.fst i0)))
    (AV.cons (1 : Nat) (AV.sc (Value.int IntKind.i64 (0 : Int))) AV.nil)).tup ∧
    True) ∧
    True) ∧
    Sub
    (AV.cons (1 : Nat)
    (AV.ar (4 : Nat) (1 : Nat) fun (i0 : Nat) => AV.sc (Value.int IntKind.u64 (r.fst i0)))
    (AV.cons (1 : Nat) (AV.sc (Value.int IntKind.i64 (0 : Int))) AV.nil)).tup
    res ∧
    SubOut [] [])) ∧
    ((!r.snd.snd) = !false →
    true = true ∧
    (!false) = !false ∧
    true = true ∧
    (!false) = !false ∧
    true = true ∧
    (!false) = !false ∧
    true = true ∧
    True ∧
    true = true ∧
    True ∧
    ((0 : Nat) = (0 : Nat) ∧ True) ∧
    True ∧
    (((0 : Nat) = (0 : Nat) ∧ True) ∧ True ∧ True) ∧
    (((True ∧ True ∧ True) ∧
    Sub
    (AV.cons (1 : Nat)
    (AV.ar (4 : Nat) (1 : Nat) fun (x : Nat) => AV.sc (Value.int IntKind.u64 (0 : Int)))
    (AV.cons (1 : Nat) (AV.sc (Value.int IntKind.i64 (50 : Int))) AV.nil)).tup
    (AV.cons (1 : Nat)
    (AV.ar (4 : Nat) (1 : Nat) fun (x : Nat) => AV.sc (Value.int IntKind.u64 (0 : Int)))
    (AV.cons (1 : Nat) (AV.sc (Value.int IntKind.i64 (50 : Int))) AV.nil)).tup ∧
    True) ∧
    True) ∧
    Sub
    (AV.cons (1 : Nat)
    (AV.ar (4 : Nat) (1 : Nat) fun (x : Nat) => AV.sc (Value.int IntKind.u64 (0 : Int)))
    (AV.cons (1 : Nat) (AV.sc (Value.int IntKind.i64 (50 : Int))) AV.nil)).tup
    res ∧
    SubOut [] []) from
    ⟨trivial, ⟨trivial, ⟨trivial, (Exists.elim h fun x3 h3 => ⟨x3, (And.elim (fun h4 k4 => ⟨⟨⟨trivial, ⟨trivial, trivial⟩⟩, ⟨trivial, h4⟩⟩, ⟨trivial, ⟨trivial, ⟨trivial, ⟨trivial, ⟨trivial, ⟨⟨rfl, trivial⟩, ⟨trivial, ⟨trivial, ⟨trivial, ⟨trivial, ⟨trivial, (And.elim (fun h16 k16 => ⟨(fun x17 => (fun h17 => ⟨trivial, ⟨rfl, ⟨trivial, ⟨rfl, ⟨trivial, ⟨rfl, ⟨trivial, ⟨trivial, (And.elim (fun h26 k26 => ⟨(fun x27 => (fun h27 => ⟨trivial, ⟨⟨rfl, trivial⟩, ⟨trivial, ⟨⟨⟨rfl, trivial⟩, ⟨trivial, trivial⟩⟩, ⟨⟨⟨⟨trivial, ⟨trivial, trivial⟩⟩, ⟨Sub.refl _, trivial⟩⟩, trivial⟩, ((fun h33 => ⟨h33, trivial⟩) h27)⟩⟩⟩⟩⟩) (h26 x27)), (fun x27 => (fun h27 => ⟨⟨rfl, trivial⟩, ⟨⟨rfl, trivial⟩, ⟨trivial, ⟨⟨⟨rfl, trivial⟩, ⟨trivial, trivial⟩⟩, ⟨⟨⟨⟨trivial, ⟨trivial, trivial⟩⟩, ⟨Sub.refl _, trivial⟩⟩, trivial⟩, ((fun h33 => ⟨h33, trivial⟩) h27)⟩⟩⟩⟩⟩) (k26 x27))⟩) h17)⟩⟩⟩⟩⟩⟩⟩⟩) (h16 x17)), (fun x17 => (fun h17 => ⟨rfl, ⟨rfl, ⟨rfl, ⟨rfl, ⟨rfl, ⟨rfl, ⟨rfl, ⟨trivial, ⟨rfl, ⟨trivial, ⟨⟨rfl, trivial⟩, ⟨trivial, ⟨⟨⟨rfl, trivial⟩, ⟨trivial, trivial⟩⟩, ⟨⟨⟨⟨trivial, ⟨trivial, trivial⟩⟩, ⟨Sub.refl _, trivial⟩⟩, trivial⟩, ((fun h32 => ⟨h32, trivial⟩) h17)⟩⟩⟩⟩⟩⟩⟩⟩⟩⟩⟩⟩⟩⟩) (k16 x17))⟩) k4)⟩⟩⟩⟩⟩⟩⟩⟩⟩⟩⟩⟩) h3)⟩)⟩⟩⟩)
theorem hf11 : Go.Proofs.Try.prog.funcs[11]? = some Go.Proofs.Try.f11 := by kernel_rfl
abbrev s11_e (s : ByteArray) : List (Nat × AV) := [(0, (.sc (.string s)))]
abbrev m11_e (s : ByteArray) : List (Nat × Nat × AV) := []
def L11_e (s : ByteArray) (res : AV) : Prop := Goes ⟨Go.Proofs.Try.prog, 11, [], res, []⟩ (place Go.Proofs.Try.f11 []) (s11_e s) (m11_e s)
theorem a11_e (s : ByteArray) (res : AV) (h : (∀ slot, fact (look .undef (s11_e s) slot)) → L11_e s res) : L11_e s res :=
  assumeRule 11 [] Go.Proofs.Try.f11 hf11 [] (s11_e s) (m11_e s) res [] _ (by kernel_rfl) h
theorem o11 (s : ByteArray) (res : AV) (hnew : newOnly res) (h : L11_e s res) : Ok Go.Proofs.Try.prog 11 [(.sc (.string s))] [] res [] :=
  okRule2 11 Go.Proofs.Try.f11 hf11 [(.sc (.string s))] [] res [] [] rfl (by kernel_rfl) (by kernel_rfl) (by kernel_rfl) ⟨hnew, by simp⟩ (L11_e s res) (by kernel_rfl) h
theorem r11_e (s : ByteArray) (res : AV)
    (h : ∃ (r : (Nat → Bool) × Int × Bool),
  Ok Proofs.Try.prog (27 : Nat) [AV.sc (Value.string s), AV.sc (Value.int IntKind.i64 (0 : Int))] []
    (AV.cons (1 : Nat) (AV.ar (256 : Nat) (1 : Nat) fun (i0 : Nat) => AV.sc (Value.bool (r.fst i0)))
    (AV.cons (1 : Nat) (AV.sc (Value.int IntKind.i64 r.snd.fst)) (AV.cons (1 : Nat) (AV.sc (Value.bool r.snd.snd)) AV.nil))).tup
    [] ∧
    ((!r.snd.snd) = false →
    ((r.snd.fst != (↑s.size : Int)) = true →
    Sub
    (AV.cons (1 : Nat) (AV.ar (4 : Nat) (1 : Nat) fun (x : Nat) => AV.sc (Value.int IntKind.u64 (0 : Int)))
    (AV.cons (1 : Nat) (AV.sc (Value.int IntKind.i64 (50 : Int))) AV.nil)).tup
    res) ∧
    ((r.snd.fst != (↑s.size : Int)) = false →
    ∃ (r_1 : Nat → Int),
    Ok Proofs.Try.prog (21 : Nat) [AV.ar (256 : Nat) (1 : Nat) fun (i : Nat) => AV.sc (Value.bool (r.fst i))] []
    (AV.ar (4 : Nat) (1 : Nat) fun (i0 : Nat) => AV.sc (Value.int IntKind.u64 (r_1 i0))) [] ∧
    Sub
    (AV.cons (1 : Nat) (AV.ar (4 : Nat) (1 : Nat) fun (i0 : Nat) => AV.sc (Value.int IntKind.u64 (r_1 i0)))
    (AV.cons (1 : Nat) (AV.sc (Value.int IntKind.i64 (0 : Int))) AV.nil)).tup
    res)) ∧
    ((!r.snd.snd) = !false →
    Sub
    (AV.cons (1 : Nat) (AV.ar (4 : Nat) (1 : Nat) fun (x : Nat) => AV.sc (Value.int IntKind.u64 (0 : Int)))
    (AV.cons (1 : Nat) (AV.sc (Value.int IntKind.i64 (50 : Int))) AV.nil)).tup
    res)) :
    L11_e s res :=
  rule Go.Am.Seat.tabOk 11 [] Go.Proofs.Try.f11 hf11 [] (s11_e s) (m11_e s) res [] 400
    (Orc.call [] []
  (fun (r27 : (Nat → Bool) × Int × Bool) =>
    (AV.cons (1 : Nat) (AV.ar (256 : Nat) (1 : Nat) fun (i0 : Nat) => AV.sc (Value.bool (r27.fst i0)))
    (AV.cons (1 : Nat) (AV.sc (Value.int IntKind.i64 r27.snd.fst)) (AV.cons (1 : Nat) (AV.sc (Value.bool r27.snd.snd)) AV.nil))).tup)
  (fun (r27 : (Nat → Bool) × Int × Bool) => []) fun (r27 : (Nat → Bool) × Int × Bool) =>
  ((Orc.fin
    (AV.cons (1 : Nat) (AV.ar (4 : Nat) (1 : Nat) fun (x : Nat) => AV.sc (Value.int IntKind.u64 (0 : Int)))
    (AV.cons (1 : Nat) (AV.sc (Value.int IntKind.i64 (50 : Int))) AV.nil)).tup
    [] []).br
    (Orc.call [] [] (fun (r21 : Nat → Int) => AV.ar (4 : Nat) (1 : Nat) fun (i0 : Nat) => AV.sc (Value.int IntKind.u64 (r21 i0)))
    (fun (r21 : Nat → Int) => []) fun (r21 : Nat → Int) =>
    Orc.fin
    (AV.cons (1 : Nat) (AV.ar (4 : Nat) (1 : Nat) fun (i0 : Nat) => AV.sc (Value.int IntKind.u64 (r21 i0)))
    (AV.cons (1 : Nat) (AV.sc (Value.int IntKind.i64 (0 : Int))) AV.nil)).tup
    [] [])).yes.yes.yes.br
    (Orc.fin
    (AV.cons (1 : Nat) (AV.ar (4 : Nat) (1 : Nat) fun (x : Nat) => AV.sc (Value.int IntKind.u64 (0 : Int)))
    (AV.cons (1 : Nat) (AV.sc (Value.int IntKind.i64 (50 : Int))) AV.nil)).tup
    [] []).yes.no.no.no) _ _ (by kernel_rfl) (by kernel_rfl) (show True ∧
  True ∧
    True ∧
    ∃ (r : (Nat → Bool) × Int × Bool),
    ((True ∧ True ∧ True) ∧
    True ∧
    Ok Proofs.Try.prog (27 : Nat) [AV.sc (Value.string s), AV.sc (Value.int IntKind.i64 (0 : Int))] []
    (AV.cons (1 : Nat) (AV.ar (256 : Nat) (1 : Nat) fun (i0 : Nat) => AV.sc (Value.bool (r.fst i0)))
    (AV.cons (1 : Nat) (AV.sc (Value.int IntKind.i64 r.snd.fst)) (AV.cons (1 : Nat) (AV.sc (Value.bool r.snd.snd)) AV.nil))).tup
    []) ∧
    True ∧
    True ∧
    True ∧
    True ∧
    True ∧
    ((0 : Nat) = (0 : Nat) ∧ True) ∧
    True ∧
    True ∧
    True ∧
    True ∧
    True ∧
    ((!r.snd.snd) = false →
    True ∧
    false = false ∧
    True ∧
    false = false ∧
    True ∧
    false = false ∧
    True ∧
    True ∧
    ((r.snd.fst != (↑s.size : Int)) = true →
    True ∧
    ((0 : Nat) = (0 : Nat) ∧ True) ∧
    True ∧
    (((0 : Nat) = (0 : Nat) ∧ True) ∧ True ∧ True) ∧
    (((True ∧ True ∧ True) ∧
    Sub
    (AV.cons (1 : Nat)
    (AV.ar (4 : Nat) (1 : Nat) fun (x : Nat) =>
    AV.sc (Value.int IntKind.u64 (0 : Int)))
    (AV.cons (1 : Nat) (AV.sc (Value.int IntKind.i64 (50 : Int))) AV.nil)).tup
    (AV.cons (1 : Nat)
    (AV.ar (4 : Nat) (1 : Nat) fun (x : Nat) =>
    AV.sc (Value.int IntKind.u64 (0 : Int)))
    (AV.cons (1 : Nat) (AV.sc (Value.int IntKind.i64 (50 : Int))) AV.nil)).tup ∧
    True) ∧
    True) ∧
    Sub
    (AV.cons (1 : Nat)
    (AV.ar (4 : Nat) (1 : Nat) fun (x : Nat) => AV.sc (Value.int IntKind.u64 (0 : Int)))
    (AV.cons (1 : Nat) (AV.sc (Value.int IntKind.i64 (50 : Int))) AV.nil)).tup
    res ∧
    SubOut [] []) ∧
    ((r.snd.fst != (↑s.size : Int)) = false →
    ((0 : Nat) = (0 : Nat) ∧ True) ∧
    ∃ (r_1 : Nat → Int),
    ((True ∧ True) ∧
    True ∧
    Ok Proofs.Try.prog (21 : Nat)
    [AV.ar (256 : Nat) (1 : Nat) fun (i : Nat) => AV.sc (Value.bool (r.fst i))] []
    (AV.ar (4 : Nat) (1 : Nat) fun (i0 : Nat) => AV.sc (Value.int IntKind.u64 (r_1 i0))) []) ∧
    ((0 : Nat) = (0 : Nat) ∧ True) ∧
    True ∧
    (((0 : Nat) = (0 : Nat) ∧ True) ∧ True ∧ True) ∧
    (((True ∧ True ∧ True) ∧
    Sub
    (AV.cons (1 : Nat)
    (AV.ar (4 : Nat) (1 : Nat) fun (i0 : Nat) =>
    AV.sc (Value.int IntKind.u64 (r_1 i0)))
    (AV.cons (1 : Nat) (AV.sc (Value.int IntKind.i64 (0 : Int))) AV.nil)).tup
    (AV.cons (1 : Nat)
    (AV.ar (4 : Nat) (1 : Nat) fun (i0 : Nat) =>
    AV.sc (Value.int IntKind.u64 (r_1 i0)))
    (AV.cons (1 : Nat) (AV.sc (Value.int IntKind.i64 (0 : Int))) AV.nil)).tup ∧
    True) ∧
    True) ∧
    Sub
    (AV.cons (1 : Nat)
    (AV.ar (4 : Nat) (1 : Nat) fun (i0 : Nat) =>
    AV.sc (Value.int IntKind.u64 (r_1 i0)))
    (AV.cons (1 : Nat) (AV.sc (Value.int IntKind.i64 (0 : Int))) AV.nil)).tup
    res ∧
    SubOut [] [])) ∧
    ((!r.snd.snd) = !false →
    true = true ∧
    (!false) = !false ∧
    true = true ∧
    (!false) = !false ∧
    true = true ∧
    (!false) = !false ∧
    true = true ∧
    True ∧
    true = true ∧
    True ∧
    ((0 : Nat) = (0 : Nat) ∧ True) ∧
    True ∧
    (((0 : Nat) = (0 : Nat) ∧ True) ∧ True ∧ True) ∧
    (((True ∧ True ∧ True) ∧
    Sub
    (AV.cons (1 : Nat)
    (AV.ar (4 : Nat) (1 : Nat) fun (x : Nat) => AV.sc (Value.int IntKind.u64 (0 : Int)))
    (AV.cons (1 : Nat) (AV.sc (Value.int IntKind.i64 (50 : Int))) AV.nil)).tup
    (AV.cons (1 : Nat)
    (AV.ar (4 : Nat) (1 : Nat) fun (x : Nat) => AV.sc (Value.int IntKind.u64 (0 : Int)))
    (AV.cons (1 : Nat) (AV.sc (Value.int IntKind.i64 (50 : Int))) AV.nil)).tup ∧
    True) ∧
    True) ∧
    Sub
    (AV.cons (1 : Nat)
    (AV.ar (4 : Nat) (1 : Nat) fun (x : Nat) => AV.sc (Value.int IntKind.u64 (0 : Int)))
    (AV.cons (1 : Nat) (AV.sc (Value.int IntKind.i64 (50 : Int))) AV.nil)).tup
    res ∧
    SubOut [] []) from
    ⟨trivial, ⟨trivial, ⟨trivial, (Exists.elim h fun x3 h3 => ⟨x3, (And.elim (fun h4 k4 => ⟨⟨⟨trivial, ⟨trivial, trivial⟩⟩, ⟨trivial, h4⟩⟩, ⟨trivial, ⟨trivial, ⟨trivial, ⟨trivial, ⟨trivial, ⟨⟨rfl, trivial⟩, ⟨trivial, ⟨trivial, ⟨trivial, ⟨trivial, ⟨trivial, (And.elim (fun h16 k16 => ⟨(fun x17 => (fun h17 => ⟨trivial, ⟨rfl, ⟨trivial, ⟨rfl, ⟨trivial, ⟨rfl, ⟨trivial, ⟨trivial, (And.elim (fun h26 k26 => ⟨(fun x27 => (fun h27 => ⟨trivial, ⟨⟨rfl, trivial⟩, ⟨trivial, ⟨⟨⟨rfl, trivial⟩, ⟨trivial, trivial⟩⟩, ⟨⟨⟨⟨trivial, ⟨trivial, trivial⟩⟩, ⟨Sub.refl _, trivial⟩⟩, trivial⟩, ((fun h33 => ⟨h33, trivial⟩) h27)⟩⟩⟩⟩⟩) (h26 x27)), (fun x27 => (fun h27 => ⟨⟨rfl, trivial⟩, (Exists.elim h27 fun x29 h29 => ⟨x29, (And.elim (fun h30 k30 => ⟨⟨⟨trivial, trivial⟩, ⟨trivial, h30⟩⟩, ⟨⟨rfl, trivial⟩, ⟨trivial, ⟨⟨⟨rfl, trivial⟩, ⟨trivial, trivial⟩⟩, ⟨⟨⟨⟨trivial, ⟨trivial, trivial⟩⟩, ⟨Sub.refl _, trivial⟩⟩, trivial⟩, ((fun h35 => ⟨h35, trivial⟩) k30)⟩⟩⟩⟩⟩) h29)⟩)⟩) (k26 x27))⟩) h17)⟩⟩⟩⟩⟩⟩⟩⟩) (h16 x17)), (fun x17 => (fun h17 => ⟨rfl, ⟨rfl, ⟨rfl, ⟨rfl, ⟨rfl, ⟨rfl, ⟨rfl, ⟨trivial, ⟨rfl, ⟨trivial, ⟨⟨rfl, trivial⟩, ⟨trivial, ⟨⟨⟨rfl, trivial⟩, ⟨trivial, trivial⟩⟩, ⟨⟨⟨⟨trivial, ⟨trivial, trivial⟩⟩, ⟨Sub.refl _, trivial⟩⟩, trivial⟩, ((fun h32 => ⟨h32, trivial⟩) h17)⟩⟩⟩⟩⟩⟩⟩⟩⟩⟩⟩⟩⟩⟩) (k16 x17))⟩) k4)⟩⟩⟩⟩⟩⟩⟩⟩⟩⟩⟩⟩) h3)⟩)⟩⟩⟩)
theorem hf12 : Go.Proofs.Try.prog.funcs[12]? = some Go.Proofs.Try.f12 := by kernel_rfl
abbrev s12_e : List (Nat × AV) := []
abbrev m12_e : List (Nat × Nat × AV) := []
def L12_e (res : AV) : Prop := Goes ⟨Go.Proofs.Try.prog, 12, [], res, []⟩ (place Go.Proofs.Try.f12 []) (s12_e ) (m12_e )
theorem a12_e (res : AV) (h : (∀ slot, fact (look .undef (s12_e ) slot)) → L12_e  res) : L12_e  res :=
  assumeRule 12 [] Go.Proofs.Try.f12 hf12 [] (s12_e ) (m12_e ) res [] _ (by kernel_rfl) h
theorem o12 (res : AV) (hnew : newOnly res) (h : L12_e  res) : Ok Go.Proofs.Try.prog 12 [] [] res [] :=
  okRule2 12 Go.Proofs.Try.f12 hf12 [] [] res [] [] rfl (by kernel_rfl) (by kernel_rfl) (by kernel_rfl) ⟨hnew, by simp⟩ (L12_e  res) (by kernel_rfl) h
theorem r12_e (res : AV)
    (h : ∃ (r : Nat → Int),
  Ok Proofs.Try.prog (17 : Nat) [AV.sc (Value.string (ByteArray.mk #[(99 : UInt8), (97 : UInt8), (98 : UInt8)]))] []
    (AV.ar (4 : Nat) (1 : Nat) fun (i0 : Nat) => AV.sc (Value.int IntKind.u64 (r i0))) [] ∧
    ∃ (r_1 : (Nat → Int) × Int),
    Ok Proofs.Try.prog (10 : Nat) [AV.sc (Value.string (ByteArray.mk #[(91 : UInt8), (97 : UInt8), (45 : UInt8), (99 : UInt8), (93 : UInt8)]))] []
    (AV.cons (1 : Nat) (AV.ar (4 : Nat) (1 : Nat) fun (i0 : Nat) => AV.sc (Value.int IntKind.u64 (r_1.fst i0)))
    (AV.cons (1 : Nat) (AV.sc (Value.int IntKind.i64 r_1.snd)) AV.nil)).tup
    [] ∧
    ∃ (r_2 : Bool),
    Ok Proofs.Try.prog (15 : Nat)
    [AV.ar (4 : Nat) (1 : Nat) fun (i : Nat) => AV.sc (Value.int IntKind.u64 (r i)), AV.sc (Value.int IntKind.u8 (98 : Int))] []
    (AV.sc (Value.bool r_2)) [] ∧
    (r_2 = true →
    ∃ (r_3 : Bool),
    Ok Proofs.Try.prog (15 : Nat)
    [AV.ar (4 : Nat) (1 : Nat) fun (i : Nat) => AV.sc (Value.int IntKind.u64 (r i)), AV.sc (Value.int IntKind.u8 (100 : Int))] []
    (AV.sc (Value.bool r_3)) [] ∧
    ((!r_3) = true →
    ∃ (r_4 : ByteArray),
    Ok Proofs.Try.prog (14 : Nat) [AV.ar (4 : Nat) (1 : Nat) fun (i : Nat) => AV.sc (Value.int IntKind.u64 (r i))] []
    (AV.sc (Value.string r_4)) [] ∧
    ((r_4.toList == (ByteArray.mk #[(97 : UInt8), (98 : UInt8), (99 : UInt8)]).toList) = true →
    ∃ (r_5 : ByteArray),
    Ok Proofs.Try.prog (13 : Nat) [AV.ar (4 : Nat) (1 : Nat) fun (i : Nat) => AV.sc (Value.int IntKind.u64 (r i))] []
    (AV.sc (Value.string r_5)) [] ∧
    ((r_5.toList == (ByteArray.mk #[(91 : UInt8), (97 : UInt8), (45 : UInt8), (99 : UInt8), (93 : UInt8)]).toList) = true →
    (∀ (i : Nat),
    i < (4 : Nat) →
    (AV.sc (Value.int IntKind.u64 (r_1.fst i))).sz = (1 : Nat) ∧
    (AV.sc (Value.int IntKind.u64 (r i))).sz = (1 : Nat)) ∧
    (cdec (∀ (i : Nat), i < (4 : Nat) → r_1.fst i = r i) = true → Sub (AV.sc (Value.bool (r_1.snd == (0 : Int)))) res) ∧
    (cdec (∀ (i : Nat), i < (4 : Nat) → r_1.fst i = r i) = !true → Sub (AV.sc (Value.bool false)) res)) ∧
    ((r_5.toList == (ByteArray.mk #[(91 : UInt8), (97 : UInt8), (45 : UInt8), (99 : UInt8), (93 : UInt8)]).toList) = !true →
    Sub (AV.sc (Value.bool false)) res)) ∧
    ((r_4.toList == (ByteArray.mk #[(97 : UInt8), (98 : UInt8), (99 : UInt8)]).toList) = !true →
    Sub (AV.sc (Value.bool false)) res)) ∧
    ((!r_3) = !true → Sub (AV.sc (Value.bool false)) res)) ∧
    (r_2 = !true → Sub (AV.sc (Value.bool false)) res)) :
    L12_e  res :=
  rule Go.Am.Seat.tabOk 12 [] Go.Proofs.Try.f12 hf12 [] (s12_e ) (m12_e ) res [] 400
    (Orc.call [] [] (fun (r17 : Nat → Int) => AV.ar (4 : Nat) (1 : Nat) fun (i0 : Nat) => AV.sc (Value.int IntKind.u64 (r17 i0))) (fun (r17 : Nat → Int) => [])
  fun (r17 : Nat → Int) =>
  Orc.call [] []
    (fun (r10 : (Nat → Int) × Int) =>
    (AV.cons (1 : Nat) (AV.ar (4 : Nat) (1 : Nat) fun (i0 : Nat) => AV.sc (Value.int IntKind.u64 (r10.fst i0)))
    (AV.cons (1 : Nat) (AV.sc (Value.int IntKind.i64 r10.snd)) AV.nil)).tup)
    (fun (r10 : (Nat → Int) × Int) => []) fun (r10 : (Nat → Int) × Int) =>
    Orc.call [] [] (fun (r15 : Bool) => AV.sc (Value.bool r15)) (fun (r15 : Bool) => []) fun (r15 : Bool) =>
    (Orc.call [] [] (fun (r15 : Bool) => AV.sc (Value.bool r15)) (fun (r15 : Bool) => []) fun (r15 : Bool) =>
    ((Orc.call [] [] (fun (r14 : ByteArray) => AV.sc (Value.string r14)) (fun (r14 : ByteArray) => []) fun (r14 : ByteArray) =>
    ((Orc.call [] [] (fun (r13 : ByteArray) => AV.sc (Value.string r13)) (fun (r13 : ByteArray) => []) fun (r13 : ByteArray) =>
    (((Orc.fin (AV.sc (Value.bool (bif true then r10.snd == (0 : Int) else false))) [] []).yes.br
    (Orc.fin (AV.sc (Value.bool false)) [] []).no).yes.yes.br
    (Orc.fin (AV.sc (Value.bool false)) [] []).no.no.no.no).yes).yes.br
    (Orc.fin (AV.sc (Value.bool false)) [] []).no.no.no.no.no.no.no).yes).yes.br
    (Orc.fin (AV.sc (Value.bool false)) [] []).no.no.no.no.no.no.no.no.no.no).yes).yes.br
    (Orc.fin (AV.sc (Value.bool false)) [] []).no.no.no.no.no.no.no.no.no.no.no.no.no) _ _ (by kernel_rfl) (by kernel_rfl) (show True ∧
  ∃ (r : Nat → Int),
    ((True ∧ True) ∧
    True ∧
    Ok Proofs.Try.prog (17 : Nat) [AV.sc (Value.string (ByteArray.mk #[(99 : UInt8), (97 : UInt8), (98 : UInt8)]))] []
    (AV.ar (4 : Nat) (1 : Nat) fun (i0 : Nat) => AV.sc (Value.int IntKind.u64 (r i0))) []) ∧
    True ∧
    ((0 : Nat) = (0 : Nat) ∧ True) ∧
    ∃ (r_1 : (Nat → Int) × Int),
    ((True ∧ True) ∧
    True ∧
    Ok Proofs.Try.prog (10 : Nat) [AV.sc (Value.string (ByteArray.mk #[(91 : UInt8), (97 : UInt8), (45 : UInt8), (99 : UInt8), (93 : UInt8)]))] []
    (AV.cons (1 : Nat) (AV.ar (4 : Nat) (1 : Nat) fun (i0 : Nat) => AV.sc (Value.int IntKind.u64 (r_1.fst i0)))
    (AV.cons (1 : Nat) (AV.sc (Value.int IntKind.i64 r_1.snd)) AV.nil)).tup
    []) ∧
    True ∧
    True ∧
    True ∧
    True ∧
    ((0 : Nat) = (0 : Nat) ∧ True) ∧
    True ∧
    ((0 : Nat) = (0 : Nat) ∧ True) ∧
    ∃ (r_2 : Bool),
    ((True ∧ True ∧ True) ∧
    True ∧
    Ok Proofs.Try.prog (15 : Nat)
    [AV.ar (4 : Nat) (1 : Nat) fun (i : Nat) => AV.sc (Value.int IntKind.u64 (r i)), AV.sc (Value.int IntKind.u8 (98 : Int))]
    [] (AV.sc (Value.bool r_2)) []) ∧
    True ∧
    (r_2 = true →
    ((0 : Nat) = (0 : Nat) ∧ True) ∧
    true = true ∧
    ∃ (r_3 : Bool),
    ((True ∧ True ∧ True) ∧
    True ∧
    Ok Proofs.Try.prog (15 : Nat)
    [AV.ar (4 : Nat) (1 : Nat) fun (i : Nat) => AV.sc (Value.int IntKind.u64 (r i)),
    AV.sc (Value.int IntKind.u8 (100 : Int))]
    [] (AV.sc (Value.bool r_3)) []) ∧
    true = true ∧
    True ∧
    True ∧
    True ∧
    ((!r_3) = true →
    ((0 : Nat) = (0 : Nat) ∧ True) ∧
    true = true ∧
    ∃ (r_4 : ByteArray),
    ((True ∧ True) ∧
    True ∧
    Ok Proofs.Try.prog (14 : Nat)
    [AV.ar (4 : Nat) (1 : Nat) fun (i : Nat) => AV.sc (Value.int IntKind.u64 (r i))] []
    (AV.sc (Value.string r_4)) []) ∧
    true = true ∧
    True ∧
    True ∧
    True ∧
    ((r_4.toList == (ByteArray.mk #[(97 : UInt8), (98 : UInt8), (99 : UInt8)]).toList) =
    true →
    ((0 : Nat) = (0 : Nat) ∧ True) ∧
    true = true ∧
    ∃ (r_5 : ByteArray),
    ((True ∧ True) ∧
    True ∧
    Ok Proofs.Try.prog (13 : Nat)
    [AV.ar (4 : Nat) (1 : Nat) fun (i : Nat) =>
    AV.sc (Value.int IntKind.u64 (r i))]
    [] (AV.sc (Value.string r_5)) []) ∧
    true = true ∧
    True ∧
    True ∧
    True ∧
    ((r_5.toList ==
    (ByteArray.mk
    #[(91 : UInt8), (97 : UInt8), (45 : UInt8),
    (99 : UInt8), (93 : UInt8)]).toList) =
    true →
    ((0 : Nat) = (0 : Nat) ∧ True) ∧
    true = true ∧
    ((0 : Nat) = (0 : Nat) ∧ True) ∧
    true = true ∧
    (∀ (i : Nat),
    i < (4 : Nat) →
    (AV.sc (Value.int IntKind.u64 (r_1.fst i))).sz =
    (1 : Nat) ∧
    (AV.sc (Value.int IntKind.u64 (r i))).sz =
    (1 : Nat) ∧
    false = false ∧ false = false ∧ True) ∧
    True ∧
    True ∧
    (cdec
    (∀ (i : Nat),
    i < (4 : Nat) → r_1.fst i = r i) =
    true →
    True ∧
    true = true ∧
    True ∧
    True ∧
    True ∧
    True ∧
    ((True ∧
    Sub
    (AV.sc
    (Value.bool
    (r_1.snd ==
    (0 : Int))))
    (AV.sc
    (Value.bool
    (r_1.snd ==
    (0 : Int)))) ∧
    True) ∧
    True) ∧
    Sub
    (AV.sc
    (Value.bool
    (r_1.snd ==
    (0 : Int))))
    res ∧
    SubOut [] []) ∧
    (cdec
    (∀ (i : Nat),
    i < (4 : Nat) → r_1.fst i = r i) =
    !true →
    true = true ∧
    (!true) = !true ∧
    true = true ∧
    True ∧
    True ∧
    True ∧
    ((True ∧
    Sub
    (AV.sc
    (Value.bool false))
    (AV.sc
    (Value.bool
    false)) ∧
    True) ∧
    True) ∧
    Sub (AV.sc (Value.bool false))
    res ∧
    SubOut [] [])) ∧
    ((r_5.toList ==
    (ByteArray.mk
    #[(91 : UInt8), (97 : UInt8), (45 : UInt8),
    (99 : UInt8), (93 : UInt8)]).toList) =
    !true →
    true = true ∧
    (!true) = !true ∧
    true = true ∧
    (!true) = !true ∧
    true = true ∧
    True ∧
    True ∧
    false = !true ∧
    true = true ∧
    (!true) = !true ∧
    true = true ∧
    True ∧
    True ∧
    True ∧
    ((True ∧
    Sub
    (AV.sc
    (Value.bool false))
    (AV.sc
    (Value.bool false)) ∧
    True) ∧
    True) ∧
    Sub (AV.sc (Value.bool false))
    res ∧
    SubOut [] [])) ∧
    ((r_4.toList == (ByteArray.mk #[(97 : UInt8), (98 : UInt8), (99 : UInt8)]).toList) =
    !true →
    true = true ∧
    (!true) = !true ∧
    true = true ∧
    (!true) = !true ∧
    true = true ∧
    True ∧
    True ∧
    false = !true ∧
    true = true ∧
    (!true) = !true ∧
    true = true ∧
    (!true) = !true ∧
    true = true ∧
    True ∧
    True ∧
    false = !true ∧
    true = true ∧
    (!true) = !true ∧
    true = true ∧
    True ∧
    True ∧
    True ∧
    ((True ∧
    Sub (AV.sc (Value.bool false))
    (AV.sc (Value.bool false)) ∧
    True) ∧
    True) ∧
    Sub (AV.sc (Value.bool false)) res ∧
    SubOut [] [])) ∧
    ((!r_3) = !true →
    true = true ∧
    (!true) = !true ∧
    true = true ∧
    (!true) = !true ∧
    true = true ∧
    True ∧
    True ∧
    false = !true ∧
    true = true ∧
    (!true) = !true ∧
    true = true ∧
    (!true) = !true ∧
    true = true ∧
    True ∧
    True ∧
    false = !true ∧
    true = true ∧
    (!true) = !true ∧
    true = true ∧
    (!true) = !true ∧
    true = true ∧
    True ∧
    True ∧
    false = !true ∧
    true = true ∧
    (!true) = !true ∧
    true = true ∧
    True ∧
    True ∧
    True ∧
    ((True ∧
    Sub (AV.sc (Value.bool false))
    (AV.sc (Value.bool false)) ∧
    True) ∧
    True) ∧
    Sub (AV.sc (Value.bool false)) res ∧
    SubOut [] [])) ∧
    (r_2 = !true →
    true = true ∧
    (!true) = !true ∧
    true = true ∧
    (!true) = !true ∧
    true = true ∧
    True ∧
    True ∧
    false = !true ∧
    true = true ∧
    (!true) = !true ∧
    true = true ∧
    (!true) = !true ∧
    true = true ∧
    True ∧
    True ∧
    false = !true ∧
    true = true ∧
    (!true) = !true ∧
    true = true ∧
    (!true) = !true ∧
    true = true ∧
    True ∧
    True ∧
    false = !true ∧
    true = true ∧
    (!true) = !true ∧
    true = true ∧
    (!true) = !true ∧
    true = true ∧
    True ∧
    True ∧
    false = !true ∧
    true = true ∧
    (!true) = !true ∧
    true = true ∧
    True ∧
    True ∧
    True ∧
    ((True ∧
    Sub (AV.sc (Value.bool false))
    (AV.sc (Value.bool false)) ∧
    True) ∧
    True) ∧
    Sub (AV.sc (Value.bool false)) res ∧
    SubOut [] []) from
    ⟨trivial, (Exists.elim h fun x1 h1 => ⟨x1, (And.elim (fun h2 k2 => ⟨⟨⟨trivial, trivial⟩, ⟨trivial, h2⟩⟩, ⟨trivial, ⟨⟨rfl, trivial⟩, (Exists.elim k2 fun x5 h5 => ⟨x5, (And.elim (fun h6 k6 => ⟨⟨⟨trivial, trivial⟩, ⟨trivial, h6⟩⟩, ⟨trivial, ⟨trivial, ⟨trivial, ⟨trivial, ⟨⟨rfl, trivial⟩, ⟨trivial, ⟨⟨rfl, trivial⟩, (Exists.elim k6 fun x14 h14 => ⟨x14, (And.elim (fun h15 k15 => ⟨⟨⟨trivial, ⟨trivial, trivial⟩⟩, ⟨trivial, h15⟩⟩, ⟨trivial, (And.elim (fun h17 k17 => ⟨(fun x18 => (fun h18 => ⟨⟨rfl, trivial⟩, ⟨rfl, (Exists.elim h18 fun x21 h21 => ⟨x21, (And.elim (fun h22 k22 => ⟨⟨⟨trivial, ⟨trivial, trivial⟩⟩, ⟨trivial, h22⟩⟩, ⟨rfl, ⟨trivial, ⟨trivial, ⟨trivial, (And.elim (fun h27 k27 => ⟨(fun x28 => (fun h28 => ⟨⟨rfl, trivial⟩, ⟨rfl, (Exists.elim h28 fun x31 h31 => ⟨x31, (And.elim (fun h32 k32 => ⟨⟨⟨trivial, trivial⟩, ⟨trivial, h32⟩⟩, ⟨rfl, ⟨trivial, ⟨trivial, ⟨trivial, (And.elim (fun h37 k37 => ⟨(fun x38 => (fun h38 => ⟨⟨rfl, trivial⟩, ⟨rfl, (Exists.elim h38 fun x41 h41 => ⟨x41, (And.elim (fun h42 k42 => ⟨⟨⟨trivial, trivial⟩, ⟨trivial, h42⟩⟩, ⟨rfl, ⟨trivial, ⟨trivial, ⟨trivial, (And.elim (fun h47 k47 => ⟨(fun x48 => (fun h48 => ⟨⟨rfl, trivial⟩, ⟨rfl, ⟨⟨rfl, trivial⟩, ⟨rfl, (And.elim (fun h53 k53 => ⟨(fun x54 => (fun h54 => (fun x55 => (fun h55 => (And.elim (fun h56 k56 => ⟨h56, ((fun h57 => ⟨h57, ⟨rfl, ⟨rfl, trivial⟩⟩⟩) k56)⟩) h55)) (h54 x55))) (h53 x54)), ⟨trivial, ⟨trivial, (And.elim (fun h56 k56 => ⟨(fun x57 => (fun h57 => ⟨trivial, ⟨rfl, ⟨trivial, ⟨trivial, ⟨trivial, ⟨trivial, ⟨⟨⟨trivial, ⟨Sub.refl _, trivial⟩⟩, trivial⟩, ((fun h65 => ⟨h65, trivial⟩) h57)⟩⟩⟩⟩⟩⟩⟩) (h56 x57)), (fun x57 => (fun h57 => ⟨rfl, ⟨rfl, ⟨rfl, ⟨trivial, ⟨trivial, ⟨trivial, ⟨⟨⟨trivial, ⟨Sub.refl _, trivial⟩⟩, trivial⟩, ((fun h65 => ⟨h65, trivial⟩) h57)⟩⟩⟩⟩⟩⟩⟩) (k56 x57))⟩) k53)⟩⟩⟩) h48)⟩⟩⟩⟩) (h47 x48)), (fun x48 => (fun h48 => ⟨rfl, ⟨rfl, ⟨rfl, ⟨rfl, ⟨rfl, ⟨trivial, ⟨trivial, ⟨rfl, ⟨rfl, ⟨rfl, ⟨rfl, ⟨trivial, ⟨trivial, ⟨trivial, ⟨⟨⟨trivial, ⟨Sub.refl _, trivial⟩⟩, trivial⟩, ((fun h64 => ⟨h64, trivial⟩) h48)⟩⟩⟩⟩⟩⟩⟩⟩⟩⟩⟩⟩⟩⟩⟩) (k47 x48))⟩) k42)⟩⟩⟩⟩⟩) h41)⟩)⟩⟩) (h37 x38)), (fun x38 => (fun h38 => ⟨rfl, ⟨rfl, ⟨rfl, ⟨rfl, ⟨rfl, ⟨trivial, ⟨trivial, ⟨rfl, ⟨rfl, ⟨rfl, ⟨rfl, ⟨rfl, ⟨rfl, ⟨trivial, ⟨trivial, ⟨rfl, ⟨rfl, ⟨rfl, ⟨rfl, ⟨trivial, ⟨trivial, ⟨trivial, ⟨⟨⟨trivial, ⟨Sub.refl _, trivial⟩⟩, trivial⟩, ((fun h62 => ⟨h62, trivial⟩) h38)⟩⟩⟩⟩⟩⟩⟩⟩⟩⟩⟩⟩⟩⟩⟩⟩⟩⟩⟩⟩⟩⟩⟩) (k37 x38))⟩) k32)⟩⟩⟩⟩⟩) h31)⟩)⟩⟩) (h27 x28)), (fun x28 => (fun h28 => ⟨rfl, ⟨rfl, ⟨rfl, ⟨rfl, ⟨rfl, ⟨trivial, ⟨trivial, ⟨rfl, ⟨rfl, ⟨rfl, ⟨rfl, ⟨rfl, ⟨rfl, ⟨trivial, ⟨trivial, ⟨rfl, ⟨rfl, ⟨rfl, ⟨rfl, ⟨rfl, ⟨rfl, ⟨trivial, ⟨trivial, ⟨rfl, ⟨rfl, ⟨rfl, ⟨rfl, ⟨trivial, ⟨trivial, ⟨trivial, ⟨⟨⟨trivial, ⟨Sub.refl _, trivial⟩⟩, trivial⟩, ((fun h60 => ⟨h60, trivial⟩) h28)⟩⟩⟩⟩⟩⟩⟩⟩⟩⟩⟩⟩⟩⟩⟩⟩⟩⟩⟩⟩⟩⟩⟩⟩⟩⟩⟩⟩⟩⟩⟩) (k27 x28))⟩) k22)⟩⟩⟩⟩⟩) h21)⟩)⟩⟩) (h17 x18)), (fun x18 => (fun h18 => ⟨rfl, ⟨rfl, ⟨rfl, ⟨rfl, ⟨rfl, ⟨trivial, ⟨trivial, ⟨rfl, ⟨rfl, ⟨rfl, ⟨rfl, ⟨rfl, ⟨rfl, ⟨trivial, ⟨trivial, ⟨rfl, ⟨rfl, ⟨rfl, ⟨rfl, ⟨rfl, ⟨rfl, ⟨trivial, ⟨trivial, ⟨rfl, ⟨rfl, ⟨rfl, ⟨rfl, ⟨rfl, ⟨rfl, ⟨trivial, ⟨trivial, ⟨rfl, ⟨rfl, ⟨rfl, ⟨rfl, ⟨trivial, ⟨trivial, ⟨trivial, ⟨⟨⟨trivial, ⟨Sub.refl _, trivial⟩⟩, trivial⟩, ((fun h58 => ⟨h58, trivial⟩) h18)⟩⟩⟩⟩⟩⟩⟩⟩⟩⟩⟩⟩⟩⟩⟩⟩⟩⟩⟩⟩⟩⟩⟩⟩⟩⟩⟩⟩⟩⟩⟩⟩⟩⟩⟩⟩⟩⟩⟩) (k17 x18))⟩) k15)⟩⟩) h14)⟩)⟩⟩⟩⟩⟩⟩⟩⟩) h5)⟩)⟩⟩⟩) h1)⟩)⟩)
theorem hf13 : Go.Proofs.Try.prog.funcs[13]? = some Go.Proofs.Try.f13 := by kernel_rfl
abbrev s13_e (sf : Nat → Int) : List (Nat × AV) := [(0, (.ar 4 1 (fun i0 => (.sc (.int .u64 (sf i0))))))]
abbrev m13_e (sf : Nat → Int) : List (Nat × Nat × AV) := []
def L13_e (sf : Nat → Int) (res : AV) : Prop := Goes ⟨Go.Proofs.Try.prog, 13, [], res, []⟩ (place Go.Proofs.Try.f13 []) (s13_e sf) (m13_e sf)
theorem a13_e (sf : Nat → Int) (res : AV) (h : (∀ slot, fact (look .undef (s13_e sf) slot)) → L13_e sf res) : L13_e sf res :=
  assumeRule 13 [] Go.Proofs.Try.f13 hf13 [] (s13_e sf) (m13_e sf) res [] _ (by kernel_rfl) h
abbrev s13_0 (out_n : Nat) (b0f : Nat → Int) (b1n : Nat) (b1f : Nat → Int) : List (Nat × AV) := [(1, (.pt 1000 [] 0)), (3, (.rf 1001 1 0 out_n))]
abbrev m13_0 (out_n : Nat) (b0f : Nat → Int) (b1n : Nat) (b1f : Nat → Int) : List (Nat × Nat × AV) := [(1000, 24, (.ar 4 1 (fun i0 => (.sc (.int .u64 (b0f i0)))))), (1001, 5, (.ar b1n 1 (fun i0 => (.sc (.int .u8 (b1f i0))))))]
def L13_0 (out_n : Nat) (b0f : Nat → Int) (b1n : Nat) (b1f : Nat → Int) (res : AV) : Prop := Goes ⟨Go.Proofs.Try.prog, 13, [], res, []⟩ (place Go.Proofs.Try.f13 [1, 1, 1]) (s13_0 out_n b0f b1n b1f) (m13_0 out_n b0f b1n b1f)
theorem a13_0 (out_n : Nat) (b0f : Nat → Int) (b1n : Nat) (b1f : Nat → Int) (res : AV) (h : (∀ slot, fact (look .undef (s13_0 out_n b0f b1n b1f) slot)) → L13_0 out_n b0f b1n b1f res) : L13_0 out_n b0f b1n b1f res :=
  assumeRule 13 [] Go.Proofs.Try.f13 hf13 [1, 1, 1] (s13_0 out_n b0f b1n b1f) (m13_0 out_n b0f b1n b1f) res [] _ (by kernel_rfl) h
abbrev s13_1 (out_n : Nat) (b : Int) (b0f : Nat → Int) (b1n : Nat) (b1f : Nat → Int) : List (Nat × AV) := [(1, (.pt 1000 [] 0)), (3, (.rf 1001 1 0 out_n)), (4, (.sc (.int .i64 b)))]
abbrev m13_1 (out_n : Nat) (b : Int) (b0f : Nat → Int) (b1n : Nat) (b1f : Nat → Int) : List (Nat × Nat × AV) := [(1000, 24, (.ar 4 1 (fun i0 => (.sc (.int .u64 (b0f i0)))))), (1001, 5, (.ar b1n 1 (fun i0 => (.sc (.int .u8 (b1f i0))))))]
def L13_1 (out_n : Nat) (b : Int) (b0f : Nat → Int) (b1n : Nat) (b1f : Nat → Int) (res : AV) : Prop := Goes ⟨Go.Proofs.Try.prog, 13, [], res, []⟩ (place Go.Proofs.Try.f13 [1, 1, 1, 0, 1, 0, 0]) (s13_1 out_n b b0f b1n b1f) (m13_1 out_n b b0f b1n b1f)
theorem a13_1 (out_n : Nat) (b : Int) (b0f : Nat → Int) (b1n : Nat) (b1f : Nat → Int) (res : AV) (h : (∀ slot, fact (look .undef (s13_1 out_n b b0f b1n b1f) slot)) → L13_1 out_n b b0f b1n b1f res) : L13_1 out_n b b0f b1n b1f res :=
  assumeRule 13 [] Go.Proofs.Try.f13 hf13 [1, 1, 1, 0, 1, 0, 0] (s13_1 out_n b b0f b1n b1f) (m13_1 out_n b b0f b1n b1f) res [] _ (by kernel_rfl) h
abbrev s13_2 (out_n : Nat) (b : Int) (to : Int) (b0f : Nat → Int) (b1n : Nat) (b1f : Nat → Int) : List (Nat × AV) := [(1, (.pt 1000 [] 0)), (3, (.rf 1001 1 0 out_n)), (4, (.sc (.int .i64 b))), (5, (.sc (.int .i64 to)))]
abbrev m13_2 (out_n : Nat) (b : Int) (to : Int) (b0f : Nat → Int) (b1n : Nat) (b1f : Nat → Int) : List (Nat × Nat × AV) := [(1000, 24, (.ar 4 1 (fun i0 => (.sc (.int .u64 (b0f i0)))))), (1001, 5, (.ar b1n 1 (fun i0 => (.sc (.int .u8 (b1f i0))))))]
def L13_2 (out_n : Nat) (b : Int) (to : Int) (b0f : Nat → Int) (b1n : Nat) (b1f : Nat → Int) (res : AV) : Prop := Goes ⟨Go.Proofs.Try.prog, 13, [], res, []⟩ (place Go.Proofs.Try.f13 [1, 1, 1, 0, 1, 0, 0, 1, 0, 0, 1, 1, 0, 0, 0]) (s13_2 out_n b to b0f b1n b1f) (m13_2 out_n b to b0f b1n b1f)
theorem a13_2 (out_n : Nat) (b : Int) (to : Int) (b0f : Nat → Int) (b1n : Nat) (b1f : Nat → Int) (res : AV) (h : (∀ slot, fact (look .undef (s13_2 out_n b to b0f b1n b1f) slot)) → L13_2 out_n b to b0f b1n b1f res) : L13_2 out_n b to b0f b1n b1f res :=
  assumeRule 13 [] Go.Proofs.Try.f13 hf13 [1, 1, 1, 0, 1, 0, 0, 1, 0, 0, 1, 1, 0, 0, 0] (s13_2 out_n b to b0f b1n b1f) (m13_2 out_n b to b0f b1n b1f) res [] _ (by kernel_rfl) h
abbrev s13_3 (out_n : Nat) (b : Int) (b0f : Nat → Int) (b1n : Nat) (b1f : Nat → Int) : List (Nat × AV) := [(1, (.pt 1000 [] 0)), (3, (.rf 1001 1 0 out_n)), (4, (.sc (.int .i64 b)))]
abbrev m13_3 (out_n : Nat) (b : Int) (b0f : Nat → Int) (b1n : Nat) (b1f : Nat → Int) : List (Nat × Nat × AV) := [(1000, 24, (.ar 4 1 (fun i0 => (.sc (.int .u64 (b0f i0)))))), (1001, 5, (.ar b1n 1 (fun i0 => (.sc (.int .u8 (b1f i0))))))]
def L13_3 (out_n : Nat) (b : Int) (b0f : Nat → Int) (b1n : Nat) (b1f : Nat → Int) (res : AV) : Prop := Goes ⟨Go.Proofs.Try.prog, 13, [], res, []⟩ (place Go.Proofs.Try.f13 [1, 1, 1, 0, 1, 0, 0, 1, 1]) (s13_3 out_n b b0f b1n b1f) (m13_3 out_n b b0f b1n b1f)
theorem a13_3 (out_n : Nat) (b : Int) (b0f : Nat → Int) (b1n : Nat) (b1f : Nat → Int) (res : AV) (h : (∀ slot, fact (look .undef (s13_3 out_n b b0f b1n b1f) slot)) → L13_3 out_n b b0f b1n b1f res) : L13_3 out_n b b0f b1n b1f res :=
  assumeRule 13 [] Go.Proofs.Try.f13 hf13 [1, 1, 1, 0, 1, 0, 0, 1, 1] (s13_3 out_n b b0f b1n b1f) (m13_3 out_n b b0f b1n b1f) res [] _ (by kernel_rfl) h
theorem o13 (sf : Nat → Int) (res : AV) (hnew : newOnly res) (h : L13_e sf res) : Ok Go.Proofs.Try.prog 13 [(.ar 4 1 (fun i0 => (.sc (.int .u64 (sf i0)))))] [] res [] :=
  okRule2 13 Go.Proofs.Try.f13 hf13 [(.ar 4 1 (fun i0 => (.sc (.int .u64 (sf i0)))))] [] res [] [] rfl (by kernel_rfl) (by kernel_rfl) (by kernel_rfl) ⟨hnew, by simp⟩ (L13_e sf res) (by kernel_rfl) h
theorem r13_e (sf : Nat → Int) (res : AV)
    (h : ∃ (r : Int),
  Ok Proofs.Try.prog (16 : Nat) [AV.ar (4 : Nat) (1 : Nat) fun (i : Nat) => AV.sc (Value.int IntKind.u64 (sf i))] [] (AV.sc (Value.int IntKind.i64 r)) [] ∧
    (decide (r > (128 : Int)) = true →
    ((1 : Nat) ≤ (1 : Nat) ∧
    (0 : Nat) + (1 : Nat) ≤ (1 : Nat) ∧ ((1 : Nat) + (1 : Nat)) * (1 : Nat) ≤ (140737488355328 : Nat) ∧ (1 : Nat) + (1 : Nat) ≤ maxLen) ∧
    ∃ (r : Nat → Int),
    Ok Proofs.Try.prog (25 : Nat) [AV.ar (4 : Nat) (1 : Nat) fun (i : Nat) => AV.sc (Value.int IntKind.u64 (sf i))] []
    (AV.ar (4 : Nat) (1 : Nat) fun (i0 : Nat) => AV.sc (Value.int IntKind.u64 (r i0))) [] ∧
    L13_0 (2 : Nat) r (2 : Nat)
    (fun (i : Nat) =>
    bif i.blt (1 : Nat) then bif i.beq (0 : Nat) then (91 : Int) else (0 : Int)
    else bif ((0 : Nat) + (i - (1 : Nat))).beq (0 : Nat) then (94 : Int) else (0 : Int))
    res) ∧
    (decide (r > (128 : Int)) = false → L13_0 (1 : Nat) sf (1 : Nat) (fun (i : Nat) => bif i.beq (0 : Nat) then (91 : Int) else (0 : Int)) res)) :
    L13_e sf res :=
  rule Go.Am.Seat.tabOk 13 [] Go.Proofs.Try.f13 hf13 [] (s13_e sf) (m13_e sf) res [] 400
    (Orc.call [] [] (fun (r16 : Int) => AV.sc (Value.int IntKind.i64 r16)) (fun (r16 : Int) => []) fun (r16 : Int) =>
  (Orc.call [] [] (fun (r25 : Nat → Int) => AV.ar (4 : Nat) (1 : Nat) fun (i0 : Nat) => AV.sc (Value.int IntKind.u64 (r25 i0))) (fun (r25 : Nat → Int) => [])
    fun (r25 : Nat → Int) =>
    Orc.cut (nat_lit 0)
    (s13_0 (2 : Nat) r25 (2 : Nat) fun (i : Nat) =>
    bif i.blt (1 : Nat) then bif i.beq ((0 : Nat), Operand.const (Value.int IntKind.u8 (91 : Int))).fst then (91 : Int) else (0 : Int)
    else bif ((0 : Nat) + (i - (1 : Nat))).beq ((0 : Nat), Operand.const (Value.int IntKind.u8 (94 : Int))).fst then (94 : Int) else (0 : Int))
    (m13_0 (2 : Nat) r25 (2 : Nat) fun (i : Nat) =>
    bif i.blt (1 : Nat) then bif i.beq ((0 : Nat), Operand.const (Value.int IntKind.u8 (91 : Int))).fst then (91 : Int) else (0 : Int)
    else bif ((0 : Nat) + (i - (1 : Nat))).beq ((0 : Nat), Operand.const (Value.int IntKind.u8 (94 : Int))).fst then (94 : Int) else (0 : Int))
    [((1000 : Nat), some (1 : Nat)), ((1001 : Nat), some (12 : Nat))]).br
    (Orc.cut (nat_lit 1)
    (s13_0 (1 : Nat) sf (1 : Nat) fun (i : Nat) => bif i.beq ((0 : Nat), Operand.const (Value.int IntKind.u8 (91 : Int))).fst then (91 : Int) else (0 : Int))
    (m13_0 (1 : Nat) sf (1 : Nat) fun (i : Nat) => bif i.beq ((0 : Nat), Operand.const (Value.int IntKind.u8 (91 : Int))).fst then (91 : Int) else (0 : Int))
    [((1000 : Nat), some (1 : Nat)), ((1001 : Nat), some (6 : Nat))])) _ _ (by kernel_rfl) (by kernel_rfl) (show True ∧
  True ∧
    ((True ∧ True) ∧ True) ∧
    True ∧
    ((0 : Nat) = (0 : Nat) ∧ True) ∧
    ∃ (r : Int),
    ((True ∧ True) ∧
    True ∧
    Ok Proofs.Try.prog (16 : Nat) [AV.ar (4 : Nat) (1 : Nat) fun (i : Nat) => AV.sc (Value.int IntKind.u64 (sf i))] []
    (AV.sc (Value.int IntKind.i64 r)) []) ∧
    True ∧
    (decide (r > (128 : Int)) = true →
    True ∧
    ((True ∧ True) ∧ True) ∧
    ((1 : Nat) ≤ (1 : Nat) ∧
    ((0 : Nat) + (1 : Nat) ≤ (1 : Nat) ∧ (1 : Nat) = (1 : Nat)) ∧
    ((1 : Nat) + (1 : Nat)) * (1 : Nat) ≤ (140737488355328 : Nat) ∧ (1 : Nat) + (1 : Nat) ≤ maxLen) ∧
    True ∧
    ((0 : Nat) = (0 : Nat) ∧ True) ∧
    ∃ (r : Nat → Int),
    ((True ∧ True) ∧
    True ∧
    Ok Proofs.Try.prog (25 : Nat) [AV.ar (4 : Nat) (1 : Nat) fun (i : Nat) => AV.sc (Value.int IntKind.u64 (sf i))] []
    (AV.ar (4 : Nat) (1 : Nat) fun (i0 : Nat) => AV.sc (Value.int IntKind.u64 (r i0))) []) ∧
    ((0 : Nat) = (0 : Nat) ∧ True) ∧
    ((True ∧
    Sub (AV.pt (1000 : Nat) [] (0 : Nat)) (AV.pt (1000 : Nat) [] (0 : Nat)) ∧
    True ∧
    Sub (AV.rf (1001 : Nat) (1 : Nat) (0 : Nat) (2 : Nat)) (AV.rf (1001 : Nat) (1 : Nat) (0 : Nat) (2 : Nat)) ∧
    True) ∧
    True ∧
    SubB (AV.ar (4 : Nat) (1 : Nat) fun (i0 : Nat) => AV.sc (Value.int IntKind.u64 (r i0)))
    (AV.ar (4 : Nat) (1 : Nat) fun (i0 : Nat) => AV.sc (Value.int IntKind.u64 (r i0))) ∧
    True ∧
    SubB
    (AV.ar (2 : Nat) (1 : Nat) fun (i : Nat) =>
    AV.sc
    (Value.int IntKind.u8
    (bif i.blt (1 : Nat) then bif i.beq (0 : Nat) then (91 : Int) else (0 : Int)
    else bif ((0 : Nat) + (i - (1 : Nat))).beq (0 : Nat) then (94 : Int) else (0 : Int))))
    (AV.ar (2 : Nat) (1 : Nat) fun (i0 : Nat) =>
    AV.sc
    (Value.int IntKind.u8
    (bif i0.blt (1 : Nat) then bif i0.beq (0 : Nat) then (91 : Int) else (0 : Int)
    else bif ((0 : Nat) + (i0 - (1 : Nat))).beq (0 : Nat) then (94 : Int) else (0 : Int)))) ∧
    True) ∧
    L13_0 (2 : Nat) r (2 : Nat)
    (fun (i : Nat) =>
    bif i.blt (1 : Nat) then bif i.beq (0 : Nat) then (91 : Int) else (0 : Int)
    else bif ((0 : Nat) + (i - (1 : Nat))).beq (0 : Nat) then (94 : Int) else (0 : Int))
    res) ∧
    (decide (r > (128 : Int)) = false →
    ((True ∧
    Sub (AV.pt (1000 : Nat) [] (0 : Nat)) (AV.pt (1000 : Nat) [] (0 : Nat)) ∧
    True ∧ Sub (AV.rf (1001 : Nat) (1 : Nat) (0 : Nat) (1 : Nat)) (AV.rf (1001 : Nat) (1 : Nat) (0 : Nat) (1 : Nat)) ∧ True) ∧
    True ∧
    SubB (AV.ar (4 : Nat) (1 : Nat) fun (i0 : Nat) => AV.sc (Value.int IntKind.u64 (sf i0)))
    (AV.ar (4 : Nat) (1 : Nat) fun (i0 : Nat) => AV.sc (Value.int IntKind.u64 (sf i0))) ∧
    True ∧
    SubB
    (AV.ar (1 : Nat) (1 : Nat) fun (i : Nat) => AV.sc (Value.int IntKind.u8 (bif i.beq (0 : Nat) then (91 : Int) else (0 : Int))))
    (AV.ar (1 : Nat) (1 : Nat) fun (i0 : Nat) =>
    AV.sc (Value.int IntKind.u8 (bif i0.beq (0 : Nat) then (91 : Int) else (0 : Int)))) ∧
    True) ∧
    L13_0 (1 : Nat) sf (1 : Nat) (fun (i : Nat) => bif i.beq (0 : Nat) then (91 : Int) else (0 : Int)) res) from
    ⟨trivial, ⟨trivial, ⟨⟨⟨trivial, trivial⟩, trivial⟩, ⟨trivial, ⟨⟨rfl, trivial⟩, (Exists.elim h fun x5 h5 => ⟨x5, (And.elim (fun h6 k6 => ⟨⟨⟨trivial, trivial⟩, ⟨trivial, h6⟩⟩, ⟨trivial, (And.elim (fun h8 k8 => ⟨(fun x9 => (fun h9 => ⟨trivial, ⟨⟨⟨trivial, trivial⟩, trivial⟩, (And.elim (fun h12 k12 => ⟨(And.elim (fun h13 k13 => ⟨h13, (And.elim (fun h14 k14 => ⟨((fun h15 => ⟨h15, rfl⟩) h14), (And.elim (fun h15 k15 => ⟨h15, k15⟩) k14)⟩) k13)⟩) h12), ⟨trivial, ⟨⟨rfl, trivial⟩, (Exists.elim k12 fun x15 h15 => ⟨x15, (And.elim (fun h16 k16 => ⟨⟨⟨trivial, trivial⟩, ⟨trivial, h16⟩⟩, ⟨⟨rfl, trivial⟩, ⟨⟨⟨trivial, ⟨Sub.refl _, ⟨trivial, ⟨Sub.refl _, trivial⟩⟩⟩⟩, ⟨trivial, ⟨SubB.refl _, ⟨trivial, ⟨SubB.refl _, trivial⟩⟩⟩⟩⟩, k16⟩⟩⟩) h15)⟩)⟩⟩⟩) h9)⟩⟩) (h8 x9)), (fun x9 => (fun h9 => ⟨⟨⟨trivial, ⟨Sub.refl _, ⟨trivial, ⟨Sub.refl _, trivial⟩⟩⟩⟩, ⟨trivial, ⟨SubB.refl _, ⟨trivial, ⟨SubB.refl _, trivial⟩⟩⟩⟩⟩, h9⟩) (k8 x9))⟩) k6)⟩⟩) h5)⟩)⟩⟩⟩⟩⟩)
theorem r13_0 (out_n : Nat) (b0f : Nat → Int) (b1n : Nat) (b1f : Nat → Int) (res : AV)
    (h : L13_1 out_n (0 : Int) b0f b1n b1f res) :
    L13_0 out_n b0f b1n b1f res :=
  rule Go.Am.Seat.tabOk 13 [] Go.Proofs.Try.f13 hf13 [1, 1, 1] (s13_0 out_n b0f b1n b1f) (m13_0 out_n b0f b1n b1f) res [] 400
    (Orc.cut (nat_lit 5) (s13_1 out_n (0 : Int) b0f b1n b1f) (m13_1 out_n (0 : Int) b0f b1n b1f)
  [((1000 : Nat), some (1000 : Nat)), ((1001 : Nat), some (1001 : Nat))]) _ _ (by kernel_rfl) (by kernel_rfl) (show True ∧
  ((True ∧
    Sub (AV.pt (1000 : Nat) [] (0 : Nat)) (AV.pt (1000 : Nat) [] (0 : Nat)) ∧
    True ∧
    Sub (AV.rf (1001 : Nat) (1 : Nat) (0 : Nat) out_n) (AV.rf (1001 : Nat) (1 : Nat) (0 : Nat) out_n) ∧
    True ∧ Sub (AV.sc (Value.int IntKind.i64 (0 : Int))) (AV.sc (Value.int IntKind.i64 (0 : Int))) ∧ True) ∧
    True ∧
    SubB (AV.ar (4 : Nat) (1 : Nat) fun (i0 : Nat) => AV.sc (Value.int IntKind.u64 (b0f i0)))
    (AV.ar (4 : Nat) (1 : Nat) fun (i0 : Nat) => AV.sc (Value.int IntKind.u64 (b0f i0))) ∧
    True ∧
    SubB (AV.ar b1n (1 : Nat) fun (i0 : Nat) => AV.sc (Value.int IntKind.u8 (b1f i0)))
    (AV.ar b1n (1 : Nat) fun (i0 : Nat) => AV.sc (Value.int IntKind.u8 (b1f i0))) ∧
    True) ∧
    L13_1 out_n (0 : Int) b0f b1n b1f res from
    ⟨trivial, ⟨⟨⟨trivial, ⟨Sub.refl _, ⟨trivial, ⟨Sub.refl _, ⟨trivial, ⟨Sub.refl _, trivial⟩⟩⟩⟩⟩⟩, ⟨trivial, ⟨SubB.refl _, ⟨trivial, ⟨SubB.refl _, trivial⟩⟩⟩⟩⟩, h⟩⟩)
theorem r13_1 (out_n : Nat) (b : Int) (b0f : Nat → Int) (b1n : Nat) (b1f : Nat → Int) (res : AV)
    (h : (decide (b < (256 : Int)) = true →
    ∃ (r : Bool),
    Ok Proofs.Try.prog (15 : Nat)
    [AV.ar (4 : Nat) (1 : Nat) fun (i : Nat) => AV.sc (Value.int IntKind.u64 (b0f i)), AV.sc (Value.int IntKind.u8 (IntKind.u8.wrap b))] []
    (AV.sc (Value.bool r)) [] ∧
    ((!r) = true → L13_3 out_n b b0f b1n b1f res) ∧ ((!r) = false → L13_2 out_n b b b0f b1n b1f res)) ∧
  (decide (b < (256 : Int)) = false →
    (out_n ≤ b1n ∧ (0 : Nat) + (1 : Nat) ≤ (1 : Nat) ∧ (out_n + (1 : Nat)) * (1 : Nat) ≤ (140737488355328 : Nat) ∧ out_n + (1 : Nat) ≤ maxLen) ∧
    ((0 : Nat) + (out_n + (1 : Nat)) ≤ out_n + (1 : Nat) ∧
    (strOf (out_n + (1 : Nat)) fun (i : Nat) =>
    bif ((0 : Nat) + i).blt out_n then b1f ((0 : Nat) + i)
    else bif ((0 : Nat) + ((0 : Nat) + i - out_n)).beq (0 : Nat) then (93 : Int) else (0 : Int)).size =
    out_n + (1 : Nat) ∧
    ∀ (i : Nat),
    i < out_n + (1 : Nat) →
    AV.sc
    (Value.int IntKind.u8
    (bif ((0 : Nat) + i).blt out_n then b1f ((0 : Nat) + i)
    else bif ((0 : Nat) + ((0 : Nat) + i - out_n)).beq (0 : Nat) then (93 : Int) else (0 : Int))) =
    AV.sc
    (Value.int IntKind.u8
    (↑(byteAt
    (strOf (out_n + (1 : Nat)) fun (i : Nat) =>
    bif ((0 : Nat) + i).blt out_n then b1f ((0 : Nat) + i)
    else bif ((0 : Nat) + ((0 : Nat) + i - out_n)).beq (0 : Nat) then (93 : Int) else (0 : Int))
    i).toNat :
    Int))) ∧
    Sub
    (AV.sc
    (Value.string
    (strOf (out_n + (1 : Nat)) fun (i : Nat) =>
    bif ((0 : Nat) + i).blt out_n then b1f ((0 : Nat) + i)
    else bif ((0 : Nat) + ((0 : Nat) + i - out_n)).beq (0 : Nat) then (93 : Int) else (0 : Int))))
    res)) :
    L13_1 out_n b b0f b1n b1f res :=
  rule Go.Am.Seat.tabOk 13 [] Go.Proofs.Try.f13 hf13 [1, 1, 1, 0, 1, 0, 0] (s13_1 out_n b b0f b1n b1f) (m13_1 out_n b b0f b1n b1f) res [] 400
    ((Orc.call [] [] (fun (r15 : Bool) => AV.sc (Value.bool r15)) (fun (r15 : Bool) => []) fun (r15 : Bool) =>
    (Orc.cut (nat_lit 1) (s13_3 out_n b b0f b1n b1f) (m13_3 out_n b b0f b1n b1f) [((1000 : Nat), some (1000 : Nat)), ((1001 : Nat), some (1001 : Nat))]).br
    (Orc.cut (nat_lit 6) (s13_2 out_n b b b0f b1n b1f) (m13_2 out_n b b b0f b1n b1f)
    [((1000 : Nat), some (1000 : Nat)), ((1001 : Nat), some (1001 : Nat))])).br
  (Orc.ch Ch.none
    (Orc.ch Ch.none
    (Orc.ch Ch.none
    (Orc.ch
    (Ch.s
    (strOf (out_n + (1 : Nat)) fun (i : Nat) =>
    bif ((0 : Nat) + i).blt out_n then b1f ((0 : Nat) + i)
    else
    bif ((0 : Nat) + ((0 : Nat) + i - out_n)).beq ((0 : Nat), Operand.const (Value.int IntKind.u8 (93 : Int))).fst then (93 : Int) else (0 : Int)))
    (Orc.fin
    (AV.sc
    (Value.string
    (strOf (out_n + (1 : Nat)) fun (i : Nat) =>
    bif ((0 : Nat) + i).blt out_n then b1f ((0 : Nat) + i)
    else
    bif ((0 : Nat) + ((0 : Nat) + i - out_n)).beq ((0 : Nat), Operand.const (Value.int IntKind.u8 (93 : Int))).fst then (93 : Int)
    else (0 : Int))))
    [] [])))))) _ _ (by kernel_rfl) (by kernel_rfl) (show True ∧
  True ∧
    (decide (b < (256 : Int)) = true →
    ((0 : Nat) = (0 : Nat) ∧ True) ∧
    True ∧
    True ∧
    ∃ (r : Bool),
    ((True ∧ True ∧ True) ∧
    True ∧
    Ok Proofs.Try.prog (15 : Nat)
    [AV.ar (4 : Nat) (1 : Nat) fun (i : Nat) => AV.sc (Value.int IntKind.u64 (b0f i)), AV.sc (Value.int IntKind.u8 (IntKind.u8.wrap b))] []
    (AV.sc (Value.bool r)) []) ∧
    True ∧
    ((!r) = true →
    ((True ∧
    Sub (AV.pt (1000 : Nat) [] (0 : Nat)) (AV.pt (1000 : Nat) [] (0 : Nat)) ∧
    True ∧
    Sub (AV.rf (1001 : Nat) (1 : Nat) (0 : Nat) out_n) (AV.rf (1001 : Nat) (1 : Nat) (0 : Nat) out_n) ∧
    True ∧ Sub (AV.sc (Value.int IntKind.i64 b)) (AV.sc (Value.int IntKind.i64 b)) ∧ True) ∧
    True ∧
    SubB (AV.ar (4 : Nat) (1 : Nat) fun (i0 : Nat) => AV.sc (Value.int IntKind.u64 (b0f i0)))
    (AV.ar (4 : Nat) (1 : Nat) fun (i0 : Nat) => AV.sc (Value.int IntKind.u64 (b0f i0))) ∧
    True ∧
    SubB (AV.ar b1n (1 : Nat) fun (i0 : Nat) => AV.sc (Value.int IntKind.u8 (b1f i0)))
    (AV.ar b1n (1 : Nat) fun (i0 : Nat) => AV.sc (Value.int IntKind.u8 (b1f i0))) ∧
    True) ∧
    L13_3 out_n b b0f b1n b1f res) ∧
    ((!r) = false →
    True ∧
    True ∧
    ((True ∧
    Sub (AV.pt (1000 : Nat) [] (0 : Nat)) (AV.pt (1000 : Nat) [] (0 : Nat)) ∧
    True ∧
    Sub (AV.rf (1001 : Nat) (1 : Nat) (0 : Nat) out_n) (AV.rf (1001 : Nat) (1 : Nat) (0 : Nat) out_n) ∧
    True ∧
    Sub (AV.sc (Value.int IntKind.i64 b)) (AV.sc (Value.int IntKind.i64 b)) ∧
    True ∧ Sub (AV.sc (Value.int IntKind.i64 b)) (AV.sc (Value.int IntKind.i64 b)) ∧ True) ∧
    True ∧
    SubB (AV.ar (4 : Nat) (1 : Nat) fun (i0 : Nat) => AV.sc (Value.int IntKind.u64 (b0f i0)))
    (AV.ar (4 : Nat) (1 : Nat) fun (i0 : Nat) => AV.sc (Value.int IntKind.u64 (b0f i0))) ∧
    True ∧
    SubB (AV.ar b1n (1 : Nat) fun (i0 : Nat) => AV.sc (Value.int IntKind.u8 (b1f i0)))
    (AV.ar b1n (1 : Nat) fun (i0 : Nat) => AV.sc (Value.int IntKind.u8 (b1f i0))) ∧
    True) ∧
    L13_2 out_n b b b0f b1n b1f res)) ∧
    (decide (b < (256 : Int)) = false →
    True ∧
    ((True ∧ True) ∧ True) ∧
    (out_n ≤ b1n ∧
    ((0 : Nat) + (1 : Nat) ≤ (1 : Nat) ∧ (1 : Nat) = (1 : Nat)) ∧
    (out_n + (1 : Nat)) * (1 : Nat) ≤ (140737488355328 : Nat) ∧ out_n + (1 : Nat) ≤ maxLen) ∧
    (((0 : Nat) + (out_n + (1 : Nat)) ≤ out_n + (1 : Nat) ∧ (1 : Nat) = (1 : Nat)) ∧
    (strOf (out_n + (1 : Nat)) fun (i : Nat) =>
    bif ((0 : Nat) + i).blt out_n then b1f ((0 : Nat) + i)
    else bif ((0 : Nat) + ((0 : Nat) + i - out_n)).beq (0 : Nat) then (93 : Int) else (0 : Int)).size =
    out_n + (1 : Nat) ∧
    ∀ (i : Nat),
    i < out_n + (1 : Nat) →
    AV.sc
    (Value.int IntKind.u8
    (bif ((0 : Nat) + i).blt out_n then b1f ((0 : Nat) + i)
    else bif ((0 : Nat) + ((0 : Nat) + i - out_n)).beq (0 : Nat) then (93 : Int) else (0 : Int))) =
    AV.sc
    (Value.int IntKind.u8
    (↑(byteAt
    (strOf (out_n + (1 : Nat)) fun (i : Nat) =>
    bif ((0 : Nat) + i).blt out_n then b1f ((0 : Nat) + i)
    else bif ((0 : Nat) + ((0 : Nat) + i - out_n)).beq (0 : Nat) then (93 : Int) else (0 : Int))
    i).toNat :
    Int))) ∧
    True ∧
    True ∧
    ((True ∧
    Sub
    (AV.sc
    (Value.string
    (strOf (out_n + (1 : Nat)) fun (i : Nat) =>
    bif ((0 : Nat) + i).blt out_n then b1f ((0 : Nat) + i)
    else bif ((0 : Nat) + ((0 : Nat) + i - out_n)).beq (0 : Nat) then (93 : Int) else (0 : Int))))
    (AV.sc
    (Value.string
    (strOf (out_n + (1 : Nat)) fun (i : Nat) =>
    bif ((0 : Nat) + i).blt out_n then b1f ((0 : Nat) + i)
    else bif ((0 : Nat) + ((0 : Nat) + i - out_n)).beq (0 : Nat) then (93 : Int) else (0 : Int)))) ∧
    True) ∧
    True) ∧
    Sub
    (AV.sc
    (Value.string
    (strOf (out_n + (1 : Nat)) fun (i : Nat) =>
    bif ((0 : Nat) + i).blt out_n then b1f ((0 : Nat) + i)
    else bif ((0 : Nat) + ((0 : Nat) + i - out_n)).beq (0 : Nat) then (93 : Int) else (0 : Int))))
    res ∧
    SubOut [] []) from
    ⟨trivial, ⟨trivial, (And.elim (fun h2 k2 => ⟨(fun x3 => (fun h3 => ⟨⟨rfl, trivial⟩, ⟨trivial, ⟨trivial, (Exists.elim h3 fun x7 h7 => ⟨x7, (And.elim (fun h8 k8 => ⟨⟨⟨trivial, ⟨trivial, trivial⟩⟩, ⟨trivial, h8⟩⟩, ⟨trivial, (And.elim (fun h10 k10 => ⟨(fun x11 => (fun h11 => ⟨⟨⟨trivial, ⟨Sub.refl _, ⟨trivial, ⟨Sub.refl _, ⟨trivial, ⟨Sub.refl _, trivial⟩⟩⟩⟩⟩⟩, ⟨trivial, ⟨SubB.refl _, ⟨trivial, ⟨SubB.refl _, trivial⟩⟩⟩⟩⟩, h11⟩) (h10 x11)), (fun x11 => (fun h11 => ⟨trivial, ⟨trivial, ⟨⟨⟨trivial, ⟨Sub.refl _, ⟨trivial, ⟨Sub.refl _, ⟨trivial, ⟨Sub.refl _, ⟨trivial, ⟨Sub.refl _, trivial⟩⟩⟩⟩⟩⟩⟩⟩, ⟨trivial, ⟨SubB.refl _, ⟨trivial, ⟨SubB.refl _, trivial⟩⟩⟩⟩⟩, h11⟩⟩⟩) (k10 x11))⟩) k8)⟩⟩) h7)⟩)⟩⟩⟩) (h2 x3)), (fun x3 => (fun h3 => ⟨trivial, ⟨⟨⟨trivial, trivial⟩, trivial⟩, (And.elim (fun h6 k6 => ⟨(And.elim (fun h7 k7 => ⟨h7, (And.elim (fun h8 k8 => ⟨((fun h9 => ⟨h9, rfl⟩) h8), (And.elim (fun h9 k9 => ⟨h9, k9⟩) k8)⟩) k7)⟩) h6), (And.elim (fun h7 k7 => ⟨(And.elim (fun h8 k8 => ⟨((fun h9 => ⟨h9, rfl⟩) h8), (And.elim (fun h9 k9 => ⟨h9, (fun x10 => (fun h10 => (fun x11 => (fun h11 => h11) (h10 x11))) (k9 x10))⟩) k8)⟩) h7), ⟨trivial, ⟨trivial, ⟨⟨⟨trivial, ⟨Sub.refl _, trivial⟩⟩, trivial⟩, ((fun h11 => ⟨h11, trivial⟩) k7)⟩⟩⟩⟩) k6)⟩) h3)⟩⟩) (k2 x3))⟩) h)⟩⟩)
theorem r13_2 (out_n : Nat) (b : Int) (to : Int) (b0f : Nat → Int) (b1n : Nat) (b1f : Nat → Int) (res : AV)
    (h : (decide (to < (255 : Int)) = true →
    ∃ (r : Bool),
    Ok Proofs.Try.prog (15 : Nat)
    [AV.ar (4 : Nat) (1 : Nat) fun (i : Nat) => AV.sc (Value.int IntKind.u64 (b0f i)),
    AV.sc (Value.int IntKind.u8 (IntKind.u8.wrap (IntKind.i64.wrap (to + (1 : Int)))))]
    [] (AV.sc (Value.bool r)) [] ∧
    (r = true → L13_2 out_n b (IntKind.i64.wrap (to + (1 : Int))) b0f b1n b1f res) ∧
    (r = false →
    ∃ (r : Nat × Nat × (Nat → Int)),
    Ok Proofs.Try.prog (28 : Nat) [AV.rf (2000 : Nat) (1 : Nat) (0 : Nat) out_n, AV.sc (Value.int IntKind.u8 (IntKind.u8.wrap b))]
    [((2000 : Nat), (5 : Nat), AV.ar b1n (1 : Nat) fun (i : Nat) => AV.sc (Value.int IntKind.u8 (b1f i)))]
    (AV.rf (1000 : Nat) (1 : Nat) (0 : Nat) r.fst)
    [((1000 : Nat), (5 : Nat), AV.ar r.snd.fst (1 : Nat) fun (i0 : Nat) => AV.sc (Value.int IntKind.u8 (r.snd.snd i0)))] ∧
    (decide (to ≥ IntKind.i64.wrap (b + (2 : Int))) = true →
    (r.fst ≤ r.snd.fst ∧
    (0 : Nat) + (1 : Nat) ≤ (1 : Nat) ∧ (r.fst + (1 : Nat)) * (1 : Nat) ≤ (140737488355328 : Nat) ∧ r.fst + (1 : Nat) ≤ maxLen) ∧
    ∃ (r_1 : Nat × Nat × (Nat → Int)),
    Ok Proofs.Try.prog (28 : Nat)
    [AV.rf (2000 : Nat) (1 : Nat) (0 : Nat) (r.fst + (1 : Nat)), AV.sc (Value.int IntKind.u8 (IntKind.u8.wrap to))]
    [((2000 : Nat), (5 : Nat),
    AV.ar (r.fst + (1 : Nat)) (1 : Nat) fun (i : Nat) =>
    AV.sc
    (Value.int IntKind.u8
    (bif i.blt r.fst then r.snd.snd i else bif ((0 : Nat) + (i - r.fst)).beq (0 : Nat) then (45 : Int) else (0 : Int))))]
    (AV.rf (1000 : Nat) (1 : Nat) (0 : Nat) r_1.fst)
    [((1000 : Nat), (5 : Nat), AV.ar r_1.snd.fst (1 : Nat) fun (i0 : Nat) => AV.sc (Value.int IntKind.u8 (r_1.snd.snd i0)))] ∧
    L13_3 r_1.fst to b0f r_1.snd.fst r_1.snd.snd res) ∧
    (decide (to ≥ IntKind.i64.wrap (b + (2 : Int))) = false → L13_3 r.fst b b0f r.snd.fst r.snd.snd res))) ∧
  (decide (to < (255 : Int)) = !true →
    ∃ (r : Nat × Nat × (Nat → Int)),
    Ok Proofs.Try.prog (28 : Nat) [AV.rf (2000 : Nat) (1 : Nat) (0 : Nat) out_n, AV.sc (Value.int IntKind.u8 (IntKind.u8.wrap b))]
    [((2000 : Nat), (5 : Nat), AV.ar b1n (1 : Nat) fun (i : Nat) => AV.sc (Value.int IntKind.u8 (b1f i)))] (AV.rf (1000 : Nat) (1 : Nat) (0 : Nat) r.fst)
    [((1000 : Nat), (5 : Nat), AV.ar r.snd.fst (1 : Nat) fun (i0 : Nat) => AV.sc (Value.int IntKind.u8 (r.snd.snd i0)))] ∧
    (decide (to ≥ IntKind.i64.wrap (b + (2 : Int))) = true →
    (r.fst ≤ r.snd.fst ∧ (0 : Nat) + (1 : Nat) ≤ (1 : Nat) ∧ (r.fst + (1 : Nat)) * (1 : Nat) ≤ (140737488355328 : Nat) ∧ r.fst + (1 : Nat) ≤ maxLen) ∧
    ∃ (r_1 : Nat × Nat × (Nat → Int)),
    Ok Proofs.Try.prog (28 : Nat) [AV.rf (2000 : Nat) (1 : Nat) (0 : Nat) (r.fst + (1 : Nat)), AV.sc (Value.int IntKind.u8 (IntKind.u8.wrap to))]
    [((2000 : Nat), (5 : Nat),
    AV.ar (r.fst + (1 : Nat)) (1 : Nat) fun (i : Nat) =>
    AV.sc
    (Value.int IntKind.u8
    (bif i.blt r.fst then r.snd.snd i else bif ((0 : Nat) + (i - r.fst)).beq (0 : Nat) then (45 : Int) else (0 : Int))))]
    (AV.rf (1000 : Nat) (1 : Nat) (0 : Nat) r_1.fst)
    [((1000 : Nat), (5 : Nat), AV.ar r_1.snd.fst (1 : Nat) fun (i0 : Nat) => AV.sc (Value.int IntKind.u8 (r_1.snd.snd i0)))] ∧
    L13_3 r_1.fst to b0f r_1.snd.fst r_1.snd.snd res) ∧
    (decide (to ≥ IntKind.i64.wrap (b + (2 : Int))) = false → L13_3 r.fst b b0f r.snd.fst r.snd.snd res))) :
    L13_2 out_n b to b0f b1n b1f res :=
  rule Go.Am.Seat.tabOk 13 [] Go.Proofs.Try.f13 hf13 [1, 1, 1, 0, 1, 0, 0, 1, 0, 0, 1, 1, 0, 0, 0] (s13_2 out_n b to b0f b1n b1f) (m13_2 out_n b to b0f b1n b1f) res [] 400
    ((Orc.call [] [] (fun (r15 : Bool) => AV.sc (Value.bool r15)) (fun (r15 : Bool) => []) fun (r15 : Bool) =>
    (Orc.cut (nat_lit 5) (s13_2 out_n b (IntKind.i64.wrap (to + (1 : Int))) b0f b1n b1f)
    (m13_2 out_n b (IntKind.i64.wrap (to + (1 : Int))) b0f b1n b1f) [((1000 : Nat), some (1000 : Nat)), ((1001 : Nat), some (1001 : Nat))]).br
    (Orc.call [((1001 : Nat), (2000 : Nat))] [((100390 : Nat), (1000 : Nat))]
    (fun (r28 : Nat × Nat × (Nat → Int)) => AV.rf (1000 : Nat) (1 : Nat) (0 : Nat) r28.fst)
    (fun (r28 : Nat × Nat × (Nat → Int)) =>
    [((1000 : Nat), (5 : Nat), AV.ar r28.snd.fst (1 : Nat) fun (i0 : Nat) => AV.sc (Value.int IntKind.u8 (r28.snd.snd i0)))])
    fun (r28 : Nat × Nat × (Nat → Int)) =>
    (Orc.call [((46 : Nat), (2000 : Nat))] [((100490 : Nat), (1000 : Nat))]
    (fun (r28 : Nat × Nat × (Nat → Int)) => AV.rf (1000 : Nat) (1 : Nat) (0 : Nat) r28.fst)
    (fun (r28 : Nat × Nat × (Nat → Int)) =>
    [((1000 : Nat), (5 : Nat), AV.ar r28.snd.fst (1 : Nat) fun (i0 : Nat) => AV.sc (Value.int IntKind.u8 (r28.snd.snd i0)))])
    fun (r28 : Nat × Nat × (Nat → Int)) =>
    Orc.cut (nat_lit 2) (s13_3 r28.fst to b0f r28.snd.fst r28.snd.snd) (m13_3 r28.fst to b0f r28.snd.fst r28.snd.snd)
    [((1000 : Nat), some (1000 : Nat)), ((1001 : Nat), some (100490 : Nat))]).br
    (Orc.cut (nat_lit 2) (s13_3 r28.fst b b0f r28.snd.fst r28.snd.snd) (m13_3 r28.fst b b0f r28.snd.fst r28.snd.snd)
    [((1000 : Nat), some (1000 : Nat)), ((1001 : Nat), some (100390 : Nat))]))).yes.yes.yes.yes.br
  (Orc.call [((1001 : Nat), (2000 : Nat))] [((100390 : Nat), (1000 : Nat))]
    (fun (r28 : Nat × Nat × (Nat → Int)) => AV.rf (1000 : Nat) (1 : Nat) (0 : Nat) r28.fst)
    (fun (r28 : Nat × Nat × (Nat → Int)) =>
    [((1000 : Nat), (5 : Nat), AV.ar r28.snd.fst (1 : Nat) fun (i0 : Nat) => AV.sc (Value.int IntKind.u8 (r28.snd.snd i0)))])
    fun (r28 : Nat × Nat × (Nat → Int)) =>
    (Orc.call [((46 : Nat), (2000 : Nat))] [((100490 : Nat), (1000 : Nat))]
    (fun (r28 : Nat × Nat × (Nat → Int)) => AV.rf (1000 : Nat) (1 : Nat) (0 : Nat) r28.fst)
    (fun (r28 : Nat × Nat × (Nat → Int)) =>
    [((1000 : Nat), (5 : Nat), AV.ar r28.snd.fst (1 : Nat) fun (i0 : Nat) => AV.sc (Value.int IntKind.u8 (r28.snd.snd i0)))])
    fun (r28 : Nat × Nat × (Nat → Int)) =>
    Orc.cut (nat_lit 2) (s13_3 r28.fst to b0f r28.snd.fst r28.snd.snd) (m13_3 r28.fst to b0f r28.snd.fst r28.snd.snd)
    [((1000 : Nat), some (1000 : Nat)), ((1001 : Nat), some (100490 : Nat))]).br
    (Orc.cut (nat_lit 2) (s13_3 r28.fst b b0f r28.snd.fst r28.snd.snd) (m13_3 r28.fst b b0f r28.snd.fst r28.snd.snd)
    [((1000 : Nat), some (1000 : Nat)), ((1001 : Nat), some (100390 : Nat))])).no.no.no.no.no) _ _ (by kernel_rfl) (by kernel_rfl) (show True ∧
  True ∧
    True ∧
    (decide (to < (255 : Int)) = true →
    ((0 : Nat) = (0 : Nat) ∧ True) ∧
    true = true ∧
    True ∧
    true = true ∧
    True ∧
    true = true ∧
    True ∧
    true = true ∧
    ∃ (r : Bool),
    ((True ∧ True ∧ True) ∧
    True ∧
    Ok Proofs.Try.prog (15 : Nat)
    [AV.ar (4 : Nat) (1 : Nat) fun (i : Nat) => AV.sc (Value.int IntKind.u64 (b0f i)),
    AV.sc (Value.int IntKind.u8 (IntKind.u8.wrap (IntKind.i64.wrap (to + (1 : Int)))))]
    [] (AV.sc (Value.bool r)) []) ∧
    True ∧
    (r = true →
    True ∧
    True ∧
    True ∧
    ((True ∧
    Sub (AV.pt (1000 : Nat) [] (0 : Nat)) (AV.pt (1000 : Nat) [] (0 : Nat)) ∧
    True ∧
    Sub (AV.rf (1001 : Nat) (1 : Nat) (0 : Nat) out_n) (AV.rf (1001 : Nat) (1 : Nat) (0 : Nat) out_n) ∧
    True ∧
    Sub (AV.sc (Value.int IntKind.i64 b)) (AV.sc (Value.int IntKind.i64 b)) ∧
    True ∧
    Sub (AV.sc (Value.int IntKind.i64 (IntKind.i64.wrap (to + (1 : Int)))))
    (AV.sc (Value.int IntKind.i64 (IntKind.i64.wrap (to + (1 : Int))))) ∧
    True) ∧
    True ∧
    SubB (AV.ar (4 : Nat) (1 : Nat) fun (i0 : Nat) => AV.sc (Value.int IntKind.u64 (b0f i0)))
    (AV.ar (4 : Nat) (1 : Nat) fun (i0 : Nat) => AV.sc (Value.int IntKind.u64 (b0f i0))) ∧
    True ∧
    SubB (AV.ar b1n (1 : Nat) fun (i0 : Nat) => AV.sc (Value.int IntKind.u8 (b1f i0)))
    (AV.ar b1n (1 : Nat) fun (i0 : Nat) => AV.sc (Value.int IntKind.u8 (b1f i0))) ∧
    True) ∧
    L13_2 out_n b (IntKind.i64.wrap (to + (1 : Int))) b0f b1n b1f res) ∧
    (r = false →
    True ∧
    True ∧
    True ∧
    ∃ (r : Nat × Nat × (Nat → Int)),
    ((True ∧ True ∧ True) ∧
    (True ∧ True) ∧
    Ok Proofs.Try.prog (28 : Nat)
    [AV.rf (2000 : Nat) (1 : Nat) (0 : Nat) out_n, AV.sc (Value.int IntKind.u8 (IntKind.u8.wrap b))]
    [((2000 : Nat), (5 : Nat), AV.ar b1n (1 : Nat) fun (i : Nat) => AV.sc (Value.int IntKind.u8 (b1f i)))]
    (AV.rf (1000 : Nat) (1 : Nat) (0 : Nat) r.fst)
    [((1000 : Nat), (5 : Nat),
    AV.ar r.snd.fst (1 : Nat) fun (i0 : Nat) => AV.sc (Value.int IntKind.u8 (r.snd.snd i0)))]) ∧
    True ∧
    True ∧
    True ∧
    True ∧
    True ∧
    (decide (to ≥ IntKind.i64.wrap (b + (2 : Int))) = true →
    True ∧
    ((True ∧ True) ∧ True) ∧
    (r.fst ≤ r.snd.fst ∧
    ((0 : Nat) + (1 : Nat) ≤ (1 : Nat) ∧ (1 : Nat) = (1 : Nat)) ∧
    (r.fst + (1 : Nat)) * (1 : Nat) ≤ (140737488355328 : Nat) ∧ r.fst + (1 : Nat) ≤ maxLen) ∧
    True ∧
    True ∧
    ∃ (r_1 : Nat × Nat × (Nat → Int)),
    ((True ∧ True ∧ True) ∧
    (True ∧ True) ∧
    Ok Proofs.Try.prog (28 : Nat)
    [AV.rf (2000 : Nat) (1 : Nat) (0 : Nat) (r.fst + (1 : Nat)),
    AV.sc (Value.int IntKind.u8 (IntKind.u8.wrap to))]
    [((2000 : Nat), (5 : Nat),
    AV.ar (r.fst + (1 : Nat)) (1 : Nat) fun (i : Nat) =>
    AV.sc
    (Value.int IntKind.u8
    (bif i.blt r.fst then r.snd.snd i
    else
    bif ((0 : Nat) + (i - r.fst)).beq (0 : Nat) then (45 : Int)
    else (0 : Int))))]
    (AV.rf (1000 : Nat) (1 : Nat) (0 : Nat) r_1.fst)
    [((1000 : Nat), (5 : Nat),
    AV.ar r_1.snd.fst (1 : Nat) fun (i0 : Nat) =>
    AV.sc (Value.int IntKind.u8 (r_1.snd.snd i0)))]) ∧
    True ∧
    True ∧
    True ∧
    ((True ∧
    Sub (AV.pt (1000 : Nat) [] (0 : Nat)) (AV.pt (1000 : Nat) [] (0 : Nat)) ∧
    True ∧
    Sub (AV.rf (1001 : Nat) (1 : Nat) (0 : Nat) r_1.fst)
    (AV.rf (1001 : Nat) (1 : Nat) (0 : Nat) r_1.fst) ∧
    True ∧
    Sub (AV.sc (Value.int IntKind.i64 to))
    (AV.sc (Value.int IntKind.i64 to)) ∧
    True) ∧
    True ∧
    SubB
    (AV.ar (4 : Nat) (1 : Nat) fun (i0 : Nat) =>
    AV.sc (Value.int IntKind.u64 (b0f i0)))
    (AV.ar (4 : Nat) (1 : Nat) fun (i0 : Nat) =>
    AV.sc (Value.int IntKind.u64 (b0f i0))) ∧
    True ∧
    SubB
    (AV.ar r_1.snd.fst (1 : Nat) fun (i0 : Nat) =>
    AV.sc (Value.int IntKind.u8 (r_1.snd.snd i0)))
    (AV.ar r_1.snd.fst (1 : Nat) fun (i0 : Nat) =>
    AV.sc (Value.int IntKind.u8 (r_1.snd.snd i0))) ∧
    True) ∧
    L13_3 r_1.fst to b0f r_1.snd.fst r_1.snd.snd res) ∧
    (decide (to ≥ IntKind.i64.wrap (b + (2 : Int))) = false →
    ((True ∧
    Sub (AV.pt (1000 : Nat) [] (0 : Nat)) (AV.pt (1000 : Nat) [] (0 : Nat)) ∧
    True ∧
    Sub (AV.rf (1001 : Nat) (1 : Nat) (0 : Nat) r.fst)
    (AV.rf (1001 : Nat) (1 : Nat) (0 : Nat) r.fst) ∧
    True ∧ Sub (AV.sc (Value.int IntKind.i64 b)) (AV.sc (Value.int IntKind.i64 b)) ∧ True) ∧
    True ∧
    SubB (AV.ar (4 : Nat) (1 : Nat) fun (i0 : Nat) => AV.sc (Value.int IntKind.u64 (b0f i0)))
    (AV.ar (4 : Nat) (1 : Nat) fun (i0 : Nat) => AV.sc (Value.int IntKind.u64 (b0f i0))) ∧
    True ∧
    SubB
    (AV.ar r.snd.fst (1 : Nat) fun (i0 : Nat) =>
    AV.sc (Value.int IntKind.u8 (r.snd.snd i0)))
    (AV.ar r.snd.fst (1 : Nat) fun (i0 : Nat) =>
    AV.sc (Value.int IntKind.u8 (r.snd.snd i0))) ∧
    True) ∧
    L13_3 r.fst b b0f r.snd.fst r.snd.snd res))) ∧
    (decide (to < (255 : Int)) = !true →
    true = true ∧
    (!true) = !true ∧
    true = true ∧
    (!true) = !true ∧
    true = true ∧
    (!true) = !true ∧
    true = true ∧
    (!true) = !true ∧
    true = true ∧
    True ∧
    false = false ∧
    True ∧
    True ∧
    True ∧
    ∃ (r : Nat × Nat × (Nat → Int)),
    ((True ∧ True ∧ True) ∧
    (True ∧ True) ∧
    Ok Proofs.Try.prog (28 : Nat)
    [AV.rf (2000 : Nat) (1 : Nat) (0 : Nat) out_n, AV.sc (Value.int IntKind.u8 (IntKind.u8.wrap b))]
    [((2000 : Nat), (5 : Nat), AV.ar b1n (1 : Nat) fun (i : Nat) => AV.sc (Value.int IntKind.u8 (b1f i)))]
    (AV.rf (1000 : Nat) (1 : Nat) (0 : Nat) r.fst)
    [((1000 : Nat), (5 : Nat),
    AV.ar r.snd.fst (1 : Nat) fun (i0 : Nat) => AV.sc (Value.int IntKind.u8 (r.snd.snd i0)))]) ∧
    True ∧
    True ∧
    True ∧
    True ∧
    True ∧
    (decide (to ≥ IntKind.i64.wrap (b + (2 : Int))) = true →
    True ∧
    ((True ∧ True) ∧ True) ∧
    (r.fst ≤ r.snd.fst ∧
    ((0 : Nat) + (1 : Nat) ≤ (1 : Nat) ∧ (1 : Nat) = (1 : Nat)) ∧
    (r.fst + (1 : Nat)) * (1 : Nat) ≤ (140737488355328 : Nat) ∧ r.fst + (1 : Nat) ≤ maxLen) ∧
    True ∧
    True ∧
    ∃ (r_1 : Nat × Nat × (Nat → Int)),
    ((True ∧ True ∧ True) ∧
    (True ∧ True) ∧
    Ok Proofs.Try.prog (28 : Nat)
    [AV.rf (2000 : Nat) (1 : Nat) (0 : Nat) (r.fst + (1 : Nat)),
    AV.sc (Value.int IntKind.u8 (IntKind.u8.wrap to))]
    [((2000 : Nat), (5 : Nat),
    AV.ar (r.fst + (1 : Nat)) (1 : Nat) fun (i : Nat) =>
    AV.sc
    (Value.int IntKind.u8
    (bif i.blt r.fst then r.snd.snd i
    else
    bif ((0 : Nat) + (i - r.fst)).beq (0 : Nat) then (45 : Int)
    else (0 : Int))))]
    (AV.rf (1000 : Nat) (1 : Nat) (0 : Nat) r_1.fst)
    [((1000 : Nat), (5 : Nat),
    AV.ar r_1.snd.fst (1 : Nat) fun (i0 : Nat) =>
    AV.sc (Value.int IntKind.u8 (r_1.snd.snd i0)))]) ∧
    True ∧
    True ∧
    True ∧
    ((True ∧
    Sub (AV.pt (1000 : Nat) [] (0 : Nat)) (AV.pt (1000 : Nat) [] (0 : Nat)) ∧
    True ∧
    Sub (AV.rf (1001 : Nat) (1 : Nat) (0 : Nat) r_1.fst)
    (AV.rf (1001 : Nat) (1 : Nat) (0 : Nat) r_1.fst) ∧
    True ∧
    Sub (AV.sc (Value.int IntKind.i64 to))
    (AV.sc (Value.int IntKind.i64 to)) ∧
    True) ∧
    True ∧
    SubB
    (AV.ar (4 : Nat) (1 : Nat) fun (i0 : Nat) =>
    AV.sc (Value.int IntKind.u64 (b0f i0)))
    (AV.ar (4 : Nat) (1 : Nat) fun (i0 : Nat) =>
    AV.sc (Value.int IntKind.u64 (b0f i0))) ∧
    True ∧
    SubB
    (AV.ar r_1.snd.fst (1 : Nat) fun (i0 : Nat) =>
    AV.sc (Value.int IntKind.u8 (r_1.snd.snd i0)))
    (AV.ar r_1.snd.fst (1 : Nat) fun (i0 : Nat) =>
    AV.sc (Value.int IntKind.u8 (r_1.snd.snd i0))) ∧
    True) ∧
    L13_3 r_1.fst to b0f r_1.snd.fst r_1.snd.snd res) ∧
    (decide (to ≥ IntKind.i64.wrap (b + (2 : Int))) = false →
    ((True ∧
    Sub (AV.pt (1000 : Nat) [] (0 : Nat)) (AV.pt (1000 : Nat) [] (0 : Nat)) ∧
    True ∧
    Sub (AV.rf (1001 : Nat) (1 : Nat) (0 : Nat) r.fst)
    (AV.rf (1001 : Nat) (1 : Nat) (0 : Nat) r.fst) ∧
    True ∧ Sub (AV.sc (Value.int IntKind.i64 b)) (AV.sc (Value.int IntKind.i64 b)) ∧ True) ∧
    True ∧
    SubB (AV.ar (4 : Nat) (1 : Nat) fun (i0 : Nat) => AV.sc (Value.int IntKind.u64 (b0f i0)))
    (AV.ar (4 : Nat) (1 : Nat) fun (i0 : Nat) => AV.sc (Value.int IntKind.u64 (b0f i0))) ∧
    True ∧
    SubB (AV.ar r.snd.fst (1 : Nat) fun (i0 : Nat) => AV.sc (Value.int IntKind.u8 (r.snd.snd i0)))
    (AV.ar r.snd.fst (1 : Nat) fun (i0 : Nat) =>
    AV.sc (Value.int IntKind.u8 (r.snd.snd i0))) ∧
    True) ∧
    L13_3 r.fst b b0f r.snd.fst r.snd.snd res)) from
    ⟨trivial, ⟨trivial, ⟨trivial, (And.elim (fun h3 k3 => ⟨(fun x4 => (fun h4 => ⟨⟨rfl, trivial⟩, ⟨rfl, ⟨trivial, ⟨rfl, ⟨trivial, ⟨rfl, ⟨trivial, ⟨rfl, (Exists.elim h4 fun x13 h13 => ⟨x13, (And.elim (fun h14 k14 => ⟨⟨⟨trivial, ⟨trivial, trivial⟩⟩, ⟨trivial, h14⟩⟩, ⟨trivial, (And.elim (fun h16 k16 => ⟨(fun x17 => (fun h17 => ⟨trivial, ⟨trivial, ⟨trivial, ⟨⟨⟨trivial, ⟨Sub.refl _, ⟨trivial, ⟨Sub.refl _, ⟨trivial, ⟨Sub.refl _, ⟨trivial, ⟨Sub.refl _, trivial⟩⟩⟩⟩⟩⟩⟩⟩, ⟨trivial, ⟨SubB.refl _, ⟨trivial, ⟨SubB.refl _, trivial⟩⟩⟩⟩⟩, h17⟩⟩⟩⟩) (h16 x17)), (fun x17 => (fun h17 => ⟨trivial, ⟨trivial, ⟨trivial, (Exists.elim h17 fun x21 h21 => ⟨x21, (And.elim (fun h22 k22 => ⟨⟨⟨trivial, ⟨trivial, trivial⟩⟩, ⟨⟨trivial, trivial⟩, h22⟩⟩, ⟨trivial, ⟨trivial, ⟨trivial, ⟨trivial, ⟨trivial, (And.elim (fun h28 k28 => ⟨(fun x29 => (fun h29 => ⟨trivial, ⟨⟨⟨trivial, trivial⟩, trivial⟩, (And.elim (fun h32 k32 => ⟨(And.elim (fun h33 k33 => ⟨h33, (And.elim (fun h34 k34 => ⟨((fun h35 => ⟨h35, rfl⟩) h34), (And.elim (fun h35 k35 => ⟨h35, k35⟩) k34)⟩) k33)⟩) h32), ⟨trivial, ⟨trivial, (Exists.elim k32 fun x35 h35 => ⟨x35, (And.elim (fun h36 k36 => ⟨⟨⟨trivial, ⟨trivial, trivial⟩⟩, ⟨⟨trivial, trivial⟩, h36⟩⟩, ⟨trivial, ⟨trivial, ⟨trivial, ⟨⟨⟨trivial, ⟨Sub.refl _, ⟨trivial, ⟨Sub.refl _, ⟨trivial, ⟨Sub.refl _, trivial⟩⟩⟩⟩⟩⟩, ⟨trivial, ⟨SubB.refl _, ⟨trivial, ⟨SubB.refl _, trivial⟩⟩⟩⟩⟩, k36⟩⟩⟩⟩⟩) h35)⟩)⟩⟩⟩) h29)⟩⟩) (h28 x29)), (fun x29 => (fun h29 => ⟨⟨⟨trivial, ⟨Sub.refl _, ⟨trivial, ⟨Sub.refl _, ⟨trivial, ⟨Sub.refl _, trivial⟩⟩⟩⟩⟩⟩, ⟨trivial, ⟨SubB.refl _, ⟨trivial, ⟨SubB.refl _, trivial⟩⟩⟩⟩⟩, h29⟩) (k28 x29))⟩) k22)⟩⟩⟩⟩⟩⟩) h21)⟩)⟩⟩⟩) (k16 x17))⟩) k14)⟩⟩) h13)⟩)⟩⟩⟩⟩⟩⟩⟩⟩) (h3 x4)), (fun x4 => (fun h4 => ⟨rfl, ⟨rfl, ⟨rfl, ⟨rfl, ⟨rfl, ⟨rfl, ⟨rfl, ⟨rfl, ⟨rfl, ⟨trivial, ⟨rfl, ⟨trivial, ⟨trivial, ⟨trivial, (Exists.elim h4 fun x19 h19 => ⟨x19, (And.elim (fun h20 k20 => ⟨⟨⟨trivial, ⟨trivial, trivial⟩⟩, ⟨⟨trivial, trivial⟩, h20⟩⟩, ⟨trivial, ⟨trivial, ⟨trivial, ⟨trivial, ⟨trivial, (And.elim (fun h26 k26 => ⟨(fun x27 => (fun h27 => ⟨trivial, ⟨⟨⟨trivial, trivial⟩, trivial⟩, (And.elim (fun h30 k30 => ⟨(And.elim (fun h31 k31 => ⟨h31, (And.elim (fun h32 k32 => ⟨((fun h33 => ⟨h33, rfl⟩) h32), (And.elim (fun h33 k33 => ⟨h33, k33⟩) k32)⟩) k31)⟩) h30), ⟨trivial, ⟨trivial, (Exists.elim k30 fun x33 h33 => ⟨x33, (And.elim (fun h34 k34 => ⟨⟨⟨trivial, ⟨trivial, trivial⟩⟩, ⟨⟨trivial, trivial⟩, h34⟩⟩, ⟨trivial, ⟨trivial, ⟨trivial, ⟨⟨⟨trivial, ⟨Sub.refl _, ⟨trivial, ⟨Sub.refl _, ⟨trivial, ⟨Sub.refl _, trivial⟩⟩⟩⟩⟩⟩, ⟨trivial, ⟨SubB.refl _, ⟨trivial, ⟨SubB.refl _, trivial⟩⟩⟩⟩⟩, k34⟩⟩⟩⟩⟩) h33)⟩)⟩⟩⟩) h27)⟩⟩) (h26 x27)), (fun x27 => (fun h27 => ⟨⟨⟨trivial, ⟨Sub.refl _, ⟨trivial, ⟨Sub.refl _, ⟨trivial, ⟨Sub.refl _, trivial⟩⟩⟩⟩⟩⟩, ⟨trivial, ⟨SubB.refl _, ⟨trivial, ⟨SubB.refl _, trivial⟩⟩⟩⟩⟩, h27⟩) (k26 x27))⟩) k20)⟩⟩⟩⟩⟩⟩) h19)⟩)⟩⟩⟩⟩⟩⟩⟩⟩⟩⟩⟩⟩⟩⟩) (k3 x4))⟩) h)⟩⟩⟩)
theorem r13_3 (out_n : Nat) (b : Int) (b0f : Nat → Int) (b1n : Nat) (b1f : Nat → Int) (res : AV)
    (h : L13_1 out_n (IntKind.i64.wrap (b + (1 : Int))) b0f b1n b1f res) :
    L13_3 out_n b b0f b1n b1f res :=
  rule Go.Am.Seat.tabOk 13 [] Go.Proofs.Try.f13 hf13 [1, 1, 1, 0, 1, 0, 0, 1, 1] (s13_3 out_n b b0f b1n b1f) (m13_3 out_n b b0f b1n b1f) res [] 400
    (Orc.cut (nat_lit 2) (s13_1 out_n (IntKind.i64.wrap (b + (1 : Int))) b0f b1n b1f) (m13_1 out_n (IntKind.i64.wrap (b + (1 : Int))) b0f b1n b1f)
  [((1000 : Nat), some (1000 : Nat)), ((1001 : Nat), some (1001 : Nat))]) _ _ (by kernel_rfl) (by kernel_rfl) (show True ∧
  True ∧
    True ∧
    ((True ∧
    Sub (AV.pt (1000 : Nat) [] (0 : Nat)) (AV.pt (1000 : Nat) [] (0 : Nat)) ∧
    True ∧
    Sub (AV.rf (1001 : Nat) (1 : Nat) (0 : Nat) out_n) (AV.rf (1001 : Nat) (1 : Nat) (0 : Nat) out_n) ∧
    True ∧
    Sub (AV.sc (Value.int IntKind.i64 (IntKind.i64.wrap (b + (1 : Int))))) (AV.sc (Value.int IntKind.i64 (IntKind.i64.wrap (b + (1 : Int))))) ∧
    True) ∧
    True ∧
    SubB (AV.ar (4 : Nat) (1 : Nat) fun (i0 : Nat) => AV.sc (Value.int IntKind.u64 (b0f i0)))
    (AV.ar (4 : Nat) (1 : Nat) fun (i0 : Nat) => AV.sc (Value.int IntKind.u64 (b0f i0))) ∧
    True ∧
    SubB (AV.ar b1n (1 : Nat) fun (i0 : Nat) => AV.sc (Value.int IntKind.u8 (b1f i0)))
    (AV.ar b1n (1 : Nat) fun (i0 : Nat) => AV.sc (Value.int IntKind.u8 (b1f i0))) ∧
    True) ∧
    L13_1 out_n (IntKind.i64.wrap (b + (1 : Int))) b0f b1n b1f res from
    ⟨trivial, ⟨trivial, ⟨trivial, ⟨⟨⟨trivial, ⟨Sub.refl _, ⟨trivial, ⟨Sub.refl _, ⟨trivial, ⟨Sub.refl _, trivial⟩⟩⟩⟩⟩⟩, ⟨trivial, ⟨SubB.refl _, ⟨trivial, ⟨SubB.refl _, trivial⟩⟩⟩⟩⟩, h⟩⟩⟩⟩)
theorem hf14 : Go.Proofs.Try.prog.funcs[14]? = some Go.Proofs.Try.f14 := by kernel_rfl
abbrev s14_e (sf : Nat → Int) : List (Nat × AV) := [(0, (.ar 4 1 (fun i0 => (.sc (.int .u64 (sf i0))))))]
abbrev m14_e (sf : Nat → Int) : List (Nat × Nat × AV) := []
def L14_e (sf : Nat → Int) (res : AV) : Prop := Goes ⟨Go.Proofs.Try.prog, 14, [], res, []⟩ (place Go.Proofs.Try.f14 []) (s14_e sf) (m14_e sf)
theorem a14_e (sf : Nat → Int) (res : AV) (h : (∀ slot, fact (look .undef (s14_e sf) slot)) → L14_e sf res) : L14_e sf res :=
  assumeRule 14 [] Go.Proofs.Try.f14 hf14 [] (s14_e sf) (m14_e sf) res [] _ (by kernel_rfl) h
abbrev s14_0 (out_n : Nat) (t5 : Int) (b0f : Nat → Int) (b1n : Nat) (b1f : Nat → Int) : List (Nat × AV) := [(1, (.pt 1000 [] 0)), (3, (.rf 1001 1 0 out_n)), (5, (.sc (.int .i64 t5)))]
abbrev m14_0 (out_n : Nat) (t5 : Int) (b0f : Nat → Int) (b1n : Nat) (b1f : Nat → Int) : List (Nat × Nat × AV) := [(1000, 24, (.ar 4 1 (fun i0 => (.sc (.int .u64 (b0f i0)))))), (1001, 5, (.ar b1n 1 (fun i0 => (.sc (.int .u8 (b1f i0))))))]
def L14_0 (out_n : Nat) (t5 : Int) (b0f : Nat → Int) (b1n : Nat) (b1f : Nat → Int) (res : AV) : Prop := Goes ⟨Go.Proofs.Try.prog, 14, [], res, []⟩ (place Go.Proofs.Try.f14 [1, 1, 0, 1, 0, 0]) (s14_0 out_n t5 b0f b1n b1f) (m14_0 out_n t5 b0f b1n b1f)
theorem a14_0 (out_n : Nat) (t5 : Int) (b0f : Nat → Int) (b1n : Nat) (b1f : Nat → Int) (res : AV) (h : (∀ slot, fact (look .undef (s14_0 out_n t5 b0f b1n b1f) slot)) → L14_0 out_n t5 b0f b1n b1f res) : L14_0 out_n t5 b0f b1n b1f res :=
  assumeRule 14 [] Go.Proofs.Try.f14 hf14 [1, 1, 0, 1, 0, 0] (s14_0 out_n t5 b0f b1n b1f) (m14_0 out_n t5 b0f b1n b1f) res [] _ (by kernel_rfl) h
abbrev s14_1 (out_n : Nat) (t5 : Int) (b0f : Nat → Int) (b1n : Nat) (b1f : Nat → Int) : List (Nat × AV) := [(1, (.pt 1000 [] 0)), (3, (.rf 1001 1 0 out_n)), (5, (.sc (.int .i64 t5)))]
abbrev m14_1 (out_n : Nat) (t5 : Int) (b0f : Nat → Int) (b1n : Nat) (b1f : Nat → Int) : List (Nat × Nat × AV) := [(1000, 24, (.ar 4 1 (fun i0 => (.sc (.int .u64 (b0f i0)))))), (1001, 5, (.ar b1n 1 (fun i0 => (.sc (.int .u8 (b1f i0))))))]
def L14_1 (out_n : Nat) (t5 : Int) (b0f : Nat → Int) (b1n : Nat) (b1f : Nat → Int) (res : AV) : Prop := Goes ⟨Go.Proofs.Try.prog, 14, [], res, []⟩ (place Go.Proofs.Try.f14 [1, 1, 0, 1, 0, 0, 1, 1, 1]) (s14_1 out_n t5 b0f b1n b1f) (m14_1 out_n t5 b0f b1n b1f)
theorem a14_1 (out_n : Nat) (t5 : Int) (b0f : Nat → Int) (b1n : Nat) (b1f : Nat → Int) (res : AV) (h : (∀ slot, fact (look .undef (s14_1 out_n t5 b0f b1n b1f) slot)) → L14_1 out_n t5 b0f b1n b1f res) : L14_1 out_n t5 b0f b1n b1f res :=
  assumeRule 14 [] Go.Proofs.Try.f14 hf14 [1, 1, 0, 1, 0, 0, 1, 1, 1] (s14_1 out_n t5 b0f b1n b1f) (m14_1 out_n t5 b0f b1n b1f) res [] _ (by kernel_rfl) h
theorem o14 (sf : Nat → Int) (res : AV) (hnew : newOnly res) (h : L14_e sf res) : Ok Go.Proofs.Try.prog 14 [(.ar 4 1 (fun i0 => (.sc (.int .u64 (sf i0)))))] [] res [] :=
  okRule2 14 Go.Proofs.Try.f14 hf14 [(.ar 4 1 (fun i0 => (.sc (.int .u64 (sf i0)))))] [] res [] [] rfl (by kernel_rfl) (by kernel_rfl) (by kernel_rfl) ⟨hnew, by simp⟩ (L14_e sf res) (by kernel_rfl) h
theorem r14_e (sf : Nat → Int) (res : AV)
    (h : L14_0 (0 : Nat) (0 : Int) sf (0 : Nat) (fun (i : Nat) => Int.ofNat (0 : Nat)) res) :
    L14_e sf res :=
  rule Go.Am.Seat.tabOk 14 [] Go.Proofs.Try.f14 hf14 [] (s14_e sf) (m14_e sf) res [] 400
    (Orc.cut (nat_lit 9) (s14_0 (0 : Nat) (0 : Int) sf (0 : Nat) fun (i : Nat) => Int.ofNat (0 : Nat))
  (m14_0 (0 : Nat) (0 : Int) sf (0 : Nat) fun (i : Nat) => Int.ofNat (0 : Nat)) [((1000 : Nat), some (1 : Nat)), ((1001 : Nat), none)]) _ _ (by kernel_rfl) (by kernel_rfl) (show True ∧
  True ∧
    True ∧
    True ∧
    ((True ∧
    Sub (AV.pt (1000 : Nat) [] (0 : Nat)) (AV.pt (1000 : Nat) [] (0 : Nat)) ∧
    True ∧ Sub (AV.sc (Value.int IntKind.i64 (0 : Int))) (AV.sc (Value.int IntKind.i64 (0 : Int))) ∧ True) ∧
    True ∧
    SubB (AV.ar (4 : Nat) (1 : Nat) fun (i0 : Nat) => AV.sc (Value.int IntKind.u64 (sf i0)))
    (AV.ar (4 : Nat) (1 : Nat) fun (i0 : Nat) => AV.sc (Value.int IntKind.u64 (sf i0))) ∧
    True) ∧
    L14_0 (0 : Nat) (0 : Int) sf (0 : Nat) (fun (i : Nat) => Int.ofNat (0 : Nat)) res from
    ⟨trivial, ⟨trivial, ⟨trivial, ⟨trivial, ⟨⟨⟨trivial, ⟨Sub.refl _, ⟨trivial, ⟨Sub.refl _, trivial⟩⟩⟩⟩, ⟨trivial, ⟨SubB.refl _, trivial⟩⟩⟩, h⟩⟩⟩⟩⟩)
theorem r14_0 (out_n : Nat) (t5 : Int) (b0f : Nat → Int) (b1n : Nat) (b1f : Nat → Int) (res : AV)
    (h : (decide (t5 < (256 : Int)) = true →
    ∃ (r : Bool),
    Ok Proofs.Try.prog (15 : Nat)
    [AV.ar (4 : Nat) (1 : Nat) fun (i : Nat) => AV.sc (Value.int IntKind.u64 (b0f i)), AV.sc (Value.int IntKind.u8 (IntKind.u8.wrap t5))] []
    (AV.sc (Value.bool r)) [] ∧
    (r = true →
    (out_n ≤ b1n ∧ (0 : Nat) + (1 : Nat) ≤ (1 : Nat) ∧ (out_n + (1 : Nat)) * (1 : Nat) ≤ (140737488355328 : Nat) ∧ out_n + (1 : Nat) ≤ maxLen) ∧
    L14_1 (out_n + (1 : Nat)) t5 b0f (out_n + (1 : Nat))
    (fun (i : Nat) => bif i.blt out_n then b1f i else bif ((0 : Nat) + (i - out_n)).beq (0 : Nat) then IntKind.u8.wrap t5 else (0 : Int)) res) ∧
    (r = false → L14_1 out_n t5 b0f b1n b1f res)) ∧
  (decide (t5 < (256 : Int)) = false →
    ((0 : Nat) + out_n ≤ b1n ∧
    (strOf out_n fun (i : Nat) => b1f ((0 : Nat) + i)).size = out_n ∧
    ∀ (i : Nat),
    i < out_n →
    AV.sc (Value.int IntKind.u8 (b1f ((0 : Nat) + i))) =
    AV.sc (Value.int IntKind.u8 (↑(byteAt (strOf out_n fun (i : Nat) => b1f ((0 : Nat) + i)) i).toNat : Int))) ∧
    Sub (AV.sc (Value.string (strOf out_n fun (i : Nat) => b1f ((0 : Nat) + i)))) res)) :
    L14_0 out_n t5 b0f b1n b1f res :=
  rule Go.Am.Seat.tabOk 14 [] Go.Proofs.Try.f14 hf14 [1, 1, 0, 1, 0, 0] (s14_0 out_n t5 b0f b1n b1f) (m14_0 out_n t5 b0f b1n b1f) res [] 400
    ((Orc.call [] [] (fun (r15 : Bool) => AV.sc (Value.bool r15)) (fun (r15 : Bool) => []) fun (r15 : Bool) =>
    (Orc.cut (nat_lit 2)
    (s14_1 (out_n + (1 : Nat)) t5 b0f (out_n + (1 : Nat)) fun (i : Nat) =>
    bif i.blt out_n then b1f i else bif ((0 : Nat) + (i - out_n)).beq ((0 : Nat), Operand.tmp (14 : Nat)).fst then IntKind.u8.wrap t5 else (0 : Int))
    (m14_1 (out_n + (1 : Nat)) t5 b0f (out_n + (1 : Nat)) fun (i : Nat) =>
    bif i.blt out_n then b1f i else bif ((0 : Nat) + (i - out_n)).beq ((0 : Nat), Operand.tmp (14 : Nat)).fst then IntKind.u8.wrap t5 else (0 : Int))
    [((1000 : Nat), some (1000 : Nat)), ((1001 : Nat), some (16 : Nat))]).br
    (Orc.cut (nat_lit 2) (s14_1 out_n t5 b0f b1n b1f) (m14_1 out_n t5 b0f b1n b1f)
    [((1000 : Nat), some (1000 : Nat)), ((1001 : Nat), some (1001 : Nat))])).br
  (Orc.ch Ch.none
    (Orc.ch (Ch.s (strOf out_n fun (i : Nat) => b1f ((0 : Nat) + i)))
    (Orc.fin (AV.sc (Value.string (strOf out_n fun (i : Nat) => b1f ((0 : Nat) + i)))) [] [])))) _ _ (by kernel_rfl) (by kernel_rfl) (show True ∧
  (decide (t5 < (256 : Int)) = true →
    True ∧
    True ∧
    ((0 : Nat) = (0 : Nat) ∧ True) ∧
    True ∧
    True ∧
    ∃ (r : Bool),
    ((True ∧ True ∧ True) ∧
    True ∧
    Ok Proofs.Try.prog (15 : Nat)
    [AV.ar (4 : Nat) (1 : Nat) fun (i : Nat) => AV.sc (Value.int IntKind.u64 (b0f i)), AV.sc (Value.int IntKind.u8 (IntKind.u8.wrap t5))]
    [] (AV.sc (Value.bool r)) []) ∧
    (r = true →
    True ∧
    True ∧
    True ∧
    ((True ∧ True) ∧ True) ∧
    (out_n ≤ b1n ∧
    ((0 : Nat) + (1 : Nat) ≤ (1 : Nat) ∧ (1 : Nat) = (1 : Nat)) ∧
    (out_n + (1 : Nat)) * (1 : Nat) ≤ (140737488355328 : Nat) ∧ out_n + (1 : Nat) ≤ maxLen) ∧
    True ∧
    ((True ∧
    Sub (AV.pt (1000 : Nat) [] (0 : Nat)) (AV.pt (1000 : Nat) [] (0 : Nat)) ∧
    True ∧
    Sub (AV.rf (1001 : Nat) (1 : Nat) (0 : Nat) (out_n + (1 : Nat)))
    (AV.rf (1001 : Nat) (1 : Nat) (0 : Nat) (out_n + (1 : Nat))) ∧
    True ∧ Sub (AV.sc (Value.int IntKind.i64 t5)) (AV.sc (Value.int IntKind.i64 t5)) ∧ True) ∧
    True ∧
    SubB (AV.ar (4 : Nat) (1 : Nat) fun (i0 : Nat) => AV.sc (Value.int IntKind.u64 (b0f i0)))
    (AV.ar (4 : Nat) (1 : Nat) fun (i0 : Nat) => AV.sc (Value.int IntKind.u64 (b0f i0))) ∧
    True ∧
    SubB
    (AV.ar (out_n + (1 : Nat)) (1 : Nat) fun (i : Nat) =>
    AV.sc
    (Value.int IntKind.u8
    (bif i.blt out_n then b1f i
    else bif ((0 : Nat) + (i - out_n)).beq (0 : Nat) then IntKind.u8.wrap t5 else (0 : Int))))
    (AV.ar (out_n + (1 : Nat)) (1 : Nat) fun (i0 : Nat) =>
    AV.sc
    (Value.int IntKind.u8
    (bif i0.blt out_n then b1f i0
    else bif ((0 : Nat) + (i0 - out_n)).beq (0 : Nat) then IntKind.u8.wrap t5 else (0 : Int)))) ∧
    True) ∧
    L14_1 (out_n + (1 : Nat)) t5 b0f (out_n + (1 : Nat))
    (fun (i : Nat) =>
    bif i.blt out_n then b1f i else bif ((0 : Nat) + (i - out_n)).beq (0 : Nat) then IntKind.u8.wrap t5 else (0 : Int))
    res) ∧
    (r = false →
    ((True ∧
    Sub (AV.pt (1000 : Nat) [] (0 : Nat)) (AV.pt (1000 : Nat) [] (0 : Nat)) ∧
    True ∧
    Sub (AV.rf (1001 : Nat) (1 : Nat) (0 : Nat) out_n) (AV.rf (1001 : Nat) (1 : Nat) (0 : Nat) out_n) ∧
    True ∧ Sub (AV.sc (Value.int IntKind.i64 t5)) (AV.sc (Value.int IntKind.i64 t5)) ∧ True) ∧
    True ∧
    SubB (AV.ar (4 : Nat) (1 : Nat) fun (i0 : Nat) => AV.sc (Value.int IntKind.u64 (b0f i0)))
    (AV.ar (4 : Nat) (1 : Nat) fun (i0 : Nat) => AV.sc (Value.int IntKind.u64 (b0f i0))) ∧
    True ∧
    SubB (AV.ar b1n (1 : Nat) fun (i0 : Nat) => AV.sc (Value.int IntKind.u8 (b1f i0)))
    (AV.ar b1n (1 : Nat) fun (i0 : Nat) => AV.sc (Value.int IntKind.u8 (b1f i0))) ∧
    True) ∧
    L14_1 out_n t5 b0f b1n b1f res)) ∧
    (decide (t5 < (256 : Int)) = false →
    True ∧
    (((0 : Nat) + out_n ≤ b1n ∧ (1 : Nat) = (1 : Nat)) ∧
    (strOf out_n fun (i : Nat) => b1f ((0 : Nat) + i)).size = out_n ∧
    ∀ (i : Nat),
    i < out_n →
    AV.sc (Value.int IntKind.u8 (b1f ((0 : Nat) + i))) =
    AV.sc (Value.int IntKind.u8 (↑(byteAt (strOf out_n fun (i : Nat) => b1f ((0 : Nat) + i)) i).toNat : Int))) ∧
    True ∧
    True ∧
    ((True ∧
    Sub (AV.sc (Value.string (strOf out_n fun (i : Nat) => b1f ((0 : Nat) + i))))
    (AV.sc (Value.string (strOf out_n fun (i : Nat) => b1f ((0 : Nat) + i)))) ∧
    True) ∧
    True) ∧
    Sub (AV.sc (Value.string (strOf out_n fun (i : Nat) => b1f ((0 : Nat) + i)))) res ∧ SubOut [] []) from
    ⟨trivial, (And.elim (fun h1 k1 => ⟨(fun x2 => (fun h2 => ⟨trivial, ⟨trivial, ⟨⟨rfl, trivial⟩, ⟨trivial, ⟨trivial, (Exists.elim h2 fun x8 h8 => ⟨x8, (And.elim (fun h9 k9 => ⟨⟨⟨trivial, ⟨trivial, trivial⟩⟩, ⟨trivial, h9⟩⟩, (And.elim (fun h10 k10 => ⟨(fun x11 => (fun h11 => ⟨trivial, ⟨trivial, ⟨trivial, ⟨⟨⟨trivial, trivial⟩, trivial⟩, (And.elim (fun h16 k16 => ⟨(And.elim (fun h17 k17 => ⟨h17, (And.elim (fun h18 k18 => ⟨((fun h19 => ⟨h19, rfl⟩) h18), (And.elim (fun h19 k19 => ⟨h19, k19⟩) k18)⟩) k17)⟩) h16), ⟨trivial, ⟨⟨⟨trivial, ⟨Sub.refl _, ⟨trivial, ⟨Sub.refl _, ⟨trivial, ⟨Sub.refl _, trivial⟩⟩⟩⟩⟩⟩, ⟨trivial, ⟨SubB.refl _, ⟨trivial, ⟨SubB.refl _, trivial⟩⟩⟩⟩⟩, k16⟩⟩⟩) h11)⟩⟩⟩⟩) (h10 x11)), (fun x11 => (fun h11 => ⟨⟨⟨trivial, ⟨Sub.refl _, ⟨trivial, ⟨Sub.refl _, ⟨trivial, ⟨Sub.refl _, trivial⟩⟩⟩⟩⟩⟩, ⟨trivial, ⟨SubB.refl _, ⟨trivial, ⟨SubB.refl _, trivial⟩⟩⟩⟩⟩, h11⟩) (k10 x11))⟩) k9)⟩) h8)⟩)⟩⟩⟩⟩⟩) (h1 x2)), (fun x2 => (fun h2 => ⟨trivial, (And.elim (fun h4 k4 => ⟨(And.elim (fun h5 k5 => ⟨((fun h6 => ⟨h6, rfl⟩) h5), (And.elim (fun h6 k6 => ⟨h6, (fun x7 => (fun h7 => (fun x8 => (fun h8 => h8) (h7 x8))) (k6 x7))⟩) k5)⟩) h4), ⟨trivial, ⟨trivial, ⟨⟨⟨trivial, ⟨Sub.refl _, trivial⟩⟩, trivial⟩, ((fun h8 => ⟨h8, trivial⟩) k4)⟩⟩⟩⟩) h2)⟩) (k1 x2))⟩) h)⟩)
theorem r14_1 (out_n : Nat) (t5 : Int) (b0f : Nat → Int) (b1n : Nat) (b1f : Nat → Int) (res : AV)
    (h : L14_0 out_n (IntKind.i64.wrap (t5 + (1 : Int))) b0f b1n b1f res) :
    L14_1 out_n t5 b0f b1n b1f res :=
  rule Go.Am.Seat.tabOk 14 [] Go.Proofs.Try.f14 hf14 [1, 1, 0, 1, 0, 0, 1, 1, 1] (s14_1 out_n t5 b0f b1n b1f) (m14_1 out_n t5 b0f b1n b1f) res [] 400
    (Orc.cut (nat_lit 2) (s14_0 out_n (IntKind.i64.wrap (t5 + (1 : Int))) b0f b1n b1f) (m14_0 out_n (IntKind.i64.wrap (t5 + (1 : Int))) b0f b1n b1f)
  [((1000 : Nat), some (1000 : Nat)), ((1001 : Nat), some (1001 : Nat))]) _ _ (by kernel_rfl) (by kernel_rfl) (show True ∧
  True ∧
    ((True ∧
    Sub (AV.pt (1000 : Nat) [] (0 : Nat)) (AV.pt (1000 : Nat) [] (0 : Nat)) ∧
    True ∧
    Sub (AV.rf (1001 : Nat) (1 : Nat) (0 : Nat) out_n) (AV.rf (1001 : Nat) (1 : Nat) (0 : Nat) out_n) ∧
    True ∧
    Sub (AV.sc (Value.int IntKind.i64 (IntKind.i64.wrap (t5 + (1 : Int))))) (AV.sc (Value.int IntKind.i64 (IntKind.i64.wrap (t5 + (1 : Int))))) ∧
    True) ∧
    True ∧
    SubB (AV.ar (4 : Nat) (1 : Nat) fun (i0 : Nat) => AV.sc (Value.int IntKind.u64 (b0f i0)))
    (AV.ar (4 : Nat) (1 : Nat) fun (i0 : Nat) => AV.sc (Value.int IntKind.u64 (b0f i0))) ∧
    True ∧
    SubB (AV.ar b1n (1 : Nat) fun (i0 : Nat) => AV.sc (Value.int IntKind.u8 (b1f i0)))
    (AV.ar b1n (1 : Nat) fun (i0 : Nat) => AV.sc (Value.int IntKind.u8 (b1f i0))) ∧
    True) ∧
    L14_0 out_n (IntKind.i64.wrap (t5 + (1 : Int))) b0f b1n b1f res from
    ⟨trivial, ⟨trivial, ⟨⟨⟨trivial, ⟨Sub.refl _, ⟨trivial, ⟨Sub.refl _, ⟨trivial, ⟨Sub.refl _, trivial⟩⟩⟩⟩⟩⟩, ⟨trivial, ⟨SubB.refl _, ⟨trivial, ⟨SubB.refl _, trivial⟩⟩⟩⟩⟩, h⟩⟩⟩)
theorem hf15 : Go.Proofs.Try.prog.funcs[15]? = some Go.Proofs.Try.f15 := by kernel_rfl
abbrev s15_e (sf : Nat → Int) (b : Int) : List (Nat × AV) := [(0, (.ar 4 1 (fun i0 => (.sc (.int .u64 (sf i0)))))), (1, (.sc (.int .u8 b)))]
abbrev m15_e (sf : Nat → Int) (b : Int) : List (Nat × Nat × AV) := []
def L15_e (sf : Nat → Int) (b : Int) (res : AV) : Prop := Goes ⟨Go.Proofs.Try.prog, 15, [], res, []⟩ (place Go.Proofs.Try.f15 []) (s15_e sf b) (m15_e sf b)
theorem a15_e (sf : Nat → Int) (b : Int) (res : AV) (h : (∀ slot, fact (look .undef (s15_e sf b) slot)) → L15_e sf b res) : L15_e sf b res :=
  assumeRule 15 [] Go.Proofs.Try.f15 hf15 [] (s15_e sf b) (m15_e sf b) res [] _ (by kernel_rfl) h
theorem o15 (sf : Nat → Int) (b : Int) (res : AV) (hnew : newOnly res) (h : L15_e sf b res) : Ok Go.Proofs.Try.prog 15 [(.ar 4 1 (fun i0 => (.sc (.int .u64 (sf i0))))), (.sc (.int .u8 b))] [] res [] :=
  okRule2 15 Go.Proofs.Try.f15 hf15 [(.ar 4 1 (fun i0 => (.sc (.int .u64 (sf i0))))), (.sc (.int .u8 b))] [] res [] [] rfl (by kernel_rfl) (by kernel_rfl) (by kernel_rfl) ⟨hnew, by simp⟩ (L15_e sf b res) (by kernel_rfl) h
theorem r15_e (sf : Nat → Int) (b : Int) (res : AV)
    (h : ((0 : Int) ≤ IntKind.u8.wrap (b.tdiv (64 : Int)) ∧ IntKind.u8.wrap (b.tdiv (64 : Int)) < (↑(4 : Nat) : Int)) ∧
  (IntKind.u8.wrap (b.tdiv (64 : Int))).toNat < (4 : Nat) ∧
    (0 : Int) ≤ b.tmod (64 : Int) ∧
    Sub
    (AV.sc
    (Value.bool
    (IntKind.u64.wrap
    (↑(BitVec.ofInt IntKind.u64.bits
    ((sf (IntKind.u8.wrap (b.tdiv (64 : Int))).toNat).fdiv ((2 : Int) ^ min (b.tmod (64 : Int)).toNat IntKind.u64.bits)) &&&
    BitVec.ofInt IntKind.u64.bits (1 : Int)).toNat :
    Int) ==
    (1 : Int))))
    res) :
    L15_e sf b res :=
  rule Go.Am.Seat.tabOk 15 [] Go.Proofs.Try.f15 hf15 [] (s15_e sf b) (m15_e sf b) res [] 400
    (Orc.fin
  (AV.sc
    (Value.bool
    (IntKind.u64.wrap
    (↑(BitVec.ofInt IntKind.u64.bits
    ((sf (IntKind.u8.wrap (b.tdiv (64 : Int))).toNat).fdiv ((2 : Int) ^ min (b.tmod (64 : Int)).toNat IntKind.u64.bits)) &&&
    BitVec.ofInt IntKind.u64.bits (1 : Int)).toNat :
    Int) ==
    (1 : Int))))
  [] []) _ _ (by kernel_rfl) (by kernel_rfl) (show True ∧
  True ∧
    True ∧
    (64 : Int) ≠ (0 : Int) ∧
    ((0 : Int) ≤ IntKind.u8.wrap (b.tdiv (64 : Int)) ∧ IntKind.u8.wrap (b.tdiv (64 : Int)) < (↑(4 : Nat) : Int)) ∧
    ((IntKind.u8.wrap (b.tdiv (64 : Int))).toNat * (1 : Nat) + (0 : Nat) = plus (0 : Nat) ((IntKind.u8.wrap (b.tdiv (64 : Int))).toNat * (1 : Nat)) ∧
    (IntKind.u8.wrap (b.tdiv (64 : Int))).toNat < (4 : Nat) ∧ True) ∧
    True ∧
    (64 : Int) ≠ (0 : Int) ∧
    (0 : Int) ≤ b.tmod (64 : Int) ∧
    True ∧
    True ∧
    True ∧
    True ∧
    ((True ∧
    Sub
    (AV.sc
    (Value.bool
    (IntKind.u64.wrap
    (↑(BitVec.ofInt IntKind.u64.bits
    ((sf (IntKind.u8.wrap (b.tdiv (64 : Int))).toNat).fdiv
    ((2 : Int) ^ min (b.tmod (64 : Int)).toNat IntKind.u64.bits)) &&&
    BitVec.ofInt IntKind.u64.bits (1 : Int)).toNat :
    Int) ==
    (1 : Int))))
    (AV.sc
    (Value.bool
    (IntKind.u64.wrap
    (↑(BitVec.ofInt IntKind.u64.bits
    ((sf (IntKind.u8.wrap (b.tdiv (64 : Int))).toNat).fdiv
    ((2 : Int) ^ min (b.tmod (64 : Int)).toNat IntKind.u64.bits)) &&&
    BitVec.ofInt IntKind.u64.bits (1 : Int)).toNat :
    Int) ==
    (1 : Int)))) ∧
    True) ∧
    True) ∧
    Sub
    (AV.sc
    (Value.bool
    (IntKind.u64.wrap
    (↑(BitVec.ofInt IntKind.u64.bits
    ((sf (IntKind.u8.wrap (b.tdiv (64 : Int))).toNat).fdiv
    ((2 : Int) ^ min (b.tmod (64 : Int)).toNat IntKind.u64.bits)) &&&
    BitVec.ofInt IntKind.u64.bits (1 : Int)).toNat :
    Int) ==
    (1 : Int))))
    res ∧
    SubOut [] [] from
    ⟨trivial, ⟨trivial, ⟨trivial, ⟨(by decide), (And.elim (fun h4 k4 => ⟨(And.elim (fun h5 k5 => ⟨h5, k5⟩) h4), (And.elim (fun h5 k5 => ⟨⟨rfl, ((fun h7 => ⟨h7, trivial⟩) h5)⟩, ⟨trivial, ⟨(by decide), (And.elim (fun h8 k8 => ⟨h8, ⟨trivial, ⟨trivial, ⟨trivial, ⟨trivial, ⟨⟨⟨trivial, ⟨Sub.refl _, trivial⟩⟩, trivial⟩, ((fun h14 => ⟨h14, trivial⟩) k8)⟩⟩⟩⟩⟩⟩) k5)⟩⟩⟩) k4)⟩) h)⟩⟩⟩⟩)
theorem hf16 : Go.Proofs.Try.prog.funcs[16]? = some Go.Proofs.Try.f16 := by kernel_rfl
abbrev s16_e (sf : Nat → Int) : List (Nat × AV) := [(0, (.ar 4 1 (fun i0 => (.sc (.int .u64 (sf i0))))))]
abbrev m16_e (sf : Nat → Int) : List (Nat × Nat × AV) := []
def L16_e (sf : Nat → Int) (res : AV) : Prop := Goes ⟨Go.Proofs.Try.prog, 16, [], res, []⟩ (place Go.Proofs.Try.f16 []) (s16_e sf) (m16_e sf)
theorem a16_e (sf : Nat → Int) (res : AV) (h : (∀ slot, fact (look .undef (s16_e sf) slot)) → L16_e sf res) : L16_e sf res :=
  assumeRule 16 [] Go.Proofs.Try.f16 hf16 [] (s16_e sf) (m16_e sf) res [] _ (by kernel_rfl) h
abbrev s16_0 (n : Int) (t6f : Nat → Int) (t7 : Int) : List (Nat × AV) := [(3, (.sc (.int .i64 n))), (6, (.ar 4 1 (fun i0 => (.sc (.int .u64 (t6f i0)))))), (7, (.sc (.int .i64 t7)))]
abbrev m16_0 (n : Int) (t6f : Nat → Int) (t7 : Int) : List (Nat × Nat × AV) := []
def L16_0 (n : Int) (t6f : Nat → Int) (t7 : Int) (res : AV) : Prop := Goes ⟨Go.Proofs.Try.prog, 16, [], res, []⟩ (place Go.Proofs.Try.f16 [1, 1, 0, 1, 0, 0]) (s16_0 n t6f t7) (m16_0 n t6f t7)
theorem a16_0 (n : Int) (t6f : Nat → Int) (t7 : Int) (res : AV) (h : (∀ slot, fact (look .undef (s16_0 n t6f t7) slot)) → L16_0 n t6f t7 res) : L16_0 n t6f t7 res :=
  assumeRule 16 [] Go.Proofs.Try.f16 hf16 [1, 1, 0, 1, 0, 0] (s16_0 n t6f t7) (m16_0 n t6f t7) res [] _ (by kernel_rfl) h
theorem o16 (sf : Nat → Int) (res : AV) (hnew : newOnly res) (h : L16_e sf res) : Ok Go.Proofs.Try.prog 16 [(.ar 4 1 (fun i0 => (.sc (.int .u64 (sf i0)))))] [] res [] :=
  okRule2 16 Go.Proofs.Try.f16 hf16 [(.ar 4 1 (fun i0 => (.sc (.int .u64 (sf i0)))))] [] res [] [] rfl (by kernel_rfl) (by kernel_rfl) (by kernel_rfl) ⟨hnew, by simp⟩ (L16_e sf res) (by kernel_rfl) h
theorem r16_e (sf : Nat → Int) (res : AV)
    (h : L16_0 (0 : Int) sf (0 : Int) res) :
    L16_e sf res :=
  rule Go.Am.Seat.tabOk 16 [] Go.Proofs.Try.f16 hf16 [] (s16_e sf) (m16_e sf) res [] 400
    (Orc.cut (nat_lit 9) (s16_0 (0 : Int) sf (0 : Int)) (m16_0 (0 : Int) sf (0 : Int)) []) _ _ (by kernel_rfl) (by kernel_rfl) (show True ∧
  True ∧
    True ∧
    ((0 : Nat) = (0 : Nat) ∧ True) ∧
    True ∧
    ((True ∧
    Sub (AV.sc (Value.int IntKind.i64 (0 : Int))) (AV.sc (Value.int IntKind.i64 (0 : Int))) ∧
    True ∧
    Sub (AV.ar (4 : Nat) (1 : Nat) fun (i0 : Nat) => AV.sc (Value.int IntKind.u64 (sf i0)))
    (AV.ar (4 : Nat) (1 : Nat) fun (i0 : Nat) => AV.sc (Value.int IntKind.u64 (sf i0))) ∧
    True ∧ Sub (AV.sc (Value.int IntKind.i64 (0 : Int))) (AV.sc (Value.int IntKind.i64 (0 : Int))) ∧ True) ∧
    True) ∧
    L16_0 (0 : Int) sf (0 : Int) res from
    ⟨trivial, ⟨trivial, ⟨trivial, ⟨⟨rfl, trivial⟩, ⟨trivial, ⟨⟨⟨trivial, ⟨Sub.refl _, ⟨trivial, ⟨Sub.refl _, ⟨trivial, ⟨Sub.refl _, trivial⟩⟩⟩⟩⟩⟩, trivial⟩, h⟩⟩⟩⟩⟩⟩)
theorem r16_0 (n : Int) (t6f : Nat → Int) (t7 : Int) (res : AV)
    (h : (decide (t7 < (4 : Int)) = true →
    ((0 : Int) ≤ t7 ∧ t7 < (↑(4 : Nat) : Int) ∧ (AV.sc (Value.int IntKind.u64 (t6f t7.toNat))).sz = (1 : Nat)) ∧
    ∃ (r : Int),
    Ok Proofs.Try.prog (29 : Nat) [AV.sc (Value.int IntKind.u64 (t6f t7.toNat))] [] (AV.sc (Value.int IntKind.i64 r)) [] ∧
    L16_0 (IntKind.i64.wrap (n + r)) t6f (IntKind.i64.wrap (t7 + (1 : Int))) res) ∧
  (decide (t7 < (4 : Int)) = false → Sub (AV.sc (Value.int IntKind.i64 n)) res)) :
    L16_0 n t6f t7 res :=
  rule Go.Am.Seat.tabOk 16 [] Go.Proofs.Try.f16 hf16 [1, 1, 0, 1, 0, 0] (s16_0 n t6f t7) (m16_0 n t6f t7) res [] 400
    ((Orc.call [] [] (fun (r29 : Int) => AV.sc (Value.int IntKind.i64 r29)) (fun (r29 : Int) => []) fun (r29 : Int) =>
    Orc.cut (nat_lit 3) (s16_0 (IntKind.i64.wrap (n + r29)) t6f (IntKind.i64.wrap (t7 + (1 : Int))))
    (m16_0 (IntKind.i64.wrap (n + r29)) t6f (IntKind.i64.wrap (t7 + (1 : Int)))) []).br
  (Orc.fin (AV.sc (Value.int IntKind.i64 n)) [] [])) _ _ (by kernel_rfl) (by kernel_rfl) (show True ∧
  (decide (t7 < (4 : Int)) = true →
    ((0 : Int) ≤ t7 ∧ t7 < (↑(4 : Nat) : Int) ∧ (AV.sc (Value.int IntKind.u64 (t6f t7.toNat))).sz = (1 : Nat) ∧ false = false) ∧
    True ∧
    True ∧
    True ∧
    ∃ (r : Int),
    ((True ∧ True) ∧ True ∧ Ok Proofs.Try.prog (29 : Nat) [AV.sc (Value.int IntKind.u64 (t6f t7.toNat))] [] (AV.sc (Value.int IntKind.i64 r)) []) ∧
    True ∧
    True ∧
    True ∧
    True ∧
    ((True ∧
    Sub (AV.sc (Value.int IntKind.i64 (IntKind.i64.wrap (n + r)))) (AV.sc (Value.int IntKind.i64 (IntKind.i64.wrap (n + r)))) ∧
    True ∧
    Sub (AV.ar (4 : Nat) (1 : Nat) fun (i0 : Nat) => AV.sc (Value.int IntKind.u64 (t6f i0)))
    (AV.ar (4 : Nat) (1 : Nat) fun (i0 : Nat) => AV.sc (Value.int IntKind.u64 (t6f i0))) ∧
    True ∧
    Sub (AV.sc (Value.int IntKind.i64 (IntKind.i64.wrap (t7 + (1 : Int)))))
    (AV.sc (Value.int IntKind.i64 (IntKind.i64.wrap (t7 + (1 : Int))))) ∧
    True) ∧
    True) ∧
    L16_0 (IntKind.i64.wrap (n + r)) t6f (IntKind.i64.wrap (t7 + (1 : Int))) res) ∧
    (decide (t7 < (4 : Int)) = false →
    True ∧
    True ∧
    True ∧
    ((True ∧ Sub (AV.sc (Value.int IntKind.i64 n)) (AV.sc (Value.int IntKind.i64 n)) ∧ True) ∧ True) ∧
    Sub (AV.sc (Value.int IntKind.i64 n)) res ∧ SubOut [] []) from
    ⟨trivial, (And.elim (fun h1 k1 => ⟨(fun x2 => (fun h2 => (And.elim (fun h3 k3 => ⟨(And.elim (fun h4 k4 => ⟨h4, (And.elim (fun h5 k5 => ⟨h5, ((fun h6 => ⟨h6, rfl⟩) k5)⟩) k4)⟩) h3), ⟨trivial, ⟨trivial, ⟨trivial, (Exists.elim k3 fun x7 h7 => ⟨x7, (And.elim (fun h8 k8 => ⟨⟨⟨trivial, trivial⟩, ⟨trivial, h8⟩⟩, ⟨trivial, ⟨trivial, ⟨trivial, ⟨trivial, ⟨⟨⟨trivial, ⟨Sub.refl _, ⟨trivial, ⟨Sub.refl _, ⟨trivial, ⟨Sub.refl _, trivial⟩⟩⟩⟩⟩⟩, trivial⟩, k8⟩⟩⟩⟩⟩⟩) h7)⟩)⟩⟩⟩⟩) h2)) (h1 x2)), (fun x2 => (fun h2 => ⟨trivial, ⟨trivial, ⟨trivial, ⟨⟨⟨trivial, ⟨Sub.refl _, trivial⟩⟩, trivial⟩, ((fun h7 => ⟨h7, trivial⟩) h2)⟩⟩⟩⟩) (k1 x2))⟩) h)⟩)
theorem hf17 : Go.Proofs.Try.prog.funcs[17]? = some Go.Proofs.Try.f17 := by kernel_rfl
abbrev s17_e (bytes : ByteArray) : List (Nat × AV) := [(0, (.sc (.string bytes)))]
abbrev m17_e (bytes : ByteArray) : List (Nat × Nat × AV) := []
def L17_e (bytes : ByteArray) (res : AV) : Prop := Goes ⟨Go.Proofs.Try.prog, 17, [], res, []⟩ (place Go.Proofs.Try.f17 []) (s17_e bytes) (m17_e bytes)
theorem a17_e (bytes : ByteArray) (res : AV) (h : (∀ slot, fact (look .undef (s17_e bytes) slot)) → L17_e bytes res) : L17_e bytes res :=
  assumeRule 17 [] Go.Proofs.Try.f17 hf17 [] (s17_e bytes) (m17_e bytes) res [] _ (by kernel_rfl) h
abbrev s17_0 (bytes : ByteArray) (t6 : Int) (t7 : Int) (b0f : Nat → Int) (b1f : Nat → Int) : List (Nat × AV) := [(0, (.sc (.string bytes))), (2, (.pt 1000 [] 0)), (3, (.pt 1001 [] 0)), (6, (.sc (.int .i64 t6))), (7, (.sc (.int .i64 t7)))]
abbrev m17_0 (bytes : ByteArray) (t6 : Int) (t7 : Int) (b0f : Nat → Int) (b1f : Nat → Int) : List (Nat × Nat × AV) := [(1000, 24, (.ar 4 1 (fun i0 => (.sc (.int .u64 (b0f i0)))))), (1001, 24, (.ar 4 1 (fun i0 => (.sc (.int .u64 (b1f i0))))))]
def L17_0 (bytes : ByteArray) (t6 : Int) (t7 : Int) (b0f : Nat → Int) (b1f : Nat → Int) (res : AV) : Prop := Goes ⟨Go.Proofs.Try.prog, 17, [], res, []⟩ (place Go.Proofs.Try.f17 [1, 1, 0, 1, 0, 0]) (s17_0 bytes t6 t7 b0f b1f) (m17_0 bytes t6 t7 b0f b1f)
theorem a17_0 (bytes : ByteArray) (t6 : Int) (t7 : Int) (b0f : Nat → Int) (b1f : Nat → Int) (res : AV) (h : (∀ slot, fact (look .undef (s17_0 bytes t6 t7 b0f b1f) slot)) → L17_0 bytes t6 t7 b0f b1f res) : L17_0 bytes t6 t7 b0f b1f res :=
  assumeRule 17 [] Go.Proofs.Try.f17 hf17 [1, 1, 0, 1, 0, 0] (s17_0 bytes t6 t7 b0f b1f) (m17_0 bytes t6 t7 b0f b1f) res [] _ (by kernel_rfl) h
theorem o17 (bytes : ByteArray) (res : AV) (hnew : newOnly res) (h : L17_e bytes res) : Ok Go.Proofs.Try.prog 17 [(.sc (.string bytes))] [] res [] :=
  okRule2 17 Go.Proofs.Try.f17 hf17 [(.sc (.string bytes))] [] res [] [] rfl (by kernel_rfl) (by kernel_rfl) (by kernel_rfl) ⟨hnew, by simp⟩ (L17_e bytes res) (by kernel_rfl) h
theorem r17_e (bytes : ByteArray) (res : AV)
    (h : L17_0 bytes (↑bytes.size : Int) (0 : Int) (fun (x : Nat) => (0 : Int)) (fun (x : Nat) => (0 : Int)) res) :
    L17_e bytes res :=
  rule Go.Am.Seat.tabOk 17 [] Go.Proofs.Try.f17 hf17 [] (s17_e bytes) (m17_e bytes) res [] 400
    (Orc.cut (nat_lit 9) (s17_0 bytes (↑bytes.size : Int) (0 : Int) (fun (x : Nat) => (0 : Int)) fun (x : Nat) => (0 : Int))
  (m17_0 bytes (↑bytes.size : Int) (0 : Int) (fun (x : Nat) => (0 : Int)) fun (x : Nat) => (0 : Int))
  [((1000 : Nat), some (2 : Nat)), ((1001 : Nat), some (3 : Nat))]) _ _ (by kernel_rfl) (by kernel_rfl) (show True ∧
  True ∧
    True ∧
    True ∧
    True ∧
    ((True ∧
    Sub (AV.sc (Value.string bytes)) (AV.sc (Value.string bytes)) ∧
    True ∧
    Sub (AV.pt (1000 : Nat) [] (0 : Nat)) (AV.pt (1000 : Nat) [] (0 : Nat)) ∧
    True ∧
    Sub (AV.pt (1001 : Nat) [] (0 : Nat)) (AV.pt (1001 : Nat) [] (0 : Nat)) ∧
    True ∧
    Sub (AV.sc (Value.int IntKind.i64 (↑bytes.size : Int))) (AV.sc (Value.int IntKind.i64 (↑bytes.size : Int))) ∧
    True ∧ Sub (AV.sc (Value.int IntKind.i64 (0 : Int))) (AV.sc (Value.int IntKind.i64 (0 : Int))) ∧ True) ∧
    True ∧
    SubB (AV.ar (4 : Nat) (1 : Nat) fun (x : Nat) => AV.sc (Value.int IntKind.u64 (0 : Int)))
    (AV.ar (4 : Nat) (1 : Nat) fun (i0 : Nat) => AV.sc (Value.int IntKind.u64 (0 : Int))) ∧
    True ∧
    SubB (AV.ar (4 : Nat) (1 : Nat) fun (x : Nat) => AV.sc (Value.int IntKind.u64 (0 : Int)))
    (AV.ar (4 : Nat) (1 : Nat) fun (i0 : Nat) => AV.sc (Value.int IntKind.u64 (0 : Int))) ∧
    True) ∧
    L17_0 bytes (↑bytes.size : Int) (0 : Int) (fun (x : Nat) => (0 : Int)) (fun (x : Nat) => (0 : Int)) res from
    ⟨trivial, ⟨trivial, ⟨trivial, ⟨trivial, ⟨trivial, ⟨⟨⟨trivial, ⟨Sub.refl _, ⟨trivial, ⟨Sub.refl _, ⟨trivial, ⟨Sub.refl _, ⟨trivial, ⟨Sub.refl _, ⟨trivial, ⟨Sub.refl _, trivial⟩⟩⟩⟩⟩⟩⟩⟩⟩⟩, ⟨trivial, ⟨SubB.refl _, ⟨trivial, ⟨SubB.refl _, trivial⟩⟩⟩⟩⟩, h⟩⟩⟩⟩⟩⟩)
theorem r17_0 (bytes : ByteArray) (t6 : Int) (t7 : Int) (b0f : Nat → Int) (b1f : Nat → Int) (res : AV)
    (h : (decide (t7 < t6) = true →
    ((0 : Int) ≤ t7 ∧ t7 < (↑bytes.size : Int)) ∧
    ∃ (r : Nat → Int),
    Ok Proofs.Try.prog (30 : Nat)
    [AV.ar (4 : Nat) (1 : Nat) fun (i : Nat) => AV.sc (Value.int IntKind.u64 (b1f i)),
    AV.sc (Value.int IntKind.u8 (↑(byteAt bytes t7.toNat).toNat : Int))]
    [] (AV.ar (4 : Nat) (1 : Nat) fun (i0 : Nat) => AV.sc (Value.int IntKind.u64 (r i0))) [] ∧
    L17_0 bytes t6 (IntKind.i64.wrap (t7 + (1 : Int))) b0f r res) ∧
  (decide (t7 < t6) = false → Sub (AV.ar (4 : Nat) (1 : Nat) fun (i0 : Nat) => AV.sc (Value.int IntKind.u64 (b1f i0))) res)) :
    L17_0 bytes t6 t7 b0f b1f res :=
  rule Go.Am.Seat.tabOk 17 [] Go.Proofs.Try.f17 hf17 [1, 1, 0, 1, 0, 0] (s17_0 bytes t6 t7 b0f b1f) (m17_0 bytes t6 t7 b0f b1f) res [] 400
    ((Orc.call [] [] (fun (r30 : Nat → Int) => AV.ar (4 : Nat) (1 : Nat) fun (i0 : Nat) => AV.sc (Value.int IntKind.u64 (r30 i0))) (fun (r30 : Nat → Int) => [])
    fun (r30 : Nat → Int) =>
    Orc.cut (nat_lit 3) (s17_0 bytes t6 (IntKind.i64.wrap (t7 + (1 : Int))) b0f r30) (m17_0 bytes t6 (IntKind.i64.wrap (t7 + (1 : Int))) b0f r30)
    [((1000 : Nat), some (1000 : Nat)), ((1001 : Nat), some (1001 : Nat))]).br
  (Orc.fin (AV.ar (4 : Nat) (1 : Nat) fun (i0 : Nat) => AV.sc (Value.int IntKind.u64 (b1f i0))) [] [])) _ _ (by kernel_rfl) (by kernel_rfl) (show True ∧
  (decide (t7 < t6) = true →
    True ∧
    True ∧
    ((0 : Nat) = (0 : Nat) ∧ True) ∧
    True ∧
    True ∧
    ((0 : Int) ≤ t7 ∧ t7 < (↑bytes.size : Int)) ∧
    ∃ (r : Nat → Int),
    ((True ∧ True ∧ True) ∧
    True ∧
    Ok Proofs.Try.prog (30 : Nat)
    [AV.ar (4 : Nat) (1 : Nat) fun (i : Nat) => AV.sc (Value.int IntKind.u64 (b1f i)),
    AV.sc (Value.int IntKind.u8 (↑(byteAt bytes t7.toNat).toNat : Int))]
    [] (AV.ar (4 : Nat) (1 : Nat) fun (i0 : Nat) => AV.sc (Value.int IntKind.u64 (r i0))) []) ∧
    ((0 : Nat) = (0 : Nat) ∧ True) ∧
    True ∧
    True ∧
    ((True ∧
    Sub (AV.sc (Value.string bytes)) (AV.sc (Value.string bytes)) ∧
    True ∧
    Sub (AV.pt (1000 : Nat) [] (0 : Nat)) (AV.pt (1000 : Nat) [] (0 : Nat)) ∧
    True ∧
    Sub (AV.pt (1001 : Nat) [] (0 : Nat)) (AV.pt (1001 : Nat) [] (0 : Nat)) ∧
    True ∧
    Sub (AV.sc (Value.int IntKind.i64 t6)) (AV.sc (Value.int IntKind.i64 t6)) ∧
    True ∧
    Sub (AV.sc (Value.int IntKind.i64 (IntKind.i64.wrap (t7 + (1 : Int)))))
    (AV.sc (Value.int IntKind.i64 (IntKind.i64.wrap (t7 + (1 : Int))))) ∧
    True) ∧
    True ∧
    SubB (AV.ar (4 : Nat) (1 : Nat) fun (i0 : Nat) => AV.sc (Value.int IntKind.u64 (b0f i0)))
    (AV.ar (4 : Nat) (1 : Nat) fun (i0 : Nat) => AV.sc (Value.int IntKind.u64 (b0f i0))) ∧
    True ∧
    SubB (AV.ar (4 : Nat) (1 : Nat) fun (i0 : Nat) => AV.sc (Value.int IntKind.u64 (r i0)))
    (AV.ar (4 : Nat) (1 : Nat) fun (i0 : Nat) => AV.sc (Value.int IntKind.u64 (r i0))) ∧
    True) ∧
    L17_0 bytes t6 (IntKind.i64.wrap (t7 + (1 : Int))) b0f r res) ∧
    (decide (t7 < t6) = false →
    ((0 : Nat) = (0 : Nat) ∧ True) ∧
    ((0 : Nat) = (0 : Nat) ∧ True) ∧
    ((0 : Nat) = (0 : Nat) ∧ True) ∧
    ((True ∧
    Sub (AV.ar (4 : Nat) (1 : Nat) fun (i0 : Nat) => AV.sc (Value.int IntKind.u64 (b1f i0)))
    (AV.ar (4 : Nat) (1 : Nat) fun (i0 : Nat) => AV.sc (Value.int IntKind.u64 (b1f i0))) ∧
    True) ∧
    True) ∧
    Sub (AV.ar (4 : Nat) (1 : Nat) fun (i0 : Nat) => AV.sc (Value.int IntKind.u64 (b1f i0))) res ∧ SubOut [] []) from
    ⟨trivial, (And.elim (fun h1 k1 => ⟨(fun x2 => (fun h2 => ⟨trivial, ⟨trivial, ⟨⟨rfl, trivial⟩, ⟨trivial, ⟨trivial, (And.elim (fun h8 k8 => ⟨(And.elim (fun h9 k9 => ⟨h9, k9⟩) h8), (Exists.elim k8 fun x9 h9 => ⟨x9, (And.elim (fun h10 k10 => ⟨⟨⟨trivial, ⟨trivial, trivial⟩⟩, ⟨trivial, h10⟩⟩, ⟨⟨rfl, trivial⟩, ⟨trivial, ⟨trivial, ⟨⟨⟨trivial, ⟨Sub.refl _, ⟨trivial, ⟨Sub.refl _, ⟨trivial, ⟨Sub.refl _, ⟨trivial, ⟨Sub.refl _, ⟨trivial, ⟨Sub.refl _, trivial⟩⟩⟩⟩⟩⟩⟩⟩⟩⟩, ⟨trivial, ⟨SubB.refl _, ⟨trivial, ⟨SubB.refl _, trivial⟩⟩⟩⟩⟩, k10⟩⟩⟩⟩⟩) h9)⟩)⟩) h2)⟩⟩⟩⟩⟩) (h1 x2)), (fun x2 => (fun h2 => ⟨⟨rfl, trivial⟩, ⟨⟨rfl, trivial⟩, ⟨⟨rfl, trivial⟩, ⟨⟨⟨trivial, ⟨Sub.refl _, trivial⟩⟩, trivial⟩, ((fun h7 => ⟨h7, trivial⟩) h2)⟩⟩⟩⟩) (k1 x2))⟩) h)⟩)
theorem hf18 : Go.Proofs.Try.prog.funcs[18]? = some Go.Proofs.Try.f18 := by kernel_rfl
abbrev s18_e (sf : Nat → Int) : List (Nat × AV) := [(0, (.ar 4 1 (fun i0 => (.sc (.int .u64 (sf i0))))))]
abbrev m18_e (sf : Nat → Int) : List (Nat × Nat × AV) := []
def L18_e (sf : Nat → Int) (res : AV) : Prop := Goes ⟨Go.Proofs.Try.prog, 18, [], res, []⟩ (place Go.Proofs.Try.f18 []) (s18_e sf) (m18_e sf)
theorem a18_e (sf : Nat → Int) (res : AV) (h : (∀ slot, fact (look .undef (s18_e sf) slot)) → L18_e sf res) : L18_e sf res :=
  assumeRule 18 [] Go.Proofs.Try.f18 hf18 [] (s18_e sf) (m18_e sf) res [] _ (by kernel_rfl) h
abbrev s18_0 (b : Int) (b0f : Nat → Int) (b1f : Nat → Bool) (b2f : Nat → Bool) : List (Nat × AV) := [(1, (.pt 1000 [] 0)), (2, (.pt 1001 [] 0)), (3, (.pt 1002 [] 0)), (4, (.sc (.int .i64 b)))]
abbrev m18_0 (b : Int) (b0f : Nat → Int) (b1f : Nat → Bool) (b2f : Nat → Bool) : List (Nat × Nat × AV) := [(1000, 24, (.ar 4 1 (fun i0 => (.sc (.int .u64 (b0f i0)))))), (1001, 38, (.ar 256 1 (fun i0 => (.sc (.bool (b1f i0)))))), (1002, 38, (.ar 256 1 (fun i0 => (.sc (.bool (b2f i0))))))]
def L18_0 (b : Int) (b0f : Nat → Int) (b1f : Nat → Bool) (b2f : Nat → Bool) (res : AV) : Prop := Goes ⟨Go.Proofs.Try.prog, 18, [], res, []⟩ (place Go.Proofs.Try.f18 [1, 1, 0, 1, 0, 0]) (s18_0 b b0f b1f b2f) (m18_0 b b0f b1f b2f)
theorem a18_0 (b : Int) (b0f : Nat → Int) (b1f : Nat → Bool) (b2f : Nat → Bool) (res : AV) (h : (∀ slot, fact (look .undef (s18_0 b b0f b1f b2f) slot)) → L18_0 b b0f b1f b2f res) : L18_0 b b0f b1f b2f res :=
  assumeRule 18 [] Go.Proofs.Try.f18 hf18 [1, 1, 0, 1, 0, 0] (s18_0 b b0f b1f b2f) (m18_0 b b0f b1f b2f) res [] _ (by kernel_rfl) h
abbrev s18_1 (b : Int) (w : Int) (i : Int) (b0f : Nat → Int) (b1f : Nat → Bool) (b2f : Nat → Bool) : List (Nat × AV) := [(1, (.pt 1000 [] 0)), (2, (.pt 1001 [] 0)), (3, (.pt 1002 [] 0)), (4, (.sc (.int .i64 b))), (5, (.sc (.int .u64 w))), (6, (.sc (.int .i64 i)))]
abbrev m18_1 (b : Int) (w : Int) (i : Int) (b0f : Nat → Int) (b1f : Nat → Bool) (b2f : Nat → Bool) : List (Nat × Nat × AV) := [(1000, 24, (.ar 4 1 (fun i0 => (.sc (.int .u64 (b0f i0)))))), (1001, 38, (.ar 256 1 (fun i0 => (.sc (.bool (b1f i0)))))), (1002, 38, (.ar 256 1 (fun i0 => (.sc (.bool (b2f i0))))))]
def L18_1 (b : Int) (w : Int) (i : Int) (b0f : Nat → Int) (b1f : Nat → Bool) (b2f : Nat → Bool) (res : AV) : Prop := Goes ⟨Go.Proofs.Try.prog, 18, [], res, []⟩ (place Go.Proofs.Try.f18 [1, 1, 0, 1, 0, 0, 1, 0, 0, 1, 0, 1, 0, 0]) (s18_1 b w i b0f b1f b2f) (m18_1 b w i b0f b1f b2f)
theorem a18_1 (b : Int) (w : Int) (i : Int) (b0f : Nat → Int) (b1f : Nat → Bool) (b2f : Nat → Bool) (res : AV) (h : (∀ slot, fact (look .undef (s18_1 b w i b0f b1f b2f) slot)) → L18_1 b w i b0f b1f b2f res) : L18_1 b w i b0f b1f b2f res :=
  assumeRule 18 [] Go.Proofs.Try.f18 hf18 [1, 1, 0, 1, 0, 0, 1, 0, 0, 1, 0, 1, 0, 0] (s18_1 b w i b0f b1f b2f) (m18_1 b w i b0f b1f b2f) res [] _ (by kernel_rfl) h
theorem o18 (sf : Nat → Int) (res : AV) (hnew : newOnly res) (h : L18_e sf res) : Ok Go.Proofs.Try.prog 18 [(.ar 4 1 (fun i0 => (.sc (.int .u64 (sf i0)))))] [] res [] :=
  okRule2 18 Go.Proofs.Try.f18 hf18 [(.ar 4 1 (fun i0 => (.sc (.int .u64 (sf i0)))))] [] res [] [] rfl (by kernel_rfl) (by kernel_rfl) (by kernel_rfl) ⟨hnew, by simp⟩ (L18_e sf res) (by kernel_rfl) h
theorem r18_e (sf : Nat → Int) (res : AV)
    (h : L18_0 (0 : Int) sf (fun (x : Nat) => false) (fun (x : Nat) => false) res) :
    L18_e sf res :=
  rule Go.Am.Seat.tabOk 18 [] Go.Proofs.Try.f18 hf18 [] (s18_e sf) (m18_e sf) res [] 400
    (Orc.cut (nat_lit 9) (s18_0 (0 : Int) sf (fun (x : Nat) => false) fun (x : Nat) => false) (m18_0 (0 : Int) sf (fun (x : Nat) => false) fun (x : Nat) => false)
  [((1000 : Nat), some (1 : Nat)), ((1001 : Nat), some (2 : Nat)), ((1002 : Nat), some (3 : Nat))]) _ _ (by kernel_rfl) (by kernel_rfl) (show True ∧
  True ∧
    True ∧
    True ∧
    ((True ∧
    Sub (AV.pt (1000 : Nat) [] (0 : Nat)) (AV.pt (1000 : Nat) [] (0 : Nat)) ∧
    True ∧
    Sub (AV.pt (1001 : Nat) [] (0 : Nat)) (AV.pt (1001 : Nat) [] (0 : Nat)) ∧
    True ∧
    Sub (AV.pt (1002 : Nat) [] (0 : Nat)) (AV.pt (1002 : Nat) [] (0 : Nat)) ∧
    True ∧ Sub (AV.sc (Value.int IntKind.i64 (0 : Int))) (AV.sc (Value.int IntKind.i64 (0 : Int))) ∧ True) ∧
    True ∧
    SubB (AV.ar (4 : Nat) (1 : Nat) fun (i0 : Nat) => AV.sc (Value.int IntKind.u64 (sf i0)))
    (AV.ar (4 : Nat) (1 : Nat) fun (i0 : Nat) => AV.sc (Value.int IntKind.u64 (sf i0))) ∧
    True ∧
    SubB (AV.ar (256 : Nat) (1 : Nat) fun (x : Nat) => AV.sc (Value.bool false))
    (AV.ar (256 : Nat) (1 : Nat) fun (i0 : Nat) => AV.sc (Value.bool false)) ∧
    True ∧
    SubB (AV.ar (256 : Nat) (1 : Nat) fun (x : Nat) => AV.sc (Value.bool false))
    (AV.ar (256 : Nat) (1 : Nat) fun (i0 : Nat) => AV.sc (Value.bool false)) ∧
    True) ∧
    L18_0 (0 : Int) sf (fun (x : Nat) => false) (fun (x : Nat) => false) res from
    ⟨trivial, ⟨trivial, ⟨trivial, ⟨trivial, ⟨⟨⟨trivial, ⟨Sub.refl _, ⟨trivial, ⟨Sub.refl _, ⟨trivial, ⟨Sub.refl _, ⟨trivial, ⟨Sub.refl _, trivial⟩⟩⟩⟩⟩⟩⟩⟩, ⟨trivial, ⟨SubB.refl _, ⟨trivial, ⟨SubB.refl _, ⟨trivial, ⟨SubB.refl _, trivial⟩⟩⟩⟩⟩⟩⟩, h⟩⟩⟩⟩⟩)
theorem r18_0 (b : Int) (b0f : Nat → Int) (b1f : Nat → Bool) (b2f : Nat → Bool) (res : AV)
    (h : (decide (b < (256 : Int)) = true →
    ((0 : Int) ≤ IntKind.i64.wrap (b.tdiv (64 : Int)) ∧ IntKind.i64.wrap (b.tdiv (64 : Int)) < (↑(4 : Nat) : Int)) ∧
    (IntKind.i64.wrap (b.tdiv (64 : Int))).toNat < (4 : Nat) ∧ L18_1 b (b0f (IntKind.i64.wrap (b.tdiv (64 : Int))).toNat) (0 : Int) b0f b1f b2f res) ∧
  (decide (b < (256 : Int)) = false → Sub (AV.ar (256 : Nat) (1 : Nat) fun (i0 : Nat) => AV.sc (Value.bool (b2f i0))) res)) :
    L18_0 b b0f b1f b2f res :=
  rule Go.Am.Seat.tabOk 18 [] Go.Proofs.Try.f18 hf18 [1, 1, 0, 1, 0, 0] (s18_0 b b0f b1f b2f) (m18_0 b b0f b1f b2f) res [] 400
    ((Orc.cut (nat_lit 10) (s18_1 b (b0f (IntKind.i64.wrap (b.tdiv (64 : Int))).toNat) (0 : Int) b0f b1f b2f)
    (m18_1 b (b0f (IntKind.i64.wrap (b.tdiv (64 : Int))).toNat) (0 : Int) b0f b1f b2f)
    [((1000 : Nat), some (1000 : Nat)), ((1001 : Nat), some (1001 : Nat)), ((1002 : Nat), some (1002 : Nat))]).br
  (Orc.fin (AV.ar (256 : Nat) (1 : Nat) fun (i0 : Nat) => AV.sc (Value.bool (b2f i0))) [] [])) _ _ (by kernel_rfl) (by kernel_rfl) (show True ∧
  True ∧
    (decide (b < (256 : Int)) = true →
    True ∧
    (64 : Int) ≠ (0 : Int) ∧
    ((0 : Int) ≤ IntKind.i64.wrap (b.tdiv (64 : Int)) ∧ IntKind.i64.wrap (b.tdiv (64 : Int)) < (↑(4 : Nat) : Int)) ∧
    ((IntKind.i64.wrap (b.tdiv (64 : Int))).toNat * (1 : Nat) + (0 : Nat) =
    plus (0 : Nat) ((IntKind.i64.wrap (b.tdiv (64 : Int))).toNat * (1 : Nat)) ∧
    (IntKind.i64.wrap (b.tdiv (64 : Int))).toNat < (4 : Nat) ∧ True) ∧
    True ∧
    True ∧
    ((True ∧
    Sub (AV.pt (1000 : Nat) [] (0 : Nat)) (AV.pt (1000 : Nat) [] (0 : Nat)) ∧
    True ∧
    Sub (AV.pt (1001 : Nat) [] (0 : Nat)) (AV.pt (1001 : Nat) [] (0 : Nat)) ∧
    True ∧
    Sub (AV.pt (1002 : Nat) [] (0 : Nat)) (AV.pt (1002 : Nat) [] (0 : Nat)) ∧
    True ∧
    Sub (AV.sc (Value.int IntKind.i64 b)) (AV.sc (Value.int IntKind.i64 b)) ∧
    True ∧
    Sub (AV.sc (Value.int IntKind.u64 (b0f (IntKind.i64.wrap (b.tdiv (64 : Int))).toNat)))
    (AV.sc (Value.int IntKind.u64 (b0f (IntKind.i64.wrap (b.tdiv (64 : Int))).toNat))) ∧
    True ∧ Sub (AV.sc (Value.int IntKind.i64 (0 : Int))) (AV.sc (Value.int IntKind.i64 (0 : Int))) ∧ True) ∧
    True ∧
    SubB (AV.ar (4 : Nat) (1 : Nat) fun (i0 : Nat) => AV.sc (Value.int IntKind.u64 (b0f i0)))
    (AV.ar (4 : Nat) (1 : Nat) fun (i0 : Nat) => AV.sc (Value.int IntKind.u64 (b0f i0))) ∧
    True ∧
    SubB (AV.ar (256 : Nat) (1 : Nat) fun (i0 : Nat) => AV.sc (Value.bool (b1f i0)))
    (AV.ar (256 : Nat) (1 : Nat) fun (i0 : Nat) => AV.sc (Value.bool (b1f i0))) ∧
    True ∧
    SubB (AV.ar (256 : Nat) (1 : Nat) fun (i0 : Nat) => AV.sc (Value.bool (b2f i0)))
    (AV.ar (256 : Nat) (1 : Nat) fun (i0 : Nat) => AV.sc (Value.bool (b2f i0))) ∧
    True) ∧
    L18_1 b (b0f (IntKind.i64.wrap (b.tdiv (64 : Int))).toNat) (0 : Int) b0f b1f b2f res) ∧
    (decide (b < (256 : Int)) = false →
    ((0 : Nat) = (0 : Nat) ∧ True) ∧
    ((0 : Nat) = (0 : Nat) ∧ True) ∧
    ((0 : Nat) = (0 : Nat) ∧ True) ∧
    ((True ∧
    Sub (AV.ar (256 : Nat) (1 : Nat) fun (i0 : Nat) => AV.sc (Value.bool (b2f i0)))
    (AV.ar (256 : Nat) (1 : Nat) fun (i0 : Nat) => AV.sc (Value.bool (b2f i0))) ∧
    True) ∧
    True) ∧
    Sub (AV.ar (256 : Nat) (1 : Nat) fun (i0 : Nat) => AV.sc (Value.bool (b2f i0))) res ∧ SubOut [] []) from
    ⟨trivial, ⟨trivial, (And.elim (fun h2 k2 => ⟨(fun x3 => (fun h3 => ⟨trivial, ⟨(by decide), (And.elim (fun h6 k6 => ⟨(And.elim (fun h7 k7 => ⟨h7, k7⟩) h6), (And.elim (fun h7 k7 => ⟨⟨rfl, ((fun h9 => ⟨h9, trivial⟩) h7)⟩, ⟨trivial, ⟨trivial, ⟨⟨⟨trivial, ⟨Sub.refl _, ⟨trivial, ⟨Sub.refl _, ⟨trivial, ⟨Sub.refl _, ⟨trivial, ⟨Sub.refl _, ⟨trivial, ⟨Sub.refl _, ⟨trivial, ⟨Sub.refl _, trivial⟩⟩⟩⟩⟩⟩⟩⟩⟩⟩⟩⟩, ⟨trivial, ⟨SubB.refl _, ⟨trivial, ⟨SubB.refl _, ⟨trivial, ⟨SubB.refl _, trivial⟩⟩⟩⟩⟩⟩⟩, k7⟩⟩⟩⟩) k6)⟩) h3)⟩⟩) (h2 x3)), (fun x3 => (fun h3 => ⟨⟨rfl, trivial⟩, ⟨⟨rfl, trivial⟩, ⟨⟨rfl, trivial⟩, ⟨⟨⟨trivial, ⟨Sub.refl _, trivial⟩⟩, trivial⟩, ((fun h8 => ⟨h8, trivial⟩) h3)⟩⟩⟩⟩) (k2 x3))⟩) h)⟩⟩)
theorem r18_1 (b : Int) (w : Int) (i : Int) (b0f : Nat → Int) (b1f : Nat → Bool) (b2f : Nat → Bool) (res : AV)
    (h : (decide (i < b.tmod (64 : Int)) = true → L18_1 b (IntKind.u64.wrap (w.tdiv (2 : Int))) (IntKind.i64.wrap (i + (1 : Int))) b0f b1f b2f res) ∧
  (decide (i < b.tmod (64 : Int)) = false →
    ((0 : Int) ≤ b ∧ b < (↑(256 : Nat) : Int)) ∧
    b.toNat < (256 : Nat) ∧
    L18_0 (IntKind.i64.wrap (b + (1 : Int))) b0f b1f (fun (i : Nat) => bif i.beq b.toNat then w.tmod (2 : Int) == (1 : Int) else b2f i) res)) :
    L18_1 b w i b0f b1f b2f res :=
  rule Go.Am.Seat.tabOk 18 [] Go.Proofs.Try.f18 hf18 [1, 1, 0, 1, 0, 0, 1, 0, 0, 1, 0, 1, 0, 0] (s18_1 b w i b0f b1f b2f) (m18_1 b w i b0f b1f b2f) res [] 400
    ((Orc.cut (nat_lit 7) (s18_1 b (IntKind.u64.wrap (w.tdiv (2 : Int))) (IntKind.i64.wrap (i + (1 : Int))) b0f b1f b2f)
    (m18_1 b (IntKind.u64.wrap (w.tdiv (2 : Int))) (IntKind.i64.wrap (i + (1 : Int))) b0f b1f b2f)
    [((1000 : Nat), some (1000 : Nat)), ((1001 : Nat), some (1001 : Nat)), ((1002 : Nat), some (1002 : Nat))]).br
  (Orc.cut (nat_lit 5) (s18_0 (IntKind.i64.wrap (b + (1 : Int))) b0f b1f fun (i : Nat) => bif i.beq b.toNat then w.tmod (2 : Int) == (1 : Int) else b2f i)
    (m18_0 (IntKind.i64.wrap (b + (1 : Int))) b0f b1f fun (i : Nat) => bif i.beq b.toNat then w.tmod (2 : Int) == (1 : Int) else b2f i)
    [((1000 : Nat), some (1000 : Nat)), ((1001 : Nat), some (1001 : Nat)), ((1002 : Nat), some (1002 : Nat))])) _ _ (by kernel_rfl) (by kernel_rfl) (show True ∧
  True ∧
    (64 : Int) ≠ (0 : Int) ∧
    True ∧
    (decide (i < b.tmod (64 : Int)) = true →
    True ∧
    (2 : Int) ≠ (0 : Int) ∧
    True ∧
    True ∧
    True ∧
    True ∧
    ((True ∧
    Sub (AV.pt (1000 : Nat) [] (0 : Nat)) (AV.pt (1000 : Nat) [] (0 : Nat)) ∧
    True ∧
    Sub (AV.pt (1001 : Nat) [] (0 : Nat)) (AV.pt (1001 : Nat) [] (0 : Nat)) ∧
    True ∧
    Sub (AV.pt (1002 : Nat) [] (0 : Nat)) (AV.pt (1002 : Nat) [] (0 : Nat)) ∧
    True ∧
    Sub (AV.sc (Value.int IntKind.i64 b)) (AV.sc (Value.int IntKind.i64 b)) ∧
    True ∧
    Sub (AV.sc (Value.int IntKind.u64 (IntKind.u64.wrap (w.tdiv (2 : Int)))))
    (AV.sc (Value.int IntKind.u64 (IntKind.u64.wrap (w.tdiv (2 : Int))))) ∧
    True ∧
    Sub (AV.sc (Value.int IntKind.i64 (IntKind.i64.wrap (i + (1 : Int)))))
    (AV.sc (Value.int IntKind.i64 (IntKind.i64.wrap (i + (1 : Int))))) ∧
    True) ∧
    True ∧
    SubB (AV.ar (4 : Nat) (1 : Nat) fun (i0 : Nat) => AV.sc (Value.int IntKind.u64 (b0f i0)))
    (AV.ar (4 : Nat) (1 : Nat) fun (i0 : Nat) => AV.sc (Value.int IntKind.u64 (b0f i0))) ∧
    True ∧
    SubB (AV.ar (256 : Nat) (1 : Nat) fun (i0 : Nat) => AV.sc (Value.bool (b1f i0)))
    (AV.ar (256 : Nat) (1 : Nat) fun (i0 : Nat) => AV.sc (Value.bool (b1f i0))) ∧
    True ∧
    SubB (AV.ar (256 : Nat) (1 : Nat) fun (i0 : Nat) => AV.sc (Value.bool (b2f i0)))
    (AV.ar (256 : Nat) (1 : Nat) fun (i0 : Nat) => AV.sc (Value.bool (b2f i0))) ∧
    True) ∧
    L18_1 b (IntKind.u64.wrap (w.tdiv (2 : Int))) (IntKind.i64.wrap (i + (1 : Int))) b0f b1f b2f res) ∧
    (decide (i < b.tmod (64 : Int)) = false →
    True ∧
    True ∧
    (2 : Int) ≠ (0 : Int) ∧
    True ∧
    ((0 : Int) ≤ b ∧ b < (↑(256 : Nat) : Int)) ∧
    (b.toNat * (1 : Nat) + (0 : Nat) = plus (0 : Nat) (b.toNat * (1 : Nat)) ∧ (b.toNat < (256 : Nat) ∧ True) ∧ True) ∧
    True ∧
    True ∧
    True ∧
    ((True ∧
    Sub (AV.pt (1000 : Nat) [] (0 : Nat)) (AV.pt (1000 : Nat) [] (0 : Nat)) ∧
    True ∧
    Sub (AV.pt (1001 : Nat) [] (0 : Nat)) (AV.pt (1001 : Nat) [] (0 : Nat)) ∧
    True ∧
    Sub (AV.pt (1002 : Nat) [] (0 : Nat)) (AV.pt (1002 : Nat) [] (0 : Nat)) ∧
    True ∧
    Sub (AV.sc (Value.int IntKind.i64 (IntKind.i64.wrap (b + (1 : Int)))))
    (AV.sc (Value.int IntKind.i64 (IntKind.i64.wrap (b + (1 : Int))))) ∧
    True) ∧
    True ∧
    SubB (AV.ar (4 : Nat) (1 : Nat) fun (i0 : Nat) => AV.sc (Value.int IntKind.u64 (b0f i0)))
    (AV.ar (4 : Nat) (1 : Nat) fun (i0 : Nat) => AV.sc (Value.int IntKind.u64 (b0f i0))) ∧
    True ∧
    SubB (AV.ar (256 : Nat) (1 : Nat) fun (i0 : Nat) => AV.sc (Value.bool (b1f i0)))
    (AV.ar (256 : Nat) (1 : Nat) fun (i0 : Nat) => AV.sc (Value.bool (b1f i0))) ∧
    True ∧
    SubB
    (AV.ar (256 : Nat) (1 : Nat) fun (i : Nat) =>
    AV.sc (Value.bool (bif i.beq b.toNat then w.tmod (2 : Int) == (1 : Int) else b2f i)))
    (AV.ar (256 : Nat) (1 : Nat) fun (i0 : Nat) =>
    AV.sc (Value.bool (bif i0.beq b.toNat then w.tmod (2 : Int) == (1 : Int) else b2f i0))) ∧
    True) ∧
    L18_0 (IntKind.i64.wrap (b + (1 : Int))) b0f b1f
    (fun (i : Nat) => bif i.beq b.toNat then w.tmod (2 : Int) == (1 : Int) else b2f i) res) from
    ⟨trivial, ⟨trivial, ⟨(by decide), ⟨trivial, (And.elim (fun h4 k4 => ⟨(fun x5 => (fun h5 => ⟨trivial, ⟨(by decide), ⟨trivial, ⟨trivial, ⟨trivial, ⟨trivial, ⟨⟨⟨trivial, ⟨Sub.refl _, ⟨trivial, ⟨Sub.refl _, ⟨trivial, ⟨Sub.refl _, ⟨trivial, ⟨Sub.refl _, ⟨trivial, ⟨Sub.refl _, ⟨trivial, ⟨Sub.refl _, trivial⟩⟩⟩⟩⟩⟩⟩⟩⟩⟩⟩⟩, ⟨trivial, ⟨SubB.refl _, ⟨trivial, ⟨SubB.refl _, ⟨trivial, ⟨SubB.refl _, trivial⟩⟩⟩⟩⟩⟩⟩, h5⟩⟩⟩⟩⟩⟩⟩) (h4 x5)), (fun x5 => (fun h5 => ⟨trivial, ⟨trivial, ⟨(by decide), ⟨trivial, (And.elim (fun h10 k10 => ⟨(And.elim (fun h11 k11 => ⟨h11, k11⟩) h10), (And.elim (fun h11 k11 => ⟨⟨rfl, ((fun h13 => ⟨((fun h14 => ⟨h14, trivial⟩) h13), trivial⟩) h11)⟩, ⟨trivial, ⟨trivial, ⟨trivial, ⟨⟨⟨trivial, ⟨Sub.refl _, ⟨trivial, ⟨Sub.refl _, ⟨trivial, ⟨Sub.refl _, ⟨trivial, ⟨Sub.refl _, trivial⟩⟩⟩⟩⟩⟩⟩⟩, ⟨trivial, ⟨SubB.refl _, ⟨trivial, ⟨SubB.refl _, ⟨trivial, ⟨SubB.refl _, trivial⟩⟩⟩⟩⟩⟩⟩, k11⟩⟩⟩⟩⟩) k10)⟩) h5)⟩⟩⟩⟩) (k4 x5))⟩) h)⟩⟩⟩⟩)
theorem hf19 : Go.Proofs.Try.prog.funcs[19]? = some Go.Proofs.Try.f19 := by kernel_rfl
abbrev s19_e (ff : Nat → Bool) : List (Nat × AV) := [(0, (.ar 256 1 (fun i0 => (.sc (.bool (ff i0))))))]
abbrev m19_e (ff : Nat → Bool) : List (Nat × Nat × AV) := []
def L19_e (ff : Nat → Bool) (res : AV) : Prop := Goes ⟨Go.Proofs.Try.prog, 19, [], res, []⟩ (place Go.Proofs.Try.f19 []) (s19_e ff) (m19_e ff)
theorem a19_e (ff : Nat → Bool) (res : AV) (h : (∀ slot, fact (look .undef (s19_e ff) slot)) → L19_e ff res) : L19_e ff res :=
  assumeRule 19 [] Go.Proofs.Try.f19 hf19 [] (s19_e ff) (m19_e ff) res [] _ (by kernel_rfl) h
abbrev s19_0 (n : Int) (b : Int) (b0f : Nat → Bool) : List (Nat × AV) := [(1, (.pt 1000 [] 0)), (3, (.sc (.int .i64 n))), (4, (.sc (.int .i64 b)))]
abbrev m19_0 (n : Int) (b : Int) (b0f : Nat → Bool) : List (Nat × Nat × AV) := [(1000, 38, (.ar 256 1 (fun i0 => (.sc (.bool (b0f i0))))))]
def L19_0 (n : Int) (b : Int) (b0f : Nat → Bool) (res : AV) : Prop := Goes ⟨Go.Proofs.Try.prog, 19, [], res, []⟩ (place Go.Proofs.Try.f19 [1, 1, 0, 1, 0, 0]) (s19_0 n b b0f) (m19_0 n b b0f)
theorem a19_0 (n : Int) (b : Int) (b0f : Nat → Bool) (res : AV) (h : (∀ slot, fact (look .undef (s19_0 n b b0f) slot)) → L19_0 n b b0f res) : L19_0 n b b0f res :=
  assumeRule 19 [] Go.Proofs.Try.f19 hf19 [1, 1, 0, 1, 0, 0] (s19_0 n b b0f) (m19_0 n b b0f) res [] _ (by kernel_rfl) h
abbrev s19_1 (n : Int) (b : Int) (b0f : Nat → Bool) : List (Nat × AV) := [(1, (.pt 1000 [] 0)), (3, (.sc (.int .i64 n))), (4, (.sc (.int .i64 b)))]
abbrev m19_1 (n : Int) (b : Int) (b0f : Nat → Bool) : List (Nat × Nat × AV) := [(1000, 38, (.ar 256 1 (fun i0 => (.sc (.bool (b0f i0))))))]
def L19_1 (n : Int) (b : Int) (b0f : Nat → Bool) (res : AV) : Prop := Goes ⟨Go.Proofs.Try.prog, 19, [], res, []⟩ (place Go.Proofs.Try.f19 [1, 1, 0, 1, 0, 0, 1, 1]) (s19_1 n b b0f) (m19_1 n b b0f)
theorem a19_1 (n : Int) (b : Int) (b0f : Nat → Bool) (res : AV) (h : (∀ slot, fact (look .undef (s19_1 n b b0f) slot)) → L19_1 n b b0f res) : L19_1 n b b0f res :=
  assumeRule 19 [] Go.Proofs.Try.f19 hf19 [1, 1, 0, 1, 0, 0, 1, 1] (s19_1 n b b0f) (m19_1 n b b0f) res [] _ (by kernel_rfl) h
theorem o19 (ff : Nat → Bool) (res : AV) (hnew : newOnly res) (h : L19_e ff res) : Ok Go.Proofs.Try.prog 19 [(.ar 256 1 (fun i0 => (.sc (.bool (ff i0)))))] [] res [] :=
  okRule2 19 Go.Proofs.Try.f19 hf19 [(.ar 256 1 (fun i0 => (.sc (.bool (ff i0)))))] [] res [] [] rfl (by kernel_rfl) (by kernel_rfl) (by kernel_rfl) ⟨hnew, by simp⟩ (L19_e ff res) (by kernel_rfl) h
theorem r19_e (ff : Nat → Bool) (res : AV)
    (h : L19_0 (0 : Int) (0 : Int) ff res) :
    L19_e ff res :=
  rule Go.Am.Seat.tabOk 19 [] Go.Proofs.Try.f19 hf19 [] (s19_e ff) (m19_e ff) res [] 400
    (Orc.cut (nat_lit 9) (s19_0 (0 : Int) (0 : Int) ff) (m19_0 (0 : Int) (0 : Int) ff) [((1000 : Nat), some (1 : Nat))]) _ _ (by kernel_rfl) (by kernel_rfl) (show True ∧
  True ∧
    True ∧
    True ∧
    ((True ∧
    Sub (AV.pt (1000 : Nat) [] (0 : Nat)) (AV.pt (1000 : Nat) [] (0 : Nat)) ∧
    True ∧
    Sub (AV.sc (Value.int IntKind.i64 (0 : Int))) (AV.sc (Value.int IntKind.i64 (0 : Int))) ∧
    True ∧ Sub (AV.sc (Value.int IntKind.i64 (0 : Int))) (AV.sc (Value.int IntKind.i64 (0 : Int))) ∧ True) ∧
    True ∧
    SubB (AV.ar (256 : Nat) (1 : Nat) fun (i0 : Nat) => AV.sc (Value.bool (ff i0)))
    (AV.ar (256 : Nat) (1 : Nat) fun (i0 : Nat) => AV.sc (Value.bool (ff i0))) ∧
    True) ∧
    L19_0 (0 : Int) (0 : Int) ff res from
    ⟨trivial, ⟨trivial, ⟨trivial, ⟨trivial, ⟨⟨⟨trivial, ⟨Sub.refl _, ⟨trivial, ⟨Sub.refl _, ⟨trivial, ⟨Sub.refl _, trivial⟩⟩⟩⟩⟩⟩, ⟨trivial, ⟨SubB.refl _, trivial⟩⟩⟩, h⟩⟩⟩⟩⟩)
theorem r19_0 (n : Int) (b : Int) (b0f : Nat → Bool) (res : AV)
    (h : (decide (b < (256 : Int)) = true →
    ((0 : Int) ≤ b ∧ b < (↑(256 : Nat) : Int)) ∧
    b.toNat < (256 : Nat) ∧ (b0f b.toNat = true → L19_1 (IntKind.i64.wrap (n + (1 : Int))) b b0f res) ∧ (b0f b.toNat = false → L19_1 n b b0f res)) ∧
  (decide (b < (256 : Int)) = false → Sub (AV.sc (Value.int IntKind.i64 n)) res)) :
    L19_0 n b b0f res :=
  rule Go.Am.Seat.tabOk 19 [] Go.Proofs.Try.f19 hf19 [1, 1, 0, 1, 0, 0] (s19_0 n b b0f) (m19_0 n b b0f) res [] 400
    (((Orc.cut (nat_lit 2) (s19_1 (IntKind.i64.wrap (n + (1 : Int))) b b0f) (m19_1 (IntKind.i64.wrap (n + (1 : Int))) b b0f) [((1000 : Nat), some (1000 : Nat))]).br
    (Orc.cut (nat_lit 2) (s19_1 n b b0f) (m19_1 n b b0f) [((1000 : Nat), some (1000 : Nat))])).br
  (Orc.fin (AV.sc (Value.int IntKind.i64 n)) [] [])) _ _ (by kernel_rfl) (by kernel_rfl) (show True ∧
  True ∧
    (decide (b < (256 : Int)) = true →
    True ∧
    ((0 : Int) ≤ b ∧ b < (↑(256 : Nat) : Int)) ∧
    (b.toNat * (1 : Nat) + (0 : Nat) = plus (0 : Nat) (b.toNat * (1 : Nat)) ∧ b.toNat < (256 : Nat) ∧ True) ∧
    (b0f b.toNat = true →
    True ∧
    True ∧
    True ∧
    ((True ∧
    Sub (AV.pt (1000 : Nat) [] (0 : Nat)) (AV.pt (1000 : Nat) [] (0 : Nat)) ∧
    True ∧
    Sub (AV.sc (Value.int IntKind.i64 (IntKind.i64.wrap (n + (1 : Int)))))
    (AV.sc (Value.int IntKind.i64 (IntKind.i64.wrap (n + (1 : Int))))) ∧
    True ∧ Sub (AV.sc (Value.int IntKind.i64 b)) (AV.sc (Value.int IntKind.i64 b)) ∧ True) ∧
    True ∧
    SubB (AV.ar (256 : Nat) (1 : Nat) fun (i0 : Nat) => AV.sc (Value.bool (b0f i0)))
    (AV.ar (256 : Nat) (1 : Nat) fun (i0 : Nat) => AV.sc (Value.bool (b0f i0))) ∧
    True) ∧
    L19_1 (IntKind.i64.wrap (n + (1 : Int))) b b0f res) ∧
    (b0f b.toNat = false →
    ((True ∧
    Sub (AV.pt (1000 : Nat) [] (0 : Nat)) (AV.pt (1000 : Nat) [] (0 : Nat)) ∧
    True ∧
    Sub (AV.sc (Value.int IntKind.i64 n)) (AV.sc (Value.int IntKind.i64 n)) ∧
    True ∧ Sub (AV.sc (Value.int IntKind.i64 b)) (AV.sc (Value.int IntKind.i64 b)) ∧ True) ∧
    True ∧
    SubB (AV.ar (256 : Nat) (1 : Nat) fun (i0 : Nat) => AV.sc (Value.bool (b0f i0)))
    (AV.ar (256 : Nat) (1 : Nat) fun (i0 : Nat) => AV.sc (Value.bool (b0f i0))) ∧
    True) ∧
    L19_1 n b b0f res)) ∧
    (decide (b < (256 : Int)) = false →
    True ∧
    True ∧
    True ∧
    ((True ∧ Sub (AV.sc (Value.int IntKind.i64 n)) (AV.sc (Value.int IntKind.i64 n)) ∧ True) ∧ True) ∧
    Sub (AV.sc (Value.int IntKind.i64 n)) res ∧ SubOut [] []) from
    ⟨trivial, ⟨trivial, (And.elim (fun h2 k2 => ⟨(fun x3 => (fun h3 => ⟨trivial, (And.elim (fun h5 k5 => ⟨(And.elim (fun h6 k6 => ⟨h6, k6⟩) h5), (And.elim (fun h6 k6 => ⟨⟨rfl, ((fun h8 => ⟨h8, trivial⟩) h6)⟩, (And.elim (fun h7 k7 => ⟨(fun x8 => (fun h8 => ⟨trivial, ⟨trivial, ⟨trivial, ⟨⟨⟨trivial, ⟨Sub.refl _, ⟨trivial, ⟨Sub.refl _, ⟨trivial, ⟨Sub.refl _, trivial⟩⟩⟩⟩⟩⟩, ⟨trivial, ⟨SubB.refl _, trivial⟩⟩⟩, h8⟩⟩⟩⟩) (h7 x8)), (fun x8 => (fun h8 => ⟨⟨⟨trivial, ⟨Sub.refl _, ⟨trivial, ⟨Sub.refl _, ⟨trivial, ⟨Sub.refl _, trivial⟩⟩⟩⟩⟩⟩, ⟨trivial, ⟨SubB.refl _, trivial⟩⟩⟩, h8⟩) (k7 x8))⟩) k6)⟩) k5)⟩) h3)⟩) (h2 x3)), (fun x3 => (fun h3 => ⟨trivial, ⟨trivial, ⟨trivial, ⟨⟨⟨trivial, ⟨Sub.refl _, trivial⟩⟩, trivial⟩, ((fun h8 => ⟨h8, trivial⟩) h3)⟩⟩⟩⟩) (k2 x3))⟩) h)⟩⟩)
theorem r19_1 (n : Int) (b : Int) (b0f : Nat → Bool) (res : AV)
    (h : L19_0 n (IntKind.i64.wrap (b + (1 : Int))) b0f res) :
    L19_1 n b b0f res :=
  rule Go.Am.Seat.tabOk 19 [] Go.Proofs.Try.f19 hf19 [1, 1, 0, 1, 0, 0, 1, 1] (s19_1 n b b0f) (m19_1 n b b0f) res [] 400
    (Orc.cut (nat_lit 2) (s19_0 n (IntKind.i64.wrap (b + (1 : Int))) b0f) (m19_0 n (IntKind.i64.wrap (b + (1 : Int))) b0f) [((1000 : Nat), some (1000 : Nat))]) _ _ (by kernel_rfl) (by kernel_rfl) (show True ∧
  True ∧
    True ∧
    ((True ∧
    Sub (AV.pt (1000 : Nat) [] (0 : Nat)) (AV.pt (1000 : Nat) [] (0 : Nat)) ∧
    True ∧
    Sub (AV.sc (Value.int IntKind.i64 n)) (AV.sc (Value.int IntKind.i64 n)) ∧
    True ∧
    Sub (AV.sc (Value.int IntKind.i64 (IntKind.i64.wrap (b + (1 : Int))))) (AV.sc (Value.int IntKind.i64 (IntKind.i64.wrap (b + (1 : Int))))) ∧
    True) ∧
    True ∧
    SubB (AV.ar (256 : Nat) (1 : Nat) fun (i0 : Nat) => AV.sc (Value.bool (b0f i0)))
    (AV.ar (256 : Nat) (1 : Nat) fun (i0 : Nat) => AV.sc (Value.bool (b0f i0))) ∧
    True) ∧
    L19_0 n (IntKind.i64.wrap (b + (1 : Int))) b0f res from
    ⟨trivial, ⟨trivial, ⟨trivial, ⟨⟨⟨trivial, ⟨Sub.refl _, ⟨trivial, ⟨Sub.refl _, ⟨trivial, ⟨Sub.refl _, trivial⟩⟩⟩⟩⟩⟩, ⟨trivial, ⟨SubB.refl _, trivial⟩⟩⟩, h⟩⟩⟩⟩)
theorem hf20 : Go.Proofs.Try.prog.funcs[20]? = some Go.Proofs.Try.f20 := by kernel_rfl
abbrev s20_e (ff : Nat → Bool) : List (Nat × AV) := [(0, (.ar 256 1 (fun i0 => (.sc (.bool (ff i0))))))]
abbrev m20_e (ff : Nat → Bool) : List (Nat × Nat × AV) := []
def L20_e (ff : Nat → Bool) (res : AV) : Prop := Goes ⟨Go.Proofs.Try.prog, 20, [], res, []⟩ (place Go.Proofs.Try.f20 []) (s20_e ff) (m20_e ff)
theorem a20_e (ff : Nat → Bool) (res : AV) (h : (∀ slot, fact (look .undef (s20_e ff) slot)) → L20_e ff res) : L20_e ff res :=
  assumeRule 20 [] Go.Proofs.Try.f20 hf20 [] (s20_e ff) (m20_e ff) res [] _ (by kernel_rfl) h
abbrev s20_0 (out_n : Nat) (b : Int) (b0f : Nat → Bool) (b1n : Nat) (b1f : Nat → Int) : List (Nat × AV) := [(1, (.pt 1000 [] 0)), (3, (.rf 1001 1 0 out_n)), (4, (.sc (.int .i64 b)))]
abbrev m20_0 (out_n : Nat) (b : Int) (b0f : Nat → Bool) (b1n : Nat) (b1f : Nat → Int) : List (Nat × Nat × AV) := [(1000, 38, (.ar 256 1 (fun i0 => (.sc (.bool (b0f i0)))))), (1001, 5, (.ar b1n 1 (fun i0 => (.sc (.int .u8 (b1f i0))))))]
def L20_0 (out_n : Nat) (b : Int) (b0f : Nat → Bool) (b1n : Nat) (b1f : Nat → Int) (res : AV) : Prop := Goes ⟨Go.Proofs.Try.prog, 20, [], res, []⟩ (place Go.Proofs.Try.f20 [1, 1, 0, 1, 0, 0]) (s20_0 out_n b b0f b1n b1f) (m20_0 out_n b b0f b1n b1f)
theorem a20_0 (out_n : Nat) (b : Int) (b0f : Nat → Bool) (b1n : Nat) (b1f : Nat → Int) (res : AV) (h : (∀ slot, fact (look .undef (s20_0 out_n b b0f b1n b1f) slot)) → L20_0 out_n b b0f b1n b1f res) : L20_0 out_n b b0f b1n b1f res :=
  assumeRule 20 [] Go.Proofs.Try.f20 hf20 [1, 1, 0, 1, 0, 0] (s20_0 out_n b b0f b1n b1f) (m20_0 out_n b b0f b1n b1f) res [] _ (by kernel_rfl) h
abbrev s20_1 (out_n : Nat) (b : Int) (b0f : Nat → Bool) (b1n : Nat) (b1f : Nat → Int) : List (Nat × AV) := [(1, (.pt 1000 [] 0)), (3, (.rf 1001 1 0 out_n)), (4, (.sc (.int .i64 b)))]
abbrev m20_1 (out_n : Nat) (b : Int) (b0f : Nat → Bool) (b1n : Nat) (b1f : Nat → Int) : List (Nat × Nat × AV) := [(1000, 38, (.ar 256 1 (fun i0 => (.sc (.bool (b0f i0)))))), (1001, 5, (.ar b1n 1 (fun i0 => (.sc (.int .u8 (b1f i0))))))]
def L20_1 (out_n : Nat) (b : Int) (b0f : Nat → Bool) (b1n : Nat) (b1f : Nat → Int) (res : AV) : Prop := Goes ⟨Go.Proofs.Try.prog, 20, [], res, []⟩ (place Go.Proofs.Try.f20 [1, 1, 0, 1, 0, 0, 1, 1]) (s20_1 out_n b b0f b1n b1f) (m20_1 out_n b b0f b1n b1f)
theorem a20_1 (out_n : Nat) (b : Int) (b0f : Nat → Bool) (b1n : Nat) (b1f : Nat → Int) (res : AV) (h : (∀ slot, fact (look .undef (s20_1 out_n b b0f b1n b1f) slot)) → L20_1 out_n b b0f b1n b1f res) : L20_1 out_n b b0f b1n b1f res :=
  assumeRule 20 [] Go.Proofs.Try.f20 hf20 [1, 1, 0, 1, 0, 0, 1, 1] (s20_1 out_n b b0f b1n b1f) (m20_1 out_n b b0f b1n b1f) res [] _ (by kernel_rfl) h
theorem o20 (ff : Nat → Bool) (res : AV) (hnew : newOnly res) (h : L20_e ff res) : Ok Go.Proofs.Try.prog 20 [(.ar 256 1 (fun i0 => (.sc (.bool (ff i0)))))] [] res [] :=
  okRule2 20 Go.Proofs.Try.f20 hf20 [(.ar 256 1 (fun i0 => (.sc (.bool (ff i0)))))] [] res [] [] rfl (by kernel_rfl) (by kernel_rfl) (by kernel_rfl) ⟨hnew, by simp⟩ (L20_e ff res) (by kernel_rfl) h
theorem r20_e (ff : Nat → Bool) (res : AV)
    (h : L20_0 (0 : Nat) (0 : Int) ff (0 : Nat) (fun (i : Nat) => Int.ofNat (0 : Nat)) res) :
    L20_e ff res :=
  rule Go.Am.Seat.tabOk 20 [] Go.Proofs.Try.f20 hf20 [] (s20_e ff) (m20_e ff) res [] 400
    (Orc.cut (nat_lit 9) (s20_0 (0 : Nat) (0 : Int) ff (0 : Nat) fun (i : Nat) => Int.ofNat (0 : Nat))
  (m20_0 (0 : Nat) (0 : Int) ff (0 : Nat) fun (i : Nat) => Int.ofNat (0 : Nat)) [((1000 : Nat), some (1 : Nat)), ((1001 : Nat), none)]) _ _ (by kernel_rfl) (by kernel_rfl) (show True ∧
  True ∧
    True ∧
    True ∧
    ((True ∧
    Sub (AV.pt (1000 : Nat) [] (0 : Nat)) (AV.pt (1000 : Nat) [] (0 : Nat)) ∧
    True ∧ Sub (AV.sc (Value.int IntKind.i64 (0 : Int))) (AV.sc (Value.int IntKind.i64 (0 : Int))) ∧ True) ∧
    True ∧
    SubB (AV.ar (256 : Nat) (1 : Nat) fun (i0 : Nat) => AV.sc (Value.bool (ff i0)))
    (AV.ar (256 : Nat) (1 : Nat) fun (i0 : Nat) => AV.sc (Value.bool (ff i0))) ∧
    True) ∧
    L20_0 (0 : Nat) (0 : Int) ff (0 : Nat) (fun (i : Nat) => Int.ofNat (0 : Nat)) res from
    ⟨trivial, ⟨trivial, ⟨trivial, ⟨trivial, ⟨⟨⟨trivial, ⟨Sub.refl _, ⟨trivial, ⟨Sub.refl _, trivial⟩⟩⟩⟩, ⟨trivial, ⟨SubB.refl _, trivial⟩⟩⟩, h⟩⟩⟩⟩⟩)
theorem r20_0 (out_n : Nat) (b : Int) (b0f : Nat → Bool) (b1n : Nat) (b1f : Nat → Int) (res : AV)
    (h : (decide (b < (256 : Int)) = true →
    ((0 : Int) ≤ b ∧ b < (↑(256 : Nat) : Int)) ∧
    b.toNat < (256 : Nat) ∧
    (b0f b.toNat = true →
    (out_n ≤ b1n ∧ (0 : Nat) + (1 : Nat) ≤ (1 : Nat) ∧ (out_n + (1 : Nat)) * (1 : Nat) ≤ (140737488355328 : Nat) ∧ out_n + (1 : Nat) ≤ maxLen) ∧
    L20_1 (out_n + (1 : Nat)) b b0f (out_n + (1 : Nat))
    (fun (i : Nat) => bif i.blt out_n then b1f i else bif ((0 : Nat) + (i - out_n)).beq (0 : Nat) then IntKind.u8.wrap b else (0 : Int)) res) ∧
    (b0f b.toNat = false → L20_1 out_n b b0f b1n b1f res)) ∧
  (decide (b < (256 : Int)) = false →
    ((0 : Nat) + out_n ≤ b1n ∧
    (strOf out_n fun (i : Nat) => b1f ((0 : Nat) + i)).size = out_n ∧
    ∀ (i : Nat),
    i < out_n →
    AV.sc (Value.int IntKind.u8 (b1f ((0 : Nat) + i))) =
    AV.sc (Value.int IntKind.u8 (↑(byteAt (strOf out_n fun (i : Nat) => b1f ((0 : Nat) + i)) i).toNat : Int))) ∧
    Sub (AV.sc (Value.string (strOf out_n fun (i : Nat) => b1f ((0 : Nat) + i)))) res)) :
    L20_0 out_n b b0f b1n b1f res :=
  rule Go.Am.Seat.tabOk 20 [] Go.Proofs.Try.f20 hf20 [1, 1, 0, 1, 0, 0] (s20_0 out_n b b0f b1n b1f) (m20_0 out_n b b0f b1n b1f) res [] 400
    (((Orc.cut (nat_lit 2)
    (s20_1 (out_n + (1 : Nat)) b b0f (out_n + (1 : Nat)) fun (i : Nat) =>
    bif i.blt out_n then b1f i else bif ((0 : Nat) + (i - out_n)).beq ((0 : Nat), Operand.tmp (14 : Nat)).fst then IntKind.u8.wrap b else (0 : Int))
    (m20_1 (out_n + (1 : Nat)) b b0f (out_n + (1 : Nat)) fun (i : Nat) =>
    bif i.blt out_n then b1f i else bif ((0 : Nat) + (i - out_n)).beq ((0 : Nat), Operand.tmp (14 : Nat)).fst then IntKind.u8.wrap b else (0 : Int))
    [((1000 : Nat), some (1000 : Nat)), ((1001 : Nat), some (16 : Nat))]).br
    (Orc.cut (nat_lit 2) (s20_1 out_n b b0f b1n b1f) (m20_1 out_n b b0f b1n b1f) [((1000 : Nat), some (1000 : Nat)), ((1001 : Nat), some (1001 : Nat))])).br
  (Orc.ch Ch.none
    (Orc.ch (Ch.s (strOf out_n fun (i : Nat) => b1f ((0 : Nat) + i)))
    (Orc.fin (AV.sc (Value.string (strOf out_n fun (i : Nat) => b1f ((0 : Nat) + i)))) [] [])))) _ _ (by kernel_rfl) (by kernel_rfl) (show True ∧
  True ∧
    (decide (b < (256 : Int)) = true →
    True ∧
    ((0 : Int) ≤ b ∧ b < (↑(256 : Nat) : Int)) ∧
    (b.toNat * (1 : Nat) + (0 : Nat) = plus (0 : Nat) (b.toNat * (1 : Nat)) ∧ b.toNat < (256 : Nat) ∧ True) ∧
    (b0f b.toNat = true →
    True ∧
    True ∧
    True ∧
    ((True ∧ True) ∧ True) ∧
    (out_n ≤ b1n ∧
    ((0 : Nat) + (1 : Nat) ≤ (1 : Nat) ∧ (1 : Nat) = (1 : Nat)) ∧
    (out_n + (1 : Nat)) * (1 : Nat) ≤ (140737488355328 : Nat) ∧ out_n + (1 : Nat) ≤ maxLen) ∧
    True ∧
    ((True ∧
    Sub (AV.pt (1000 : Nat) [] (0 : Nat)) (AV.pt (1000 : Nat) [] (0 : Nat)) ∧
    True ∧
    Sub (AV.rf (1001 : Nat) (1 : Nat) (0 : Nat) (out_n + (1 : Nat)))
    (AV.rf (1001 : Nat) (1 : Nat) (0 : Nat) (out_n + (1 : Nat))) ∧
    True ∧ Sub (AV.sc (Value.int IntKind.i64 b)) (AV.sc (Value.int IntKind.i64 b)) ∧ True) ∧
    True ∧
    SubB (AV.ar (256 : Nat) (1 : Nat) fun (i0 : Nat) => AV.sc (Value.bool (b0f i0)))
    (AV.ar (256 : Nat) (1 : Nat) fun (i0 : Nat) => AV.sc (Value.bool (b0f i0))) ∧
    True ∧
    SubB
    (AV.ar (out_n + (1 : Nat)) (1 : Nat) fun (i : Nat) =>
    AV.sc
    (Value.int IntKind.u8
    (bif i.blt out_n then b1f i
    else bif ((0 : Nat) + (i - out_n)).beq (0 : Nat) then IntKind.u8.wrap b else (0 : Int))))
    (AV.ar (out_n + (1 : Nat)) (1 : Nat) fun (i0 : Nat) =>
    AV.sc
    (Value.int IntKind.u8
    (bif i0.blt out_n then b1f i0
    else bif ((0 : Nat) + (i0 - out_n)).beq (0 : Nat) then IntKind.u8.wrap b else (0 : Int)))) ∧
    True) ∧
    L20_1 (out_n + (1 : Nat)) b b0f (out_n + (1 : Nat))
    (fun (i : Nat) =>
    bif i.blt out_n then b1f i else bif ((0 : Nat) + (i - out_n)).beq (0 : Nat) then IntKind.u8.wrap b else (0 : Int))
    res) ∧
    (b0f b.toNat = false →
    ((True ∧
    Sub (AV.pt (1000 : Nat) [] (0 : Nat)) (AV.pt (1000 : Nat) [] (0 : Nat)) ∧
    True ∧
    Sub (AV.rf (1001 : Nat) (1 : Nat) (0 : Nat) out_n) (AV.rf (1001 : Nat) (1 : Nat) (0 : Nat) out_n) ∧
    True ∧ Sub (AV.sc (Value.int IntKind.i64 b)) (AV.sc (Value.int IntKind.i64 b)) ∧ True) ∧
    True ∧
    SubB (AV.ar (256 : Nat) (1 : Nat) fun (i0 : Nat) => AV.sc (Value.bool (b0f i0)))
    (AV.ar (256 : Nat) (1 : Nat) fun (i0 : Nat) => AV.sc (Value.bool (b0f i0))) ∧
    True ∧
    SubB (AV.ar b1n (1 : Nat) fun (i0 : Nat) => AV.sc (Value.int IntKind.u8 (b1f i0)))
    (AV.ar b1n (1 : Nat) fun (i0 : Nat) => AV.sc (Value.int IntKind.u8 (b1f i0))) ∧
    True) ∧
    L20_1 out_n b b0f b1n b1f res)) ∧
    (decide (b < (256 : Int)) = false →
    True ∧
    (((0 : Nat) + out_n ≤ b1n ∧ (1 : Nat) = (1 : Nat)) ∧
    (strOf out_n fun (i : Nat) => b1f ((0 : Nat) + i)).size = out_n ∧
    ∀ (i : Nat),
    i < out_n →
    AV.sc (Value.int IntKind.u8 (b1f ((0 : Nat) + i))) =
    AV.sc (Value.int IntKind.u8 (↑(byteAt (strOf out_n fun (i : Nat) => b1f ((0 : Nat) + i)) i).toNat : Int))) ∧
    True ∧
    True ∧
    ((True ∧
    Sub (AV.sc (Value.string (strOf out_n fun (i : Nat) => b1f ((0 : Nat) + i))))
    (AV.sc (Value.string (strOf out_n fun (i : Nat) => b1f ((0 : Nat) + i)))) ∧
    True) ∧
    True) ∧
    Sub (AV.sc (Value.string (strOf out_n fun (i : Nat) => b1f ((0 : Nat) + i)))) res ∧ SubOut [] []) from
    ⟨trivial, ⟨trivial, (And.elim (fun h2 k2 => ⟨(fun x3 => (fun h3 => ⟨trivial, (And.elim (fun h5 k5 => ⟨(And.elim (fun h6 k6 => ⟨h6, k6⟩) h5), (And.elim (fun h6 k6 => ⟨⟨rfl, ((fun h8 => ⟨h8, trivial⟩) h6)⟩, (And.elim (fun h7 k7 => ⟨(fun x8 => (fun h8 => ⟨trivial, ⟨trivial, ⟨trivial, ⟨⟨⟨trivial, trivial⟩, trivial⟩, (And.elim (fun h13 k13 => ⟨(And.elim (fun h14 k14 => ⟨h14, (And.elim (fun h15 k15 => ⟨((fun h16 => ⟨h16, rfl⟩) h15), (And.elim (fun h16 k16 => ⟨h16, k16⟩) k15)⟩) k14)⟩) h13), ⟨trivial, ⟨⟨⟨trivial, ⟨Sub.refl _, ⟨trivial, ⟨Sub.refl _, ⟨trivial, ⟨Sub.refl _, trivial⟩⟩⟩⟩⟩⟩, ⟨trivial, ⟨SubB.refl _, ⟨trivial, ⟨SubB.refl _, trivial⟩⟩⟩⟩⟩, k13⟩⟩⟩) h8)⟩⟩⟩⟩) (h7 x8)), (fun x8 => (fun h8 => ⟨⟨⟨trivial, ⟨Sub.refl _, ⟨trivial, ⟨Sub.refl _, ⟨trivial, ⟨Sub.refl _, trivial⟩⟩⟩⟩⟩⟩, ⟨trivial, ⟨SubB.refl _, ⟨trivial, ⟨SubB.refl _, trivial⟩⟩⟩⟩⟩, h8⟩) (k7 x8))⟩) k6)⟩) k5)⟩) h3)⟩) (h2 x3)), (fun x3 => (fun h3 => ⟨trivial, (And.elim (fun h5 k5 => ⟨(And.elim (fun h6 k6 => ⟨((fun h7 => ⟨h7, rfl⟩) h6), (And.elim (fun h7 k7 => ⟨h7, (fun x8 => (fun h8 => (fun x9 => (fun h9 => h9) (h8 x9))) (k7 x8))⟩) k6)⟩) h5), ⟨trivial, ⟨trivial, ⟨⟨⟨trivial, ⟨Sub.refl _, trivial⟩⟩, trivial⟩, ((fun h9 => ⟨h9, trivial⟩) k5)⟩⟩⟩⟩) h3)⟩) (k2 x3))⟩) h)⟩⟩)
theorem r20_1 (out_n : Nat) (b : Int) (b0f : Nat → Bool) (b1n : Nat) (b1f : Nat → Int) (res : AV)
    (h : L20_0 out_n (IntKind.i64.wrap (b + (1 : Int))) b0f b1n b1f res) :
    L20_1 out_n b b0f b1n b1f res :=
  rule Go.Am.Seat.tabOk 20 [] Go.Proofs.Try.f20 hf20 [1, 1, 0, 1, 0, 0, 1, 1] (s20_1 out_n b b0f b1n b1f) (m20_1 out_n b b0f b1n b1f) res [] 400
    (Orc.cut (nat_lit 2) (s20_0 out_n (IntKind.i64.wrap (b + (1 : Int))) b0f b1n b1f) (m20_0 out_n (IntKind.i64.wrap (b + (1 : Int))) b0f b1n b1f)
  [((1000 : Nat), some (1000 : Nat)), ((1001 : Nat), some (1001 : Nat))]) _ _ (by kernel_rfl) (by kernel_rfl) (show True ∧
  True ∧
    True ∧
    ((True ∧
    Sub (AV.pt (1000 : Nat) [] (0 : Nat)) (AV.pt (1000 : Nat) [] (0 : Nat)) ∧
    True ∧
    Sub (AV.rf (1001 : Nat) (1 : Nat) (0 : Nat) out_n) (AV.rf (1001 : Nat) (1 : Nat) (0 : Nat) out_n) ∧
    True ∧
    Sub (AV.sc (Value.int IntKind.i64 (IntKind.i64.wrap (b + (1 : Int))))) (AV.sc (Value.int IntKind.i64 (IntKind.i64.wrap (b + (1 : Int))))) ∧
    True) ∧
    True ∧
    SubB (AV.ar (256 : Nat) (1 : Nat) fun (i0 : Nat) => AV.sc (Value.bool (b0f i0)))
    (AV.ar (256 : Nat) (1 : Nat) fun (i0 : Nat) => AV.sc (Value.bool (b0f i0))) ∧
    True ∧
    SubB (AV.ar b1n (1 : Nat) fun (i0 : Nat) => AV.sc (Value.int IntKind.u8 (b1f i0)))
    (AV.ar b1n (1 : Nat) fun (i0 : Nat) => AV.sc (Value.int IntKind.u8 (b1f i0))) ∧
    True) ∧
    L20_0 out_n (IntKind.i64.wrap (b + (1 : Int))) b0f b1n b1f res from
    ⟨trivial, ⟨trivial, ⟨trivial, ⟨⟨⟨trivial, ⟨Sub.refl _, ⟨trivial, ⟨Sub.refl _, ⟨trivial, ⟨Sub.refl _, trivial⟩⟩⟩⟩⟩⟩, ⟨trivial, ⟨SubB.refl _, ⟨trivial, ⟨SubB.refl _, trivial⟩⟩⟩⟩⟩, h⟩⟩⟩⟩)
theorem hf21 : Go.Proofs.Try.prog.funcs[21]? = some Go.Proofs.Try.f21 := by kernel_rfl
abbrev s21_e (ff : Nat → Bool) : List (Nat × AV) := [(0, (.ar 256 1 (fun i0 => (.sc (.bool (ff i0))))))]
abbrev m21_e (ff : Nat → Bool) : List (Nat × Nat × AV) := []
def L21_e (ff : Nat → Bool) (res : AV) : Prop := Goes ⟨Go.Proofs.Try.prog, 21, [], res, []⟩ (place Go.Proofs.Try.f21 []) (s21_e ff) (m21_e ff)
theorem a21_e (ff : Nat → Bool) (res : AV) (h : (∀ slot, fact (look .undef (s21_e ff) slot)) → L21_e ff res) : L21_e ff res :=
  assumeRule 21 [] Go.Proofs.Try.f21 hf21 [] (s21_e ff) (m21_e ff) res [] _ (by kernel_rfl) h
abbrev s21_0 (i : Int) (b0f : Nat → Bool) (b1f : Nat → Int) (b2f : Nat → Int) : List (Nat × AV) := [(1, (.pt 1000 [] 0)), (2, (.pt 1001 [] 0)), (3, (.pt 1002 [] 0)), (4, (.sc (.int .i64 i)))]
abbrev m21_0 (i : Int) (b0f : Nat → Bool) (b1f : Nat → Int) (b2f : Nat → Int) : List (Nat × Nat × AV) := [(1000, 38, (.ar 256 1 (fun i0 => (.sc (.bool (b0f i0)))))), (1001, 24, (.ar 4 1 (fun i0 => (.sc (.int .u64 (b1f i0)))))), (1002, 24, (.ar 4 1 (fun i0 => (.sc (.int .u64 (b2f i0))))))]
def L21_0 (i : Int) (b0f : Nat → Bool) (b1f : Nat → Int) (b2f : Nat → Int) (res : AV) : Prop := Goes ⟨Go.Proofs.Try.prog, 21, [], res, []⟩ (place Go.Proofs.Try.f21 [1, 1, 0, 1, 0, 0]) (s21_0 i b0f b1f b2f) (m21_0 i b0f b1f b2f)
theorem a21_0 (i : Int) (b0f : Nat → Bool) (b1f : Nat → Int) (b2f : Nat → Int) (res : AV) (h : (∀ slot, fact (look .undef (s21_0 i b0f b1f b2f) slot)) → L21_0 i b0f b1f b2f res) : L21_0 i b0f b1f b2f res :=
  assumeRule 21 [] Go.Proofs.Try.f21 hf21 [1, 1, 0, 1, 0, 0] (s21_0 i b0f b1f b2f) (m21_0 i b0f b1f b2f) res [] _ (by kernel_rfl) h
abbrev s21_1 (i : Int) (w : Int) (k : Int) (b0f : Nat → Bool) (b1f : Nat → Int) (b2f : Nat → Int) : List (Nat × AV) := [(1, (.pt 1000 [] 0)), (2, (.pt 1001 [] 0)), (3, (.pt 1002 [] 0)), (4, (.sc (.int .i64 i))), (5, (.sc (.int .u64 w))), (6, (.sc (.int .i64 k)))]
abbrev m21_1 (i : Int) (w : Int) (k : Int) (b0f : Nat → Bool) (b1f : Nat → Int) (b2f : Nat → Int) : List (Nat × Nat × AV) := [(1000, 38, (.ar 256 1 (fun i0 => (.sc (.bool (b0f i0)))))), (1001, 24, (.ar 4 1 (fun i0 => (.sc (.int .u64 (b1f i0)))))), (1002, 24, (.ar 4 1 (fun i0 => (.sc (.int .u64 (b2f i0))))))]
def L21_1 (i : Int) (w : Int) (k : Int) (b0f : Nat → Bool) (b1f : Nat → Int) (b2f : Nat → Int) (res : AV) : Prop := Goes ⟨Go.Proofs.Try.prog, 21, [], res, []⟩ (place Go.Proofs.Try.f21 [1, 1, 0, 1, 0, 0, 1, 0, 0, 1, 0, 1, 0, 0]) (s21_1 i w k b0f b1f b2f) (m21_1 i w k b0f b1f b2f)
theorem a21_1 (i : Int) (w : Int) (k : Int) (b0f : Nat → Bool) (b1f : Nat → Int) (b2f : Nat → Int) (res : AV) (h : (∀ slot, fact (look .undef (s21_1 i w k b0f b1f b2f) slot)) → L21_1 i w k b0f b1f b2f res) : L21_1 i w k b0f b1f b2f res :=
  assumeRule 21 [] Go.Proofs.Try.f21 hf21 [1, 1, 0, 1, 0, 0, 1, 0, 0, 1, 0, 1, 0, 0] (s21_1 i w k b0f b1f b2f) (m21_1 i w k b0f b1f b2f) res [] _ (by kernel_rfl) h
abbrev s21_2 (i : Int) (w : Int) (k : Int) (b0f : Nat → Bool) (b1f : Nat → Int) (b2f : Nat → Int) : List (Nat × AV) := [(1, (.pt 1000 [] 0)), (2, (.pt 1001 [] 0)), (3, (.pt 1002 [] 0)), (4, (.sc (.int .i64 i))), (5, (.sc (.int .u64 w))), (6, (.sc (.int .i64 k)))]
abbrev m21_2 (i : Int) (w : Int) (k : Int) (b0f : Nat → Bool) (b1f : Nat → Int) (b2f : Nat → Int) : List (Nat × Nat × AV) := [(1000, 38, (.ar 256 1 (fun i0 => (.sc (.bool (b0f i0)))))), (1001, 24, (.ar 4 1 (fun i0 => (.sc (.int .u64 (b1f i0)))))), (1002, 24, (.ar 4 1 (fun i0 => (.sc (.int .u64 (b2f i0))))))]
def L21_2 (i : Int) (w : Int) (k : Int) (b0f : Nat → Bool) (b1f : Nat → Int) (b2f : Nat → Int) (res : AV) : Prop := Goes ⟨Go.Proofs.Try.prog, 21, [], res, []⟩ (place Go.Proofs.Try.f21 [1, 1, 0, 1, 0, 0, 1, 0, 0, 1, 0, 1, 0, 0, 1, 1]) (s21_2 i w k b0f b1f b2f) (m21_2 i w k b0f b1f b2f)
theorem a21_2 (i : Int) (w : Int) (k : Int) (b0f : Nat → Bool) (b1f : Nat → Int) (b2f : Nat → Int) (res : AV) (h : (∀ slot, fact (look .undef (s21_2 i w k b0f b1f b2f) slot)) → L21_2 i w k b0f b1f b2f res) : L21_2 i w k b0f b1f b2f res :=
  assumeRule 21 [] Go.Proofs.Try.f21 hf21 [1, 1, 0, 1, 0, 0, 1, 0, 0, 1, 0, 1, 0, 0, 1, 1] (s21_2 i w k b0f b1f b2f) (m21_2 i w k b0f b1f b2f) res [] _ (by kernel_rfl) h
theorem o21 (ff : Nat → Bool) (res : AV) (hnew : newOnly res) (h : L21_e ff res) : Ok Go.Proofs.Try.prog 21 [(.ar 256 1 (fun i0 => (.sc (.bool (ff i0)))))] [] res [] :=
  okRule2 21 Go.Proofs.Try.f21 hf21 [(.ar 256 1 (fun i0 => (.sc (.bool (ff i0)))))] [] res [] [] rfl (by kernel_rfl) (by kernel_rfl) (by kernel_rfl) ⟨hnew, by simp⟩ (L21_e ff res) (by kernel_rfl) h
theorem r21_e (ff : Nat → Bool) (res : AV)
    (h : L21_0 (0 : Int) ff (fun (x : Nat) => (0 : Int)) (fun (x : Nat) => (0 : Int)) res) :
    L21_e ff res :=
  rule Go.Am.Seat.tabOk 21 [] Go.Proofs.Try.f21 hf21 [] (s21_e ff) (m21_e ff) res [] 400
    (Orc.cut (nat_lit 9) (s21_0 (0 : Int) ff (fun (x : Nat) => (0 : Int)) fun (x : Nat) => (0 : Int))
  (m21_0 (0 : Int) ff (fun (x : Nat) => (0 : Int)) fun (x : Nat) => (0 : Int))
  [((1000 : Nat), some (1 : Nat)), ((1001 : Nat), some (2 : Nat)), ((1002 : Nat), some (3 : Nat))]) _ _ (by kernel_rfl) (by kernel_rfl) (show True ∧
  True ∧
    True ∧
    True ∧
    ((True ∧
    Sub (AV.pt (1000 : Nat) [] (0 : Nat)) (AV.pt (1000 : Nat) [] (0 : Nat)) ∧
    True ∧
    Sub (AV.pt (1001 : Nat) [] (0 : Nat)) (AV.pt (1001 : Nat) [] (0 : Nat)) ∧
    True ∧
    Sub (AV.pt (1002 : Nat) [] (0 : Nat)) (AV.pt (1002 : Nat) [] (0 : Nat)) ∧
    True ∧ Sub (AV.sc (Value.int IntKind.i64 (0 : Int))) (AV.sc (Value.int IntKind.i64 (0 : Int))) ∧ True) ∧
    True ∧
    SubB (AV.ar (256 : Nat) (1 : Nat) fun (i0 : Nat) => AV.sc (Value.bool (ff i0)))
    (AV.ar (256 : Nat) (1 : Nat) fun (i0 : Nat) => AV.sc (Value.bool (ff i0))) ∧
    True ∧
    SubB (AV.ar (4 : Nat) (1 : Nat) fun (x : Nat) => AV.sc (Value.int IntKind.u64 (0 : Int)))
    (AV.ar (4 : Nat) (1 : Nat) fun (i0 : Nat) => AV.sc (Value.int IntKind.u64 (0 : Int))) ∧
    True ∧
    SubB (AV.ar (4 : Nat) (1 : Nat) fun (x : Nat) => AV.sc (Value.int IntKind.u64 (0 : Int)))
    (AV.ar (4 : Nat) (1 : Nat) fun (i0 : Nat) => AV.sc (Value.int IntKind.u64 (0 : Int))) ∧
    True) ∧
    L21_0 (0 : Int) ff (fun (x : Nat) => (0 : Int)) (fun (x : Nat) => (0 : Int)) res from
    ⟨trivial, ⟨trivial, ⟨trivial, ⟨trivial, ⟨⟨⟨trivial, ⟨Sub.refl _, ⟨trivial, ⟨Sub.refl _, ⟨trivial, ⟨Sub.refl _, ⟨trivial, ⟨Sub.refl _, trivial⟩⟩⟩⟩⟩⟩⟩⟩, ⟨trivial, ⟨SubB.refl _, ⟨trivial, ⟨SubB.refl _, ⟨trivial, ⟨SubB.refl _, trivial⟩⟩⟩⟩⟩⟩⟩, h⟩⟩⟩⟩⟩)
theorem r21_0 (i : Int) (b0f : Nat → Bool) (b1f : Nat → Int) (b2f : Nat → Int) (res : AV)
    (h : (decide (i < (4 : Int)) = true → L21_1 i (0 : Int) (63 : Int) b0f b1f b2f res) ∧
  (decide (i < (4 : Int)) = false → Sub (AV.ar (4 : Nat) (1 : Nat) fun (i0 : Nat) => AV.sc (Value.int IntKind.u64 (b2f i0))) res)) :
    L21_0 i b0f b1f b2f res :=
  rule Go.Am.Seat.tabOk 21 [] Go.Proofs.Try.f21 hf21 [1, 1, 0, 1, 0, 0] (s21_0 i b0f b1f b2f) (m21_0 i b0f b1f b2f) res [] 400
    ((Orc.cut (nat_lit 10) (s21_1 i (0 : Int) (63 : Int) b0f b1f b2f) (m21_1 i (0 : Int) (63 : Int) b0f b1f b2f)
    [((1000 : Nat), some (1000 : Nat)), ((1001 : Nat), some (1001 : Nat)), ((1002 : Nat), some (1002 : Nat))]).br
  (Orc.fin (AV.ar (4 : Nat) (1 : Nat) fun (i0 : Nat) => AV.sc (Value.int IntKind.u64 (b2f i0))) [] [])) _ _ (by kernel_rfl) (by kernel_rfl) (show True ∧
  True ∧
    (decide (i < (4 : Int)) = true →
    True ∧
    True ∧
    ((True ∧
    Sub (AV.pt (1000 : Nat) [] (0 : Nat)) (AV.pt (1000 : Nat) [] (0 : Nat)) ∧
    True ∧
    Sub (AV.pt (1001 : Nat) [] (0 : Nat)) (AV.pt (1001 : Nat) [] (0 : Nat)) ∧
    True ∧
    Sub (AV.pt (1002 : Nat) [] (0 : Nat)) (AV.pt (1002 : Nat) [] (0 : Nat)) ∧
    True ∧
    Sub (AV.sc (Value.int IntKind.i64 i)) (AV.sc (Value.int IntKind.i64 i)) ∧
    True ∧
    Sub (AV.sc (Value.int IntKind.u64 (0 : Int))) (AV.sc (Value.int IntKind.u64 (0 : Int))) ∧
    True ∧ Sub (AV.sc (Value.int IntKind.i64 (63 : Int))) (AV.sc (Value.int IntKind.i64 (63 : Int))) ∧ True) ∧
    True ∧
    SubB (AV.ar (256 : Nat) (1 : Nat) fun (i0 : Nat) => AV.sc (Value.bool (b0f i0)))
    (AV.ar (256 : Nat) (1 : Nat) fun (i0 : Nat) => AV.sc (Value.bool (b0f i0))) ∧
    True ∧
    SubB (AV.ar (4 : Nat) (1 : Nat) fun (i0 : Nat) => AV.sc (Value.int IntKind.u64 (b1f i0)))
    (AV.ar (4 : Nat) (1 : Nat) fun (i0 : Nat) => AV.sc (Value.int IntKind.u64 (b1f i0))) ∧
    True ∧
    SubB (AV.ar (4 : Nat) (1 : Nat) fun (i0 : Nat) => AV.sc (Value.int IntKind.u64 (b2f i0)))
    (AV.ar (4 : Nat) (1 : Nat) fun (i0 : Nat) => AV.sc (Value.int IntKind.u64 (b2f i0))) ∧
    True) ∧
    L21_1 i (0 : Int) (63 : Int) b0f b1f b2f res) ∧
    (decide (i < (4 : Int)) = false →
    ((0 : Nat) = (0 : Nat) ∧ True) ∧
    ((0 : Nat) = (0 : Nat) ∧ True) ∧
    ((0 : Nat) = (0 : Nat) ∧ True) ∧
    ((True ∧
    Sub (AV.ar (4 : Nat) (1 : Nat) fun (i0 : Nat) => AV.sc (Value.int IntKind.u64 (b2f i0)))
    (AV.ar (4 : Nat) (1 : Nat) fun (i0 : Nat) => AV.sc (Value.int IntKind.u64 (b2f i0))) ∧
    True) ∧
    True) ∧
    Sub (AV.ar (4 : Nat) (1 : Nat) fun (i0 : Nat) => AV.sc (Value.int IntKind.u64 (b2f i0))) res ∧ SubOut [] []) from
    ⟨trivial, ⟨trivial, (And.elim (fun h2 k2 => ⟨(fun x3 => (fun h3 => ⟨trivial, ⟨trivial, ⟨⟨⟨trivial, ⟨Sub.refl _, ⟨trivial, ⟨Sub.refl _, ⟨trivial, ⟨Sub.refl _, ⟨trivial, ⟨Sub.refl _, ⟨trivial, ⟨Sub.refl _, ⟨trivial, ⟨Sub.refl _, trivial⟩⟩⟩⟩⟩⟩⟩⟩⟩⟩⟩⟩, ⟨trivial, ⟨SubB.refl _, ⟨trivial, ⟨SubB.refl _, ⟨trivial, ⟨SubB.refl _, trivial⟩⟩⟩⟩⟩⟩⟩, h3⟩⟩⟩) (h2 x3)), (fun x3 => (fun h3 => ⟨⟨rfl, trivial⟩, ⟨⟨rfl, trivial⟩, ⟨⟨rfl, trivial⟩, ⟨⟨⟨trivial, ⟨Sub.refl _, trivial⟩⟩, trivial⟩, ((fun h8 => ⟨h8, trivial⟩) h3)⟩⟩⟩⟩) (k2 x3))⟩) h)⟩⟩)
theorem r21_1 (i : Int) (w : Int) (k : Int) (b0f : Nat → Bool) (b1f : Nat → Int) (b2f : Nat → Int) (res : AV)
    (h : (decide (k ≥ (0 : Int)) = true →
    ((0 : Int) ≤ IntKind.i64.wrap (IntKind.i64.wrap (i * (64 : Int)) + k) ∧ IntKind.i64.wrap (IntKind.i64.wrap (i * (64 : Int)) + k) < (↑(256 : Nat) : Int)) ∧
    (IntKind.i64.wrap (IntKind.i64.wrap (i * (64 : Int)) + k)).toNat < (256 : Nat) ∧
    (b0f (IntKind.i64.wrap (IntKind.i64.wrap (i * (64 : Int)) + k)).toNat = true →
    L21_2 i (IntKind.u64.wrap (IntKind.u64.wrap (w * (2 : Int)) + (1 : Int))) k b0f b1f b2f res) ∧
    (b0f (IntKind.i64.wrap (IntKind.i64.wrap (i * (64 : Int)) + k)).toNat = false → L21_2 i (IntKind.u64.wrap (w * (2 : Int))) k b0f b1f b2f res)) ∧
  (decide (k ≥ (0 : Int)) = false →
    ((0 : Int) ≤ i ∧ i < (↑(4 : Nat) : Int)) ∧
    i.toNat < (4 : Nat) ∧ L21_0 (IntKind.i64.wrap (i + (1 : Int))) b0f b1f (fun (i_1 : Nat) => bif i_1.beq i.toNat then w else b2f i_1) res)) :
    L21_1 i w k b0f b1f b2f res :=
  rule Go.Am.Seat.tabOk 21 [] Go.Proofs.Try.f21 hf21 [1, 1, 0, 1, 0, 0, 1, 0, 0, 1, 0, 1, 0, 0] (s21_1 i w k b0f b1f b2f) (m21_1 i w k b0f b1f b2f) res [] 400
    (((Orc.cut (nat_lit 2) (s21_2 i (IntKind.u64.wrap (IntKind.u64.wrap (w * (2 : Int)) + (1 : Int))) k b0f b1f b2f)
    (m21_2 i (IntKind.u64.wrap (IntKind.u64.wrap (w * (2 : Int)) + (1 : Int))) k b0f b1f b2f)
    [((1000 : Nat), some (1000 : Nat)), ((1001 : Nat), some (1001 : Nat)), ((1002 : Nat), some (1002 : Nat))]).br
    (Orc.cut (nat_lit 2) (s21_2 i (IntKind.u64.wrap (w * (2 : Int))) k b0f b1f b2f) (m21_2 i (IntKind.u64.wrap (w * (2 : Int))) k b0f b1f b2f)
    [((1000 : Nat), some (1000 : Nat)), ((1001 : Nat), some (1001 : Nat)), ((1002 : Nat), some (1002 : Nat))])).br
  (Orc.cut (nat_lit 5) (s21_0 (IntKind.i64.wrap (i + (1 : Int))) b0f b1f fun (i_1 : Nat) => bif i_1.beq i.toNat then w else b2f i_1)
    (m21_0 (IntKind.i64.wrap (i + (1 : Int))) b0f b1f fun (i_1 : Nat) => bif i_1.beq i.toNat then w else b2f i_1)
    [((1000 : Nat), some (1000 : Nat)), ((1001 : Nat), some (1001 : Nat)), ((1002 : Nat), some (1002 : Nat))])) _ _ (by kernel_rfl) (by kernel_rfl) (show True ∧
  True ∧
    (decide (k ≥ (0 : Int)) = true →
    True ∧
    True ∧
    True ∧
    True ∧
    True ∧
    True ∧
    True ∧
    ((0 : Int) ≤ IntKind.i64.wrap (IntKind.i64.wrap (i * (64 : Int)) + k) ∧
    IntKind.i64.wrap (IntKind.i64.wrap (i * (64 : Int)) + k) < (↑(256 : Nat) : Int)) ∧
    ((IntKind.i64.wrap (IntKind.i64.wrap (i * (64 : Int)) + k)).toNat * (1 : Nat) + (0 : Nat) =
    plus (0 : Nat) ((IntKind.i64.wrap (IntKind.i64.wrap (i * (64 : Int)) + k)).toNat * (1 : Nat)) ∧
    (IntKind.i64.wrap (IntKind.i64.wrap (i * (64 : Int)) + k)).toNat < (256 : Nat) ∧ True) ∧
    (b0f (IntKind.i64.wrap (IntKind.i64.wrap (i * (64 : Int)) + k)).toNat = true →
    True ∧
    True ∧
    True ∧
    ((True ∧
    Sub (AV.pt (1000 : Nat) [] (0 : Nat)) (AV.pt (1000 : Nat) [] (0 : Nat)) ∧
    True ∧
    Sub (AV.pt (1001 : Nat) [] (0 : Nat)) (AV.pt (1001 : Nat) [] (0 : Nat)) ∧
    True ∧
    Sub (AV.pt (1002 : Nat) [] (0 : Nat)) (AV.pt (1002 : Nat) [] (0 : Nat)) ∧
    True ∧
    Sub (AV.sc (Value.int IntKind.i64 i)) (AV.sc (Value.int IntKind.i64 i)) ∧
    True ∧
    Sub (AV.sc (Value.int IntKind.u64 (IntKind.u64.wrap (IntKind.u64.wrap (w * (2 : Int)) + (1 : Int)))))
    (AV.sc
    (Value.int IntKind.u64 (IntKind.u64.wrap (IntKind.u64.wrap (w * (2 : Int)) + (1 : Int))))) ∧
    True ∧ Sub (AV.sc (Value.int IntKind.i64 k)) (AV.sc (Value.int IntKind.i64 k)) ∧ True) ∧
    True ∧
    SubB (AV.ar (256 : Nat) (1 : Nat) fun (i0 : Nat) => AV.sc (Value.bool (b0f i0)))
    (AV.ar (256 : Nat) (1 : Nat) fun (i0 : Nat) => AV.sc (Value.bool (b0f i0))) ∧
    True ∧
    SubB (AV.ar (4 : Nat) (1 : Nat) fun (i0 : Nat) => AV.sc (Value.int IntKind.u64 (b1f i0)))
    (AV.ar (4 : Nat) (1 : Nat) fun (i0 : Nat) => AV.sc (Value.int IntKind.u64 (b1f i0))) ∧
    True ∧
    SubB (AV.ar (4 : Nat) (1 : Nat) fun (i0 : Nat) => AV.sc (Value.int IntKind.u64 (b2f i0)))
    (AV.ar (4 : Nat) (1 : Nat) fun (i0 : Nat) => AV.sc (Value.int IntKind.u64 (b2f i0))) ∧
    True) ∧
    L21_2 i (IntKind.u64.wrap (IntKind.u64.wrap (w * (2 : Int)) + (1 : Int))) k b0f b1f b2f res) ∧
    (b0f (IntKind.i64.wrap (IntKind.i64.wrap (i * (64 : Int)) + k)).toNat = false →
    ((True ∧
    Sub (AV.pt (1000 : Nat) [] (0 : Nat)) (AV.pt (1000 : Nat) [] (0 : Nat)) ∧
    True ∧
    Sub (AV.pt (1001 : Nat) [] (0 : Nat)) (AV.pt (1001 : Nat) [] (0 : Nat)) ∧
    True ∧
    Sub (AV.pt (1002 : Nat) [] (0 : Nat)) (AV.pt (1002 : Nat) [] (0 : Nat)) ∧
    True ∧
    Sub (AV.sc (Value.int IntKind.i64 i)) (AV.sc (Value.int IntKind.i64 i)) ∧
    True ∧
    Sub (AV.sc (Value.int IntKind.u64 (IntKind.u64.wrap (w * (2 : Int)))))
    (AV.sc (Value.int IntKind.u64 (IntKind.u64.wrap (w * (2 : Int))))) ∧
    True ∧ Sub (AV.sc (Value.int IntKind.i64 k)) (AV.sc (Value.int IntKind.i64 k)) ∧ True) ∧
    True ∧
    SubB (AV.ar (256 : Nat) (1 : Nat) fun (i0 : Nat) => AV.sc (Value.bool (b0f i0)))
    (AV.ar (256 : Nat) (1 : Nat) fun (i0 : Nat) => AV.sc (Value.bool (b0f i0))) ∧
    True ∧
    SubB (AV.ar (4 : Nat) (1 : Nat) fun (i0 : Nat) => AV.sc (Value.int IntKind.u64 (b1f i0)))
    (AV.ar (4 : Nat) (1 : Nat) fun (i0 : Nat) => AV.sc (Value.int IntKind.u64 (b1f i0))) ∧
    True ∧
    SubB (AV.ar (4 : Nat) (1 : Nat) fun (i0 : Nat) => AV.sc (Value.int IntKind.u64 (b2f i0)))
    (AV.ar (4 : Nat) (1 : Nat) fun (i0 : Nat) => AV.sc (Value.int IntKind.u64 (b2f i0))) ∧
    True) ∧
    L21_2 i (IntKind.u64.wrap (w * (2 : Int))) k b0f b1f b2f res)) ∧
    (decide (k ≥ (0 : Int)) = false →
    True ∧
    True ∧
    ((0 : Int) ≤ i ∧ i < (↑(4 : Nat) : Int)) ∧
    (i.toNat * (1 : Nat) + (0 : Nat) = plus (0 : Nat) (i.toNat * (1 : Nat)) ∧ (i.toNat < (4 : Nat) ∧ True) ∧ True) ∧
    True ∧
    True ∧
    True ∧
    ((True ∧
    Sub (AV.pt (1000 : Nat) [] (0 : Nat)) (AV.pt (1000 : Nat) [] (0 : Nat)) ∧
    True ∧
    Sub (AV.pt (1001 : Nat) [] (0 : Nat)) (AV.pt (1001 : Nat) [] (0 : Nat)) ∧
    True ∧
    Sub (AV.pt (1002 : Nat) [] (0 : Nat)) (AV.pt (1002 : Nat) [] (0 : Nat)) ∧
    True ∧
    Sub (AV.sc (Value.int IntKind.i64 (IntKind.i64.wrap (i + (1 : Int)))))
    (AV.sc (Value.int IntKind.i64 (IntKind.i64.wrap (i + (1 : Int))))) ∧
    True) ∧
    True ∧
    SubB (AV.ar (256 : Nat) (1 : Nat) fun (i0 : Nat) => AV.sc (Value.bool (b0f i0)))
    (AV.ar (256 : Nat) (1 : Nat) fun (i0 : Nat) => AV.sc (Value.bool (b0f i0))) ∧
    True ∧
    SubB (AV.ar (4 : Nat) (1 : Nat) fun (i0 : Nat) => AV.sc (Value.int IntKind.u64 (b1f i0)))
    (AV.ar (4 : Nat) (1 : Nat) fun (i0 : Nat) => AV.sc (Value.int IntKind.u64 (b1f i0))) ∧
    True ∧
    SubB (AV.ar (4 : Nat) (1 : Nat) fun (i_1 : Nat) => AV.sc (Value.int IntKind.u64 (bif i_1.beq i.toNat then w else b2f i_1)))
    (AV.ar (4 : Nat) (1 : Nat) fun (i0 : Nat) => AV.sc (Value.int IntKind.u64 (bif i0.beq i.toNat then w else b2f i0))) ∧
    True) ∧
    L21_0 (IntKind.i64.wrap (i + (1 : Int))) b0f b1f (fun (i_1 : Nat) => bif i_1.beq i.toNat then w else b2f i_1) res) from
    ⟨trivial, ⟨trivial, (And.elim (fun h2 k2 => ⟨(fun x3 => (fun h3 => ⟨trivial, ⟨trivial, ⟨trivial, ⟨trivial, ⟨trivial, ⟨trivial, ⟨trivial, (And.elim (fun h11 k11 => ⟨(And.elim (fun h12 k12 => ⟨h12, k12⟩) h11), (And.elim (fun h12 k12 => ⟨⟨rfl, ((fun h14 => ⟨h14, trivial⟩) h12)⟩, (And.elim (fun h13 k13 => ⟨(fun x14 => (fun h14 => ⟨trivial, ⟨trivial, ⟨trivial, ⟨⟨⟨trivial, ⟨Sub.refl _, ⟨trivial, ⟨Sub.refl _, ⟨trivial, ⟨Sub.refl _, ⟨trivial, ⟨Sub.refl _, ⟨trivial, ⟨Sub.refl _, ⟨trivial, ⟨Sub.refl _, trivial⟩⟩⟩⟩⟩⟩⟩⟩⟩⟩⟩⟩, ⟨trivial, ⟨SubB.refl _, ⟨trivial, ⟨SubB.refl _, ⟨trivial, ⟨SubB.refl _, trivial⟩⟩⟩⟩⟩⟩⟩, h14⟩⟩⟩⟩) (h13 x14)), (fun x14 => (fun h14 => ⟨⟨⟨trivial, ⟨Sub.refl _, ⟨trivial, ⟨Sub.refl _, ⟨trivial, ⟨Sub.refl _, ⟨trivial, ⟨Sub.refl _, ⟨trivial, ⟨Sub.refl _, ⟨trivial, ⟨Sub.refl _, trivial⟩⟩⟩⟩⟩⟩⟩⟩⟩⟩⟩⟩, ⟨trivial, ⟨SubB.refl _, ⟨trivial, ⟨SubB.refl _, ⟨trivial, ⟨SubB.refl _, trivial⟩⟩⟩⟩⟩⟩⟩, h14⟩) (k13 x14))⟩) k12)⟩) k11)⟩) h3)⟩⟩⟩⟩⟩⟩⟩) (h2 x3)), (fun x3 => (fun h3 => ⟨trivial, ⟨trivial, (And.elim (fun h6 k6 => ⟨(And.elim (fun h7 k7 => ⟨h7, k7⟩) h6), (And.elim (fun h7 k7 => ⟨⟨rfl, ((fun h9 => ⟨((fun h10 => ⟨h10, trivial⟩) h9), trivial⟩) h7)⟩, ⟨trivial, ⟨trivial, ⟨trivial, ⟨⟨⟨trivial, ⟨Sub.refl _, ⟨trivial, ⟨Sub.refl _, ⟨trivial, ⟨Sub.refl _, ⟨trivial, ⟨Sub.refl _, trivial⟩⟩⟩⟩⟩⟩⟩⟩, ⟨trivial, ⟨SubB.refl _, ⟨trivial, ⟨SubB.refl _, ⟨trivial, ⟨SubB.refl _, trivial⟩⟩⟩⟩⟩⟩⟩, k7⟩⟩⟩⟩⟩) k6)⟩) h3)⟩⟩) (k2 x3))⟩) h)⟩⟩)
theorem r21_2 (i : Int) (w : Int) (k : Int) (b0f : Nat → Bool) (b1f : Nat → Int) (b2f : Nat → Int) (res : AV)
    (h : L21_1 i w (IntKind.i64.wrap (k - (1 : Int))) b0f b1f b2f res) :
    L21_2 i w k b0f b1f b2f res :=
  rule Go.Am.Seat.tabOk 21 [] Go.Proofs.Try.f21 hf21 [1, 1, 0, 1, 0, 0, 1, 0, 0, 1, 0, 1, 0, 0, 1, 1] (s21_2 i w k b0f b1f b2f) (m21_2 i w k b0f b1f b2f) res [] 400
    (Orc.cut (nat_lit 2) (s21_1 i w (IntKind.i64.wrap (k - (1 : Int))) b0f b1f b2f) (m21_1 i w (IntKind.i64.wrap (k - (1 : Int))) b0f b1f b2f)
  [((1000 : Nat), some (1000 : Nat)), ((1001 : Nat), some (1001 : Nat)), ((1002 : Nat), some (1002 : Nat))]) _ _ (by kernel_rfl) (by kernel_rfl) (show True ∧
  True ∧
    True ∧
    ((True ∧
    Sub (AV.pt (1000 : Nat) [] (0 : Nat)) (AV.pt (1000 : Nat) [] (0 : Nat)) ∧
    True ∧
    Sub (AV.pt (1001 : Nat) [] (0 : Nat)) (AV.pt (1001 : Nat) [] (0 : Nat)) ∧
    True ∧
    Sub (AV.pt (1002 : Nat) [] (0 : Nat)) (AV.pt (1002 : Nat) [] (0 : Nat)) ∧
    True ∧
    Sub (AV.sc (Value.int IntKind.i64 i)) (AV.sc (Value.int IntKind.i64 i)) ∧
    True ∧
    Sub (AV.sc (Value.int IntKind.u64 w)) (AV.sc (Value.int IntKind.u64 w)) ∧
    True ∧
    Sub (AV.sc (Value.int IntKind.i64 (IntKind.i64.wrap (k - (1 : Int)))))
    (AV.sc (Value.int IntKind.i64 (IntKind.i64.wrap (k - (1 : Int))))) ∧
    True) ∧
    True ∧
    SubB (AV.ar (256 : Nat) (1 : Nat) fun (i0 : Nat) => AV.sc (Value.bool (b0f i0)))
    (AV.ar (256 : Nat) (1 : Nat) fun (i0 : Nat) => AV.sc (Value.bool (b0f i0))) ∧
    True ∧
    SubB (AV.ar (4 : Nat) (1 : Nat) fun (i0 : Nat) => AV.sc (Value.int IntKind.u64 (b1f i0)))
    (AV.ar (4 : Nat) (1 : Nat) fun (i0 : Nat) => AV.sc (Value.int IntKind.u64 (b1f i0))) ∧
    True ∧
    SubB (AV.ar (4 : Nat) (1 : Nat) fun (i0 : Nat) => AV.sc (Value.int IntKind.u64 (b2f i0)))
    (AV.ar (4 : Nat) (1 : Nat) fun (i0 : Nat) => AV.sc (Value.int IntKind.u64 (b2f i0))) ∧
    True) ∧
    L21_1 i w (IntKind.i64.wrap (k - (1 : Int))) b0f b1f b2f res from
    ⟨trivial, ⟨trivial, ⟨trivial, ⟨⟨⟨trivial, ⟨Sub.refl _, ⟨trivial, ⟨Sub.refl _, ⟨trivial, ⟨Sub.refl _, ⟨trivial, ⟨Sub.refl _, ⟨trivial, ⟨Sub.refl _, ⟨trivial, ⟨Sub.refl _, trivial⟩⟩⟩⟩⟩⟩⟩⟩⟩⟩⟩⟩, ⟨trivial, ⟨SubB.refl _, ⟨trivial, ⟨SubB.refl _, ⟨trivial, ⟨SubB.refl _, trivial⟩⟩⟩⟩⟩⟩⟩, h⟩⟩⟩⟩)
end Go.Am.Seat
