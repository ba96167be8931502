/- The rules of 19 functions: from what is owed at each place of a function the function goes on as it is told there. Printed by a program of this seat; Lean checks each. -/
import Derived.Test.YtclpcgjnodpbcaaAmZ2
import Derived.Test.YtclpcgjnodpbcaaTab
open Go Go.Am Go.Am.Seat
namespace Go.Am.Seat
set_option linter.unusedVariables false
set_option maxRecDepth 100000
theorem hf16 : Go.Proofs.Try.prog.funcs[16]? = some Go.Proofs.Try.f16 := by kernel_rfl
abbrev s16_e (sf : Nat → Int) : List (Nat × AV) := [(0, (.ar 4 1 (fun i0 => (.sc (.int .u64 (sf i0))))))]
abbrev m16_e (sf : Nat → Int) : List (Nat × Nat × AV) := []
def L16_e (sf : Nat → Int) (res : AV) : Prop := Goes ⟨Go.Proofs.Try.prog, 16, [], res, []⟩ (place Go.Proofs.Try.f16 []) (s16_e sf) (m16_e sf)
theorem a16_e (sf : Nat → Int) (res : AV) (h : (∀ slot, fact (look .undef (s16_e sf) slot)) → L16_e sf res) : L16_e sf res :=
  assumeRule 16 [] Go.Proofs.Try.f16 hf16 [] (s16_e sf) (m16_e sf) res [] _ (by kernel_rfl) h
abbrev s16_0 (n : Int) (t6f : Nat → Int) (t7 : Int) : List (Nat × AV) := [(3, (.sc (.int .i64 n))), (6, (.ar 4 1 (fun i0 => (.sc (.int .u64 (t6f i0)))))), (7, (.sc (.int .i64 t7)))]
abbrev m16_0 (n : Int) (t6f : Nat → Int) (t7 : Int) : List (Nat × Nat × AV) := []
def L16_0 (n : Int) (t6f : Nat → Int) (t7 : Int) (res : AV) : Prop := Goes ⟨Go.Proofs.Try.prog, 16, [], res, []⟩ (place Go.Proofs.Try.f16 [1, 1, 0, 1, 0, 0]) (s16_0 n t6f t7) (m16_0 n t6f t7)
theorem a16_0 (n : Int) (t6f : Nat → Int) (t7 : Int) (res : AV) (h : (∀ slot, fact (look .undef (s16_0 n t6f t7) slot)) → L16_0 n t6f t7 res) : L16_0 n t6f t7 res :=
  assumeRule 16 [] Go.Proofs.Try.f16 hf16 [1, 1, 0, 1, 0, 0] (s16_0 n t6f t7) (m16_0 n t6f t7) res [] _ (by kernel_rfl) h
theorem o16 (sf : Nat → Int) (res : AV) (hnew : newOnly res) (h : L16_e sf res) : Ok Go.Proofs.Try.prog 16 [(.ar 4 1 (fun i0 => (.sc (.int .u64 (sf i0)))))] [] res [] :=
  okRule2 16 Go.Proofs.Try.f16 hf16 [(.ar 4 1 (fun i0 => (.sc (.int .u64 (sf i0)))))] [] res [] [] rfl (by kernel_rfl) (by kernel_rfl) (by kernel_rfl) ⟨hnew, by simp⟩ (L16_e sf res) (by kernel_rfl) h
theorem r16_e (sf : Nat → Int) (res : AV)
    (h : L16_0 (0 : Int) sf (0 : Int) res) :
    L16_e sf res :=
  rule Go.Am.Seat.tabOk 16 [] Go.Proofs.Try.f16 hf16 [] (s16_e sf) (m16_e sf) res [] 400
    (Orc.cut (nat_lit 9) (s16_0 (0 : Int) sf (0 : Int)) (m16_0 (0 : Int) sf (0 : Int)) []) _ _ (by kernel_rfl) (by kernel_rfl) (show True ∧
  True ∧
    True ∧
    ((0 : Nat) = (0 : Nat) ∧ True) ∧
    True ∧
    ((True ∧
    Sub (AV.sc (Value.int IntKind.i64 (0 : Int))) (AV.sc (Value.int IntKind.i64 (0 : Int))) ∧
    True ∧
    Sub (AV.ar (4 : Nat) (1 : Nat) fun (i0 : Nat) => AV.sc (Value.int IntKind.u64 (sf i0)))
    (AV.ar (4 : Nat) (1 : Nat) fun (i0 : Nat) => AV.sc (Value.int IntKind.u64 (sf i0))) ∧
    True ∧ Sub (AV.sc (Value.int IntKind.i64 (0 : Int))) (AV.sc (Value.int IntKind.i64 (0 : Int))) ∧ True) ∧
    True) ∧
    L16_0 (0 : Int) sf (0 : Int) res from
    ⟨trivial, ⟨trivial, ⟨trivial, ⟨⟨rfl, trivial⟩, ⟨trivial, ⟨⟨⟨trivial, ⟨Sub.refl _, ⟨trivial, ⟨Sub.refl _, ⟨trivial, ⟨Sub.refl _, trivial⟩⟩⟩⟩⟩⟩, trivial⟩, h⟩⟩⟩⟩⟩⟩)
theorem r16_0 (n : Int) (t6f : Nat → Int) (t7 : Int) (res : AV)
    (h : (decide (t7 < (4 : Int)) = true →
    ((0 : Int) ≤ t7 ∧ t7 < (↑(4 : Nat) : Int) ∧ (AV.sc (Value.int IntKind.u64 (t6f t7.toNat))).sz = (1 : Nat)) ∧
    ∃ (r : Int),
    Ok Proofs.Try.prog (29 : Nat) [AV.sc (Value.int IntKind.u64 (t6f t7.toNat))] [] (AV.sc (Value.int IntKind.i64 r)) [] ∧
    L16_0 (IntKind.i64.wrap (n + r)) t6f (IntKind.i64.wrap (t7 + (1 : Int))) res) ∧
  (decide (t7 < (4 : Int)) = false → Sub (AV.sc (Value.int IntKind.i64 n)) res)) :
    L16_0 n t6f t7 res :=
  rule Go.Am.Seat.tabOk 16 [] Go.Proofs.Try.f16 hf16 [1, 1, 0, 1, 0, 0] (s16_0 n t6f t7) (m16_0 n t6f t7) res [] 400
    ((Orc.call [] [] (fun (r29 : Int) => AV.sc (Value.int IntKind.i64 r29)) (fun (r29 : Int) => []) fun (r29 : Int) =>
    Orc.cut (nat_lit 3) (s16_0 (IntKind.i64.wrap (n + r29)) t6f (IntKind.i64.wrap (t7 + (1 : Int))))
    (m16_0 (IntKind.i64.wrap (n + r29)) t6f (IntKind.i64.wrap (t7 + (1 : Int)))) []).br
  (Orc.fin (AV.sc (Value.int IntKind.i64 n)) [] [])) _ _ (by kernel_rfl) (by kernel_rfl) (show True ∧
  (decide (t7 < (4 : Int)) = true →
    ((0 : Int) ≤ t7 ∧ t7 < (↑(4 : Nat) : Int) ∧ (AV.sc (Value.int IntKind.u64 (t6f t7.toNat))).sz = (1 : Nat) ∧ false = false) ∧
    True ∧
    True ∧
    True ∧
    ∃ (r : Int),
    ((True ∧ True) ∧ True ∧ Ok Proofs.Try.prog (29 : Nat) [AV.sc (Value.int IntKind.u64 (t6f t7.toNat))] [] (AV.sc (Value.int IntKind.i64 r)) []) ∧
    True ∧
    True ∧
    True ∧
    True ∧
    ((True ∧
    Sub (AV.sc (Value.int IntKind.i64 (IntKind.i64.wrap (n + r)))) (AV.sc (Value.int IntKind.i64 (IntKind.i64.wrap (n + r)))) ∧
    True ∧
    Sub (AV.ar (4 : Nat) (1 : Nat) fun (i0 : Nat) => AV.sc (Value.int IntKind.u64 (t6f i0)))
    (AV.ar (4 : Nat) (1 : Nat) fun (i0 : Nat) => AV.sc (Value.int IntKind.u64 (t6f i0))) ∧
    True ∧
    Sub (AV.sc (Value.int IntKind.i64 (IntKind.i64.wrap (t7 + (1 : Int)))))
    (AV.sc (Value.int IntKind.i64 (IntKind.i64.wrap (t7 + (1 : Int))))) ∧
    True) ∧
    True) ∧
    L16_0 (IntKind.i64.wrap (n + r)) t6f (IntKind.i64.wrap (t7 + (1 : Int))) res) ∧
    (decide (t7 < (4 : Int)) = false →
    True ∧
    True ∧
    True ∧
    ((True ∧ Sub (AV.sc (Value.int IntKind.i64 n)) (AV.sc (Value.int IntKind.i64 n)) ∧ True) ∧ True) ∧
    Sub (AV.sc (Value.int IntKind.i64 n)) res ∧ SubOut [] []) from
    ⟨trivial, (And.elim (fun h1 k1 => ⟨(fun x2 => (fun h2 => (And.elim (fun h3 k3 => ⟨(And.elim (fun h4 k4 => ⟨h4, (And.elim (fun h5 k5 => ⟨h5, ((fun h6 => ⟨h6, rfl⟩) k5)⟩) k4)⟩) h3), ⟨trivial, ⟨trivial, ⟨trivial, (Exists.elim k3 fun x7 h7 => ⟨x7, (And.elim (fun h8 k8 => ⟨⟨⟨trivial, trivial⟩, ⟨trivial, h8⟩⟩, ⟨trivial, ⟨trivial, ⟨trivial, ⟨trivial, ⟨⟨⟨trivial, ⟨Sub.refl _, ⟨trivial, ⟨Sub.refl _, ⟨trivial, ⟨Sub.refl _, trivial⟩⟩⟩⟩⟩⟩, trivial⟩, k8⟩⟩⟩⟩⟩⟩) h7)⟩)⟩⟩⟩⟩) h2)) (h1 x2)), (fun x2 => (fun h2 => ⟨trivial, ⟨trivial, ⟨trivial, ⟨⟨⟨trivial, ⟨Sub.refl _, trivial⟩⟩, trivial⟩, ((fun h7 => ⟨h7, trivial⟩) h2)⟩⟩⟩⟩) (k1 x2))⟩) h)⟩)
theorem hf17 : Go.Proofs.Try.prog.funcs[17]? = some Go.Proofs.Try.f17 := by kernel_rfl
abbrev s17_e (bytes : ByteArray) : List (Nat × AV) := [(0, (.sc (.string bytes)))]
abbrev m17_e (bytes : ByteArray) : List (Nat × Nat × AV) := []
def L17_e (bytes : ByteArray) (res : AV) : Prop := Goes ⟨Go.Proofs.Try.prog, 17, [], res, []⟩ (place Go.Proofs.Try.f17 []) (s17_e bytes) (m17_e bytes)
theorem a17_e (bytes : ByteArray) (res : AV) (h : (∀ slot, fact (look .undef (s17_e bytes) slot)) → L17_e bytes res) : L17_e bytes res :=
  assumeRule 17 [] Go.Proofs.Try.f17 hf17 [] (s17_e bytes) (m17_e bytes) res [] _ (by kernel_rfl) h
abbrev s17_0 (bytes : ByteArray) (t6 : Int) (t7 : Int) (b0f : Nat → Int) (b1f : Nat → Int) : List (Nat × AV) := [(0, (.sc (.string bytes))), (2, (.pt 1000 [] 0)), (3, (.pt 1001 [] 0)), (6, (.sc (.int .i64 t6))), (7, (.sc (.int .i64 t7)))]
abbrev m17_0 (bytes : ByteArray) (t6 : Int) (t7 : Int) (b0f : Nat → Int) (b1f : Nat → Int) : List (Nat × Nat × AV) := [(1000, 24, (.ar 4 1 (fun i0 => (.sc (.int .u64 (b0f i0)))))), (1001, 24, (.ar 4 1 (fun i0 => (.sc (.int .u64 (b1f i0))))))]
def L17_0 (bytes : ByteArray) (t6 : Int) (t7 : Int) (b0f : Nat → Int) (b1f : Nat → Int) (res : AV) : Prop := Goes ⟨Go.Proofs.Try.prog, 17, [], res, []⟩ (place Go.Proofs.Try.f17 [1, 1, 0, 1, 0, 0]) (s17_0 bytes t6 t7 b0f b1f) (m17_0 bytes t6 t7 b0f b1f)
theorem a17_0 (bytes : ByteArray) (t6 : Int) (t7 : Int) (b0f : Nat → Int) (b1f : Nat → Int) (res : AV) (h : (∀ slot, fact (look .undef (s17_0 bytes t6 t7 b0f b1f) slot)) → L17_0 bytes t6 t7 b0f b1f res) : L17_0 bytes t6 t7 b0f b1f res :=
  assumeRule 17 [] Go.Proofs.Try.f17 hf17 [1, 1, 0, 1, 0, 0] (s17_0 bytes t6 t7 b0f b1f) (m17_0 bytes t6 t7 b0f b1f) res [] _ (by kernel_rfl) h
theorem o17 (bytes : ByteArray) (res : AV) (hnew : newOnly res) (h : L17_e bytes res) : Ok Go.Proofs.Try.prog 17 [(.sc (.string bytes))] [] res [] :=
  okRule2 17 Go.Proofs.Try.f17 hf17 [(.sc (.string bytes))] [] res [] [] rfl (by kernel_rfl) (by kernel_rfl) (by kernel_rfl) ⟨hnew, by simp⟩ (L17_e bytes res) (by kernel_rfl) h
theorem r17_e (bytes : ByteArray) (res : AV)
    (h : L17_0 bytes (↑bytes.size : Int) (0 : Int) (fun (x : Nat) => (0 : Int)) (fun (x : Nat) => (0 : Int)) res) :
    L17_e bytes res :=
  rule Go.Am.Seat.tabOk 17 [] Go.Proofs.Try.f17 hf17 [] (s17_e bytes) (m17_e bytes) res [] 400
    (Orc.cut (nat_lit 9) (s17_0 bytes (↑bytes.size : Int) (0 : Int) (fun (x : Nat) => (0 : Int)) fun (x : Nat) => (0 : Int))
  (m17_0 bytes (↑bytes.size : Int) (0 : Int) (fun (x : Nat) => (0 : Int)) fun (x : Nat) => (0 : Int))
  [((1000 : Nat), some (2 : Nat)), ((1001 : Nat), some (3 : Nat))]) _ _ (by kernel_rfl) (by kernel_rfl) (show True ∧
  True ∧
    True ∧
    True ∧
    True ∧
    ((True ∧
    Sub (AV.sc (Value.string bytes)) (AV.sc (Value.string bytes)) ∧
    True ∧
    Sub (AV.pt (1000 : Nat) [] (0 : Nat)) (AV.pt (1000 : Nat) [] (0 : Nat)) ∧
    True ∧
    Sub (AV.pt (1001 : Nat) [] (0 : Nat)) (AV.pt (1001 : Nat) [] (0 : Nat)) ∧
    True ∧
    Sub (AV.sc (Value.int IntKind.i64 (↑bytes.size : Int))) (AV.sc (Value.int IntKind.i64 (↑bytes.size : Int))) ∧
    True ∧ Sub (AV.sc (Value.int IntKind.i64 (0 : Int))) (AV.sc (Value.int IntKind.i64 (0 : Int))) ∧ True) ∧
    True ∧
    SubB (AV.ar (4 : Nat) (1 : Nat) fun (x : Nat) => AV.sc (Value.int IntKind.u64 (0 : Int)))
    (AV.ar (4 : Nat) (1 : Nat) fun (i0 : Nat) => AV.sc (Value.int IntKind.u64 (0 : Int))) ∧
    True ∧
    SubB (AV.ar (4 : Nat) (1 : Nat) fun (x : Nat) => AV.sc (Value.int IntKind.u64 (0 : Int)))
    (AV.ar (4 : Nat) (1 : Nat) fun (i0 : Nat) => AV.sc (Value.int IntKind.u64 (0 : Int))) ∧
    True) ∧
    L17_0 bytes (↑bytes.size : Int) (0 : Int) (fun (x : Nat) => (0 : Int)) (fun (x : Nat) => (0 : Int)) res from
    ⟨trivial, ⟨trivial, ⟨trivial, ⟨trivial, ⟨trivial, ⟨⟨⟨trivial, ⟨Sub.refl _, ⟨trivial, ⟨Sub.refl _, ⟨trivial, ⟨Sub.refl _, ⟨trivial, ⟨Sub.refl _, ⟨trivial, ⟨Sub.refl _, trivial⟩⟩⟩⟩⟩⟩⟩⟩⟩⟩, ⟨trivial, ⟨SubB.refl _, ⟨trivial, ⟨SubB.refl _, trivial⟩⟩⟩⟩⟩, h⟩⟩⟩⟩⟩⟩)
theorem r17_0 (bytes : ByteArray) (t6 : Int) (t7 : Int) (b0f : Nat → Int) (b1f : Nat → Int) (res : AV)
    (h : (decide (t7 < t6) = true →
    ((0 : Int) ≤ t7 ∧ t7 < (↑bytes.size : Int)) ∧
    ∃ (r : Nat → Int),
    Ok Proofs.Try.prog (30 : Nat)
    [AV.ar (4 : Nat) (1 : Nat) fun (i : Nat) => AV.sc (Value.int IntKind.u64 (b1f i)),
    AV.sc (Value.int IntKind.u8 (↑(byteAt bytes t7.toNat).toNat : Int))]
    [] (AV.ar (4 : Nat) (1 : Nat) fun (i0 : Nat) => AV.sc (Value.int IntKind.u64 (r i0))) [] ∧
    L17_0 bytes t6 (IntKind.i64.wrap (t7 + (1 : Int))) b0f r res) ∧
  (decide (t7 < t6) = false → Sub (AV.ar (4 : Nat) (1 : Nat) fun (i0 : Nat) => AV.sc (Value.int IntKind.u64 (b1f i0))) res)) :
    L17_0 bytes t6 t7 b0f b1f res :=
  rule Go.Am.Seat.tabOk 17 [] Go.Proofs.Try.f17 hf17 [1, 1, 0, 1, 0, 0] (s17_0 bytes t6 t7 b0f b1f) (m17_0 bytes t6 t7 b0f b1f) res [] 400
    ((Orc.call [] [] (fun (r30 : Nat → Int) => AV.ar (4 : Nat) (1 : Nat) fun (i0 : Nat) => AV.sc (Value.int IntKind.u64 (r30 i0))) (fun (r30 : Nat → Int) => [])
    fun (r30 : Nat → Int) =>
    Orc.cut (nat_lit 3) (s17_0 bytes t6 (IntKind.i64.wrap (t7 + (1 : Int))) b0f r30) (m17_0 bytes t6 (IntKind.i64.wrap (t7 + (1 : Int))) b0f r30)
    [((1000 : Nat), some (1000 : Nat)), ((1001 : Nat), some (1001 : Nat))]).br
  (Orc.fin (AV.ar (4 : Nat) (1 : Nat) fun (i0 : Nat) => AV.sc (Value.int IntKind.u64 (b1f i0))) [] [])) _ _ (by kernel_rfl) (by kernel_rfl) (show True ∧
  (decide (t7 < t6) = true →
    True ∧
    True ∧
    ((0 : Nat) = (0 : Nat) ∧ True) ∧
    True ∧
    True ∧
    ((0 : Int) ≤ t7 ∧ t7 < (↑bytes.size : Int)) ∧
    ∃ (r : Nat → Int),
    ((True ∧ True ∧ True) ∧
    True ∧
    Ok Proofs.Try.prog (30 : Nat)
    [AV.ar (4 : Nat) (1 : Nat) fun (i : Nat) => AV.sc (Value.int IntKind.u64 (b1f i)),
    AV.sc (Value.int IntKind.u8 (↑(byteAt bytes t7.toNat).toNat : Int))]
    [] (AV.ar (4 : Nat) (1 : Nat) fun (i0 : Nat) => AV.sc (Value.int IntKind.u64 (r i0))) []) ∧
    ((0 : Nat) = (0 : Nat) ∧ True) ∧
    True ∧
    True ∧
    ((True ∧
    Sub (AV.sc (Value.string bytes)) (AV.sc (Value.string bytes)) ∧
    True ∧
    Sub (AV.pt (1000 : Nat) [] (0 : Nat)) (AV.pt (1000 : Nat) [] (0 : Nat)) ∧
    True ∧
    Sub (AV.pt (1001 : Nat) [] (0 : Nat)) (AV.pt (1001 : Nat) [] (0 : Nat)) ∧
    True ∧
    Sub (AV.sc (Value.int IntKind.i64 t6)) (AV.sc (Value.int IntKind.i64 t6)) ∧
    True ∧
    Sub (AV.sc (Value.int IntKind.i64 (IntKind.i64.wrap (t7 + (1 : Int)))))
    (AV.sc (Value.int IntKind.i64 (IntKind.i64.wrap (t7 + (1 : Int))))) ∧
    True) ∧
    True ∧
    SubB (AV.ar (4 : Nat) (1 : Nat) fun (i0 : Nat) => AV.sc (Value.int IntKind.u64 (b0f i0)))
    (AV.ar (4 : Nat) (1 : Nat) fun (i0 : Nat) => AV.sc (Value.int IntKind.u64 (b0f i0))) ∧
    True ∧
    SubB (AV.ar (4 : Nat) (1 : Nat) fun (i0 : Nat) => AV.sc (Value.int IntKind.u64 (r i0)))
    (AV.ar (4 : Nat) (1 : Nat) fun (i0 : Nat) => AV.sc (Value.int IntKind.u64 (r i0))) ∧
    True) ∧
    L17_0 bytes t6 (IntKind.i64.wrap (t7 + (1 : Int))) b0f r res) ∧
    (decide (t7 < t6) = false →
    ((0 : Nat) = (0 : Nat) ∧ True) ∧
    ((0 : Nat) = (0 : Nat) ∧ True) ∧
    ((0 : Nat) = (0 : Nat) ∧ True) ∧
    ((True ∧
    Sub (AV.ar (4 : Nat) (1 : Nat) fun (i0 : Nat) => AV.sc (Value.int IntKind.u64 (b1f i0)))
    (AV.ar (4 : Nat) (1 : Nat) fun (i0 : Nat) => AV.sc (Value.int IntKind.u64 (b1f i0))) ∧
    True) ∧
    True) ∧
    Sub (AV.ar (4 : Nat) (1 : Nat) fun (i0 : Nat) => AV.sc (Value.int IntKind.u64 (b1f i0))) res ∧ SubOut [] []) from
    ⟨trivial, (And.elim (fun h1 k1 => ⟨(fun x2 => (fun h2 => ⟨trivial, ⟨trivial, ⟨⟨rfl, trivial⟩, ⟨trivial, ⟨trivial, (And.elim (fun h8 k8 => ⟨(And.elim (fun h9 k9 => ⟨h9, k9⟩) h8), (Exists.elim k8 fun x9 h9 => ⟨x9, (And.elim (fun h10 k10 => ⟨⟨⟨trivial, ⟨trivial, trivial⟩⟩, ⟨trivial, h10⟩⟩, ⟨⟨rfl, trivial⟩, ⟨trivial, ⟨trivial, ⟨⟨⟨trivial, ⟨Sub.refl _, ⟨trivial, ⟨Sub.refl _, ⟨trivial, ⟨Sub.refl _, ⟨trivial, ⟨Sub.refl _, ⟨trivial, ⟨Sub.refl _, trivial⟩⟩⟩⟩⟩⟩⟩⟩⟩⟩, ⟨trivial, ⟨SubB.refl _, ⟨trivial, ⟨SubB.refl _, trivial⟩⟩⟩⟩⟩, k10⟩⟩⟩⟩⟩) h9)⟩)⟩) h2)⟩⟩⟩⟩⟩) (h1 x2)), (fun x2 => (fun h2 => ⟨⟨rfl, trivial⟩, ⟨⟨rfl, trivial⟩, ⟨⟨rfl, trivial⟩, ⟨⟨⟨trivial, ⟨Sub.refl _, trivial⟩⟩, trivial⟩, ((fun h7 => ⟨h7, trivial⟩) h2)⟩⟩⟩⟩) (k1 x2))⟩) h)⟩)
theorem hf18 : Go.Proofs.Try.prog.funcs[18]? = some Go.Proofs.Try.f18 := by kernel_rfl
abbrev s18_e (sf : Nat → Int) : List (Nat × AV) := [(0, (.ar 4 1 (fun i0 => (.sc (.int .u64 (sf i0))))))]
abbrev m18_e (sf : Nat → Int) : List (Nat × Nat × AV) := []
def L18_e (sf : Nat → Int) (res : AV) : Prop := Goes ⟨Go.Proofs.Try.prog, 18, [], res, []⟩ (place Go.Proofs.Try.f18 []) (s18_e sf) (m18_e sf)
theorem a18_e (sf : Nat → Int) (res : AV) (h : (∀ slot, fact (look .undef (s18_e sf) slot)) → L18_e sf res) : L18_e sf res :=
  assumeRule 18 [] Go.Proofs.Try.f18 hf18 [] (s18_e sf) (m18_e sf) res [] _ (by kernel_rfl) h
abbrev s18_0 (b : Int) (b0f : Nat → Int) (b1f : Nat → Bool) (b2f : Nat → Bool) : List (Nat × AV) := [(1, (.pt 1000 [] 0)), (2, (.pt 1001 [] 0)), (3, (.pt 1002 [] 0)), (4, (.sc (.int .i64 b)))]
abbrev m18_0 (b : Int) (b0f : Nat → Int) (b1f : Nat → Bool) (b2f : Nat → Bool) : List (Nat × Nat × AV) := [(1000, 24, (.ar 4 1 (fun i0 => (.sc (.int .u64 (b0f i0)))))), (1001, 38, (.ar 256 1 (fun i0 => (.sc (.bool (b1f i0)))))), (1002, 38, (.ar 256 1 (fun i0 => (.sc (.bool (b2f i0))))))]
def L18_0 (b : Int) (b0f : Nat → Int) (b1f : Nat → Bool) (b2f : Nat → Bool) (res : AV) : Prop := Goes ⟨Go.Proofs.Try.prog, 18, [], res, []⟩ (place Go.Proofs.Try.f18 [1, 1, 0, 1, 0, 0]) (s18_0 b b0f b1f b2f) (m18_0 b b0f b1f b2f)
theorem a18_0 (b : Int) (b0f : Nat → Int) (b1f : Nat → Bool) (b2f : Nat → Bool) (res : AV) (h : (∀ slot, fact (look .undef (s18_0 b b0f b1f b2f) slot)) → L18_0 b b0f b1f b2f res) : L18_0 b b0f b1f b2f res :=
  assumeRule 18 [] Go.Proofs.Try.f18 hf18 [1, 1, 0, 1, 0, 0] (s18_0 b b0f b1f b2f) (m18_0 b b0f b1f b2f) res [] _ (by kernel_rfl) h
abbrev s18_1 (b : Int) (w : Int) (i : Int) (b0f : Nat → Int) (b1f : Nat → Bool) (b2f : Nat → Bool) : List (Nat × AV) := [(1, (.pt 1000 [] 0)), (2, (.pt 1001 [] 0)), (3, (.pt 1002 [] 0)), (4, (.sc (.int .i64 b))), (5, (.sc (.int .u64 w))), (6, (.sc (.int .i64 i)))]
abbrev m18_1 (b : Int) (w : Int) (i : Int) (b0f : Nat → Int) (b1f : Nat → Bool) (b2f : Nat → Bool) : List (Nat × Nat × AV) := [(1000, 24, (.ar 4 1 (fun i0 => (.sc (.int .u64 (b0f i0)))))), (1001, 38, (.ar 256 1 (fun i0 => (.sc (.bool (b1f i0)))))), (1002, 38, (.ar 256 1 (fun i0 => (.sc (.bool (b2f i0))))))]
def L18_1 (b : Int) (w : Int) (i : Int) (b0f : Nat → Int) (b1f : Nat → Bool) (b2f : Nat → Bool) (res : AV) : Prop := Goes ⟨Go.Proofs.Try.prog, 18, [], res, []⟩ (place Go.Proofs.Try.f18 [1, 1, 0, 1, 0, 0, 1, 0, 0, 1, 0, 1, 0, 0]) (s18_1 b w i b0f b1f b2f) (m18_1 b w i b0f b1f b2f)
theorem a18_1 (b : Int) (w : Int) (i : Int) (b0f : Nat → Int) (b1f : Nat → Bool) (b2f : Nat → Bool) (res : AV) (h : (∀ slot, fact (look .undef (s18_1 b w i b0f b1f b2f) slot)) → L18_1 b w i b0f b1f b2f res) : L18_1 b w i b0f b1f b2f res :=
  assumeRule 18 [] Go.Proofs.Try.f18 hf18 [1, 1, 0, 1, 0, 0, 1, 0, 0, 1, 0, 1, 0, 0] (s18_1 b w i b0f b1f b2f) (m18_1 b w i b0f b1f b2f) res [] _ (by kernel_rfl) h
theorem o18 (sf : Nat → Int) (res : AV) (hnew : newOnly res) (h : L18_e sf res) : Ok Go.Proofs.Try.prog 18 [(.ar 4 1 (fun i0 => (.sc (.int .u64 (sf i0)))))] [] res [] :=
  okRule2 18 Go.Proofs.Try.f18 hf18 [(.ar 4 1 (fun i0 => (.sc (.int .u64 (sf i0)))))] [] res [] [] rfl (by kernel_rfl) (by kernel_rfl) (by kernel_rfl) ⟨hnew, by simp⟩ (L18_e sf res) (by kernel_rfl) h
theorem r18_e (sf : Nat → Int) (res : AV)
    (h : L18_0 (0 : Int) sf (fun (x : Nat) => false) (fun (x : Nat) => false) res) :
    L18_e sf res :=
  rule Go.Am.Seat.tabOk 18 [] Go.Proofs.Try.f18 hf18 [] (s18_e sf) (m18_e sf) res [] 400
    (Orc.cut (nat_lit 9) (s18_0 (0 : Int) sf (fun (x : Nat) => false) fun (x : Nat) => false) (m18_0 (0 : Int) sf (fun (x : Nat) => false) fun (x : Nat) => false)
  [((1000 : Nat), some (1 : Nat)), ((1001 : Nat), some (2 : Nat)), ((1002 : Nat), some (3 : Nat))]) _ _ (by kernel_rfl) (by kernel_rfl) (show True ∧
  True ∧
    True ∧
    True ∧
    ((True ∧
    Sub (AV.pt (1000 : Nat) [] (0 : Nat)) (AV.pt (1000 : Nat) [] (0 : Nat)) ∧
    True ∧
    Sub (AV.pt (1001 : Nat) [] (0 : Nat)) (AV.pt (1001 : Nat) [] (0 : Nat)) ∧
    True ∧
    Sub (AV.pt (1002 : Nat) [] (0 : Nat)) (AV.pt (1002 : Nat) [] (0 : Nat)) ∧
    True ∧ Sub (AV.sc (Value.int IntKind.i64 (0 : Int))) (AV.sc (Value.int IntKind.i64 (0 : Int))) ∧ True) ∧
    True ∧
    SubB (AV.ar (4 : Nat) (1 : Nat) fun (i0 : Nat) => AV.sc (Value.int IntKind.u64 (sf i0)))
    (AV.ar (4 : Nat) (1 : Nat) fun (i0 : Nat) => AV.sc (Value.int IntKind.u64 (sf i0))) ∧
    True ∧
    SubB (AV.ar (256 : Nat) (1 : Nat) fun (x : Nat) => AV.sc (Value.bool false))
    (AV.ar (256 : Nat) (1 : Nat) fun (i0 : Nat) => AV.sc (Value.bool false)) ∧
    True ∧
    SubB (AV.ar (256 : Nat) (1 : Nat) fun (x : Nat) => AV.sc (Value.bool false))
    (AV.ar (256 : Nat) (1 : Nat) fun (i0 : Nat) => AV.sc (Value.bool false)) ∧
    True) ∧
    L18_0 (0 : Int) sf (fun (x : Nat) => false) (fun (x : Nat) => false) res from
    ⟨trivial, ⟨trivial, ⟨trivial, ⟨trivial, ⟨⟨⟨trivial, ⟨Sub.refl _, ⟨trivial, ⟨Sub.refl _, ⟨trivial, ⟨Sub.refl _, ⟨trivial, ⟨Sub.refl _, trivial⟩⟩⟩⟩⟩⟩⟩⟩, ⟨trivial, ⟨SubB.refl _, ⟨trivial, ⟨SubB.refl _, ⟨trivial, ⟨SubB.refl _, trivial⟩⟩⟩⟩⟩⟩⟩, h⟩⟩⟩⟩⟩)
theorem r18_0 (b : Int) (b0f : Nat → Int) (b1f : Nat → Bool) (b2f : Nat → Bool) (res : AV)
    (h : (decide (b < (256 : Int)) = true →
    ((0 : Int) ≤ IntKind.i64.wrap (b.tdiv (64 : Int)) ∧ IntKind.i64.wrap (b.tdiv (64 : Int)) < (↑(4 : Nat) : Int)) ∧
    (IntKind.i64.wrap (b.tdiv (64 : Int))).toNat < (4 : Nat) ∧ L18_1 b (b0f (IntKind.i64.wrap (b.tdiv (64 : Int))).toNat) (0 : Int) b0f b1f b2f res) ∧
  (decide (b < (256 : Int)) = false → Sub (AV.ar (256 : Nat) (1 : Nat) fun (i0 : Nat) => AV.sc (Value.bool (b2f i0))) res)) :
    L18_0 b b0f b1f b2f res :=
  rule Go.Am.Seat.tabOk 18 [] Go.Proofs.Try.f18 hf18 [1, 1, 0, 1, 0, 0] (s18_0 b b0f b1f b2f) (m18_0 b b0f b1f b2f) res [] 400
    ((Orc.cut (nat_lit 10) (s18_1 b (b0f (IntKind.i64.wrap (b.tdiv (64 : Int))).toNat) (0 : Int) b0f b1f b2f)
    (m18_1 b (b0f (IntKind.i64.wrap (b.tdiv (64 : Int))).toNat) (0 : Int) b0f b1f b2f)
    [((1000 : Nat), some (1000 : Nat)), ((1001 : Nat), some (1001 : Nat)), ((1002 : Nat), some (1002 : Nat))]).br
  (Orc.fin (AV.ar (256 : Nat) (1 : Nat) fun (i0 : Nat) => AV.sc (Value.bool (b2f i0))) [] [])) _ _ (by kernel_rfl) (by kernel_rfl) (show True ∧
  True ∧
    (decide (b < (256 : Int)) = true →
    True ∧
    (64 : Int) ≠ (0 : Int) ∧
    ((0 : Int) ≤ IntKind.i64.wrap (b.tdiv (64 : Int)) ∧ IntKind.i64.wrap (b.tdiv (64 : Int)) < (↑(4 : Nat) : Int)) ∧
    ((IntKind.i64.wrap (b.tdiv (64 : Int))).toNat * (1 : Nat) + (0 : Nat) =
    plus (0 : Nat) ((IntKind.i64.wrap (b.tdiv (64 : Int))).toNat * (1 : Nat)) ∧
    (IntKind.i64.wrap (b.tdiv (64 : Int))).toNat < (4 : Nat) ∧ True) ∧
    True ∧
    True ∧
    ((True ∧
    Sub (AV.pt (1000 : Nat) [] (0 : Nat)) (AV.pt (1000 : Nat) [] (0 : Nat)) ∧
    True ∧
    Sub (AV.pt (1001 : Nat) [] (0 : Nat)) (AV.pt (1001 : Nat) [] (0 : Nat)) ∧
    True ∧
    Sub (AV.pt (1002 : Nat) [] (0 : Nat)) (AV.pt (1002 : Nat) [] (0 : Nat)) ∧
    True ∧
    Sub (AV.sc (Value.int IntKind.i64 b)) (AV.sc (Value.int IntKind.i64 b)) ∧
    True ∧
    Sub (AV.sc (Value.int IntKind.u64 (b0f (IntKind.i64.wrap (b.tdiv (64 : Int))).toNat)))
    (AV.sc (Value.int IntKind.u64 (b0f (IntKind.i64.wrap (b.tdiv (64 : Int))).toNat))) ∧
    True ∧ Sub (AV.sc (Value.int IntKind.i64 (0 : Int))) (AV.sc (Value.int IntKind.i64 (0 : Int))) ∧ True) ∧
    True ∧
    SubB (AV.ar (4 : Nat) (1 : Nat) fun (i0 : Nat) => AV.sc (Value.int IntKind.u64 (b0f i0)))
    (AV.ar (4 : Nat) (1 : Nat) fun (i0 : Nat) => AV.sc (Value.int IntKind.u64 (b0f i0))) ∧
    True ∧
    SubB (AV.ar (256 : Nat) (1 : Nat) fun (i0 : Nat) => AV.sc (Value.bool (b1f i0)))
    (AV.ar (256 : Nat) (1 : Nat) fun (i0 : Nat) => AV.sc (Value.bool (b1f i0))) ∧
    True ∧
    SubB (AV.ar (256 : Nat) (1 : Nat) fun (i0 : Nat) => AV.sc (Value.bool (b2f i0)))
    (AV.ar (256 : Nat) (1 : Nat) fun (i0 : Nat) => AV.sc (Value.bool (b2f i0))) ∧
    True) ∧
    L18_1 b (b0f (IntKind.i64.wrap (b.tdiv (64 : Int))).toNat) (0 : Int) b0f b1f b2f res) ∧
    (decide (b < (256 : Int)) = false →
    ((0 : Nat) = (0 : Nat) ∧ True) ∧
    ((0 : Nat) = (0 : Nat) ∧ True) ∧
    ((0 : Nat) = (0 : Nat) ∧ True) ∧
    ((True ∧
    Sub (AV.ar (256 : Nat) (1 : Nat) fun (i0 : Nat) => AV.sc (Value.bool (b2f i0)))
    (AV.ar (256 : Nat) (1 : Nat) fun (i0 : Nat) => AV.sc (Value.bool (b2f i0))) ∧
    True) ∧
    True) ∧
    Sub (AV.ar (256 : Nat) (1 : Nat) fun (i0 : Nat) => AV.sc (Value.bool (b2f i0))) res ∧ SubOut [] []) from
    ⟨trivial, ⟨trivial, (And.elim (fun h2 k2 => ⟨(fun x3 => (fun h3 => ⟨trivial, ⟨(by decide), (And.elim (fun h6 k6 => ⟨(And.elim (fun h7 k7 => ⟨h7, k7⟩) h6), (And.elim (fun h7 k7 => ⟨⟨rfl, ((fun h9 => ⟨h9, trivial⟩) h7)⟩, ⟨trivial, ⟨trivial, ⟨⟨⟨trivial, ⟨Sub.refl _, ⟨trivial, ⟨Sub.refl _, ⟨trivial, ⟨Sub.refl _, ⟨trivial, ⟨Sub.refl _, ⟨trivial, ⟨Sub.refl _, ⟨trivial, ⟨Sub.refl _, trivial⟩⟩⟩⟩⟩⟩⟩⟩⟩⟩⟩⟩, ⟨trivial, ⟨SubB.refl _, ⟨trivial, ⟨SubB.refl _, ⟨trivial, ⟨SubB.refl _, trivial⟩⟩⟩⟩⟩⟩⟩, k7⟩⟩⟩⟩) k6)⟩) h3)⟩⟩) (h2 x3)), (fun x3 => (fun h3 => ⟨⟨rfl, trivial⟩, ⟨⟨rfl, trivial⟩, ⟨⟨rfl, trivial⟩, ⟨⟨⟨trivial, ⟨Sub.refl _, trivial⟩⟩, trivial⟩, ((fun h8 => ⟨h8, trivial⟩) h3)⟩⟩⟩⟩) (k2 x3))⟩) h)⟩⟩)
theorem r18_1 (b : Int) (w : Int) (i : Int) (b0f : Nat → Int) (b1f : Nat → Bool) (b2f : Nat → Bool) (res : AV)
    (h : (decide (i < b.tmod (64 : Int)) = true → L18_1 b (IntKind.u64.wrap (w.tdiv (2 : Int))) (IntKind.i64.wrap (i + (1 : Int))) b0f b1f b2f res) ∧
  (decide (i < b.tmod (64 : Int)) = false →
    ((0 : Int) ≤ b ∧ b < (↑(256 : Nat) : Int)) ∧
    b.toNat < (256 : Nat) ∧
    L18_0 (IntKind.i64.wrap (b + (1 : Int))) b0f b1f (fun (i : Nat) => bif i.beq b.toNat then w.tmod (2 : Int) == (1 : Int) else b2f i) res)) :
    L18_1 b w i b0f b1f b2f res :=
  rule Go.Am.Seat.tabOk 18 [] Go.Proofs.Try.f18 hf18 [1, 1, 0, 1, 0, 0, 1, 0, 0, 1, 0, 1, 0, 0] (s18_1 b w i b0f b1f b2f) (m18_1 b w i b0f b1f b2f) res [] 400
    ((Orc.cut (nat_lit 7) (s18_1 b (IntKind.u64.wrap (w.tdiv (2 : Int))) (IntKind.i64.wrap (i + (1 : Int))) b0f b1f b2f)
    (m18_1 b (IntKind.u64.wrap (w.tdiv (2 : Int))) (IntKind.i64.wrap (i + (1 : Int))) b0f b1f b2f)
    [((1000 : Nat), some (1000 : Nat)), ((1001 : Nat), some (1001 : Nat)), ((1002 : Nat), some (1002 : Nat))]).br
  (Orc.cut (nat_lit 5) (s18_0 (IntKind.i64.wrap (b + (1 : Int))) b0f b1f fun (i : Nat) => bif i.beq b.toNat then w.tmod (2 : Int) == (1 : Int) else b2f i)
    (m18_0 (IntKind.i64.wrap (b + (1 : Int))) b0f b1f fun (i : Nat) => bif i.beq b.toNat then w.tmod (2 : Int) == (1 : Int) else b2f i)
    [((1000 : Nat), some (1000 : Nat)), ((1001 : Nat), some (1001 : Nat)), ((1002 : Nat), some (1002 : Nat))])) _ _ (by kernel_rfl) (by kernel_rfl) (show True ∧
  True ∧
    (64 : Int) ≠ (0 : Int) ∧
    True ∧
    (decide (i < b.tmod (64 : Int)) = true →
    True ∧
    (2 : Int) ≠ (0 : Int) ∧
    True ∧
    True ∧
    True ∧
    True ∧
    ((True ∧
    Sub (AV.pt (1000 : Nat) [] (0 : Nat)) (AV.pt (1000 : Nat) [] (0 : Nat)) ∧
    True ∧
    Sub (AV.pt (1001 : Nat) [] (0 : Nat)) (AV.pt (1001 : Nat) [] (0 : Nat)) ∧
    True ∧
    Sub (AV.pt (1002 : Nat) [] (0 : Nat)) (AV.pt (1002 : Nat) [] (0 : Nat)) ∧
    True ∧
    Sub (AV.sc (Value.int IntKind.i64 b)) (AV.sc (Value.int IntKind.i64 b)) ∧
    True ∧
    Sub (AV.sc (Value.int IntKind.u64 (IntKind.u64.wrap (w.tdiv (2 : Int)))))
    (AV.sc (Value.int IntKind.u64 (IntKind.u64.wrap (w.tdiv (2 : Int))))) ∧
    True ∧
    Sub (AV.sc (Value.int IntKind.i64 (IntKind.i64.wrap (i + (1 : Int)))))
    (AV.sc (Value.int IntKind.i64 (IntKind.i64.wrap (i + (1 : Int))))) ∧
    True) ∧
    True ∧
    SubB (AV.ar (4 : Nat) (1 : Nat) fun (i0 : Nat) => AV.sc (Value.int IntKind.u64 (b0f i0)))
    (AV.ar (4 : Nat) (1 : Nat) fun (i0 : Nat) => AV.sc (Value.int IntKind.u64 (b0f i0))) ∧
    True ∧
    SubB (AV.ar (256 : Nat) (1 : Nat) fun (i0 : Nat) => AV.sc (Value.bool (b1f i0)))
    (AV.ar (256 : Nat) (1 : Nat) fun (i0 : Nat) => AV.sc (Value.bool (b1f i0))) ∧
    True ∧
    SubB (AV.ar (256 : Nat) (1 : Nat) fun (i0 : Nat) => AV.sc (Value.bool (b2f i0)))
    (AV.ar (256 : Nat) (1 : Nat) fun (i0 : Nat) => AV.sc (Value.bool (b2f i0))) ∧
    True) ∧
    L18_1 b (IntKind.u64.wrap (w.tdiv (2 : Int))) (IntKind.i64.wrap (i + (1 : Int))) b0f b1f b2f res) ∧
    (decide (i < b.tmod (64 : Int)) = false →
    True ∧
    True ∧
    (2 : Int) ≠ (0 : Int) ∧
    True ∧
    ((0 : Int) ≤ b ∧ b < (↑(256 : Nat) : Int)) ∧
    (b.toNat * (1 : Nat) + (0 : Nat) = plus (0 : Nat) (b.toNat * (1 : Nat)) ∧ (b.toNat < (256 : Nat) ∧ True) ∧ True) ∧
    True ∧
    True ∧
    True ∧
    ((True ∧
    Sub (AV.pt (1000 : Nat) [] (0 : Nat)) (AV.pt (1000 : Nat) [] (0 : Nat)) ∧
    True ∧
    Sub (AV.pt (1001 : Nat) [] (0 : Nat)) (AV.pt (1001 : Nat) [] (0 : Nat)) ∧
    True ∧
    Sub (AV.pt (1002 : Nat) [] (0 : Nat)) (AV.pt (1002 : Nat) [] (0 : Nat)) ∧
    True ∧
    Sub (AV.sc (Value.int IntKind.i64 (IntKind.i64.wrap (b + (1 : Int)))))
    (AV.sc (Value.int IntKind.i64 (IntKind.i64.wrap (b + (1 : Int))))) ∧
    True) ∧
    True ∧
    SubB (AV.ar (4 : Nat) (1 : Nat) fun (i0 : Nat) => AV.sc (Value.int IntKind.u64 (b0f i0)))
    (AV.ar (4 : Nat) (1 : Nat) fun (i0 : Nat) => AV.sc (Value.int IntKind.u64 (b0f i0))) ∧
    True ∧
    SubB (AV.ar (256 : Nat) (1 : Nat) fun (i0 : Nat) => AV.sc (Value.bool (b1f i0)))
    (AV.ar (256 : Nat) (1 : Nat) fun (i0 : Nat) => AV.sc (Value.bool (b1f i0))) ∧
    True ∧
    SubB
    (AV.ar (256 : Nat) (1 : Nat) fun (i : Nat) =>
    AV.sc (Value.bool (bif i.beq b.toNat then w.tmod (2 : Int) == (1 : Int) else b2f i)))
    (AV.ar (256 : Nat) (1 : Nat) fun (i0 : Nat) =>
    AV.sc (Value.bool (bif i0.beq b.toNat then w.tmod (2 : Int) == (1 : Int) else b2f i0))) ∧
    True) ∧
    L18_0 (IntKind.i64.wrap (b + (1 : Int))) b0f b1f
    (fun (i : Nat) => bif i.beq b.toNat then w.tmod (2 : Int) == (1 : Int) else b2f i) res) from
    ⟨trivial, ⟨trivial, ⟨(by decide), ⟨trivial, (And.elim (fun h4 k4 => ⟨(fun x5 => (fun h5 => ⟨trivial, ⟨(by decide), ⟨trivial, ⟨trivial, ⟨trivial, ⟨trivial, ⟨⟨⟨trivial, ⟨Sub.refl _, ⟨trivial, ⟨Sub.refl _, ⟨trivial, ⟨Sub.refl _, ⟨trivial, ⟨Sub.refl _, ⟨trivial, ⟨Sub.refl _, ⟨trivial, ⟨Sub.refl _, trivial⟩⟩⟩⟩⟩⟩⟩⟩⟩⟩⟩⟩, ⟨trivial, ⟨SubB.refl _, ⟨trivial, ⟨SubB.refl _, ⟨trivial, ⟨SubB.refl _, trivial⟩⟩⟩⟩⟩⟩⟩, h5⟩⟩⟩⟩⟩⟩⟩) (h4 x5)), (fun x5 => (fun h5 => ⟨trivial, ⟨trivial, ⟨(by decide), ⟨trivial, (And.elim (fun h10 k10 => ⟨(And.elim (fun h11 k11 => ⟨h11, k11⟩) h10), (And.elim (fun h11 k11 => ⟨⟨rfl, ((fun h13 => ⟨((fun h14 => ⟨h14, trivial⟩) h13), trivial⟩) h11)⟩, ⟨trivial, ⟨trivial, ⟨trivial, ⟨⟨⟨trivial, ⟨Sub.refl _, ⟨trivial, ⟨Sub.refl _, ⟨trivial, ⟨Sub.refl _, ⟨trivial, ⟨Sub.refl _, trivial⟩⟩⟩⟩⟩⟩⟩⟩, ⟨trivial, ⟨SubB.refl _, ⟨trivial, ⟨SubB.refl _, ⟨trivial, ⟨SubB.refl _, trivial⟩⟩⟩⟩⟩⟩⟩, k11⟩⟩⟩⟩⟩) k10)⟩) h5)⟩⟩⟩⟩) (k4 x5))⟩) h)⟩⟩⟩⟩)
theorem hf19 : Go.Proofs.Try.prog.funcs[19]? = some Go.Proofs.Try.f19 := by kernel_rfl
abbrev s19_e (ff : Nat → Bool) : List (Nat × AV) := [(0, (.ar 256 1 (fun i0 => (.sc (.bool (ff i0))))))]
abbrev m19_e (ff : Nat → Bool) : List (Nat × Nat × AV) := []
def L19_e (ff : Nat → Bool) (res : AV) : Prop := Goes ⟨Go.Proofs.Try.prog, 19, [], res, []⟩ (place Go.Proofs.Try.f19 []) (s19_e ff) (m19_e ff)
theorem a19_e (ff : Nat → Bool) (res : AV) (h : (∀ slot, fact (look .undef (s19_e ff) slot)) → L19_e ff res) : L19_e ff res :=
  assumeRule 19 [] Go.Proofs.Try.f19 hf19 [] (s19_e ff) (m19_e ff) res [] _ (by kernel_rfl) h
abbrev s19_0 (n : Int) (b : Int) (b0f : Nat → Bool) : List (Nat × AV) := [(1, (.pt 1000 [] 0)), (3, (.sc (.int .i64 n))), (4, (.sc (.int .i64 b)))]
abbrev m19_0 (n : Int) (b : Int) (b0f : Nat → Bool) : List (Nat × Nat × AV) := [(1000, 38, (.ar 256 1 (fun i0 => (.sc (.bool (b0f i0))))))]
def L19_0 (n : Int) (b : Int) (b0f : Nat → Bool) (res : AV) : Prop := Goes ⟨Go.Proofs.Try.prog, 19, [], res, []⟩ (place Go.Proofs.Try.f19 [1, 1, 0, 1, 0, 0]) (s19_0 n b b0f) (m19_0 n b b0f)
theorem a19_0 (n : Int) (b : Int) (b0f : Nat → Bool) (res : AV) (h : (∀ slot, fact (look .undef (s19_0 n b b0f) slot)) → L19_0 n b b0f res) : L19_0 n b b0f res :=
  assumeRule 19 [] Go.Proofs.Try.f19 hf19 [1, 1, 0, 1, 0, 0] (s19_0 n b b0f) (m19_0 n b b0f) res [] _ (by kernel_rfl) h
abbrev s19_1 (n : Int) (b : Int) (b0f : Nat → Bool) : List (Nat × AV) := [(1, (.pt 1000 [] 0)), (3, (.sc (.int .i64 n))), (4, (.sc (.int .i64 b)))]
abbrev m19_1 (n : Int) (b : Int) (b0f : Nat → Bool) : List (Nat × Nat × AV) := [(1000, 38, (.ar 256 1 (fun i0 => (.sc (.bool (b0f i0))))))]
def L19_1 (n : Int) (b : Int) (b0f : Nat → Bool) (res : AV) : Prop := Goes ⟨Go.Proofs.Try.prog, 19, [], res, []⟩ (place Go.Proofs.Try.f19 [1, 1, 0, 1, 0, 0, 1, 1]) (s19_1 n b b0f) (m19_1 n b b0f)
theorem a19_1 (n : Int) (b : Int) (b0f : Nat → Bool) (res : AV) (h : (∀ slot, fact (look .undef (s19_1 n b b0f) slot)) → L19_1 n b b0f res) : L19_1 n b b0f res :=
  assumeRule 19 [] Go.Proofs.Try.f19 hf19 [1, 1, 0, 1, 0, 0, 1, 1] (s19_1 n b b0f) (m19_1 n b b0f) res [] _ (by kernel_rfl) h
theorem o19 (ff : Nat → Bool) (res : AV) (hnew : newOnly res) (h : L19_e ff res) : Ok Go.Proofs.Try.prog 19 [(.ar 256 1 (fun i0 => (.sc (.bool (ff i0)))))] [] res [] :=
  okRule2 19 Go.Proofs.Try.f19 hf19 [(.ar 256 1 (fun i0 => (.sc (.bool (ff i0)))))] [] res [] [] rfl (by kernel_rfl) (by kernel_rfl) (by kernel_rfl) ⟨hnew, by simp⟩ (L19_e ff res) (by kernel_rfl) h
theorem r19_e (ff : Nat → Bool) (res : AV)
    (h : L19_0 (0 : Int) (0 : Int) ff res) :
    L19_e ff res :=
  rule Go.Am.Seat.tabOk 19 [] Go.Proofs.Try.f19 hf19 [] (s19_e ff) (m19_e ff) res [] 400
    (Orc.cut (nat_lit 9) (s19_0 (0 : Int) (0 : Int) ff) (m19_0 (0 : Int) (0 : Int) ff) [((1000 : Nat), some (1 : Nat))]) _ _ (by kernel_rfl) (by kernel_rfl) (show True ∧
  True ∧
    True ∧
    True ∧
    ((True ∧
    Sub (AV.pt (1000 : Nat) [] (0 : Nat)) (AV.pt (1000 : Nat) [] (0 : Nat)) ∧
    True ∧
    Sub (AV.sc (Value.int IntKind.i64 (0 : Int))) (AV.sc (Value.int IntKind.i64 (0 : Int))) ∧
    True ∧ Sub (AV.sc (Value.int IntKind.i64 (0 : Int))) (AV.sc (Value.int IntKind.i64 (0 : Int))) ∧ True) ∧
    True ∧
    SubB (AV.ar (256 : Nat) (1 : Nat) fun (i0 : Nat) => AV.sc (Value.bool (ff i0)))
    (AV.ar (256 : Nat) (1 : Nat) fun (i0 : Nat) => AV.sc (Value.bool (ff i0))) ∧
    True) ∧
    L19_0 (0 : Int) (0 : Int) ff res from
    ⟨trivial, ⟨trivial, ⟨trivial, ⟨trivial, ⟨⟨⟨trivial, ⟨Sub.refl _, ⟨trivial, ⟨Sub.refl _, ⟨trivial, ⟨Sub.refl _, trivial⟩⟩⟩⟩⟩⟩, ⟨trivial, ⟨SubB.refl _, trivial⟩⟩⟩, h⟩⟩⟩⟩⟩)
theorem r19_0 (n : Int) (b : Int) (b0f : Nat → Bool) (res : AV)
    (h : (decide (b < (256 : Int)) = true →
    ((0 : Int) ≤ b ∧ b < (↑(256 : Nat) : Int)) ∧
    b.toNat < (256 : Nat) ∧ (b0f b.toNat = true → L19_1 (IntKind.i64.wrap (n + (1 : Int))) b b0f res) ∧ (b0f b.toNat = false → L19_1 n b b0f res)) ∧
  (decide (b < (256 : Int)) = false → Sub (AV.sc (Value.int IntKind.i64 n)) res)) :
    L19_0 n b b0f res :=
  rule Go.Am.Seat.tabOk 19 [] Go.Proofs.Try.f19 hf19 [1, 1, 0, 1, 0, 0] (s19_0 n b b0f) (m19_0 n b b0f) res [] 400
    (((Orc.cut (nat_lit 2) (s19_1 (IntKind.i64.wrap (n + (1 : Int))) b b0f) (m19_1 (IntKind.i64.wrap (n + (1 : Int))) b b0f) [((1000 : Nat), some (1000 : Nat))]).br
    (Orc.cut (nat_lit 2) (s19_1 n b b0f) (m19_1 n b b0f) [((1000 : Nat), some (1000 : Nat))])).br
  (Orc.fin (AV.sc (Value.int IntKind.i64 n)) [] [])) _ _ (by kernel_rfl) (by kernel_rfl) (show True ∧
  True ∧
    (decide (b < (256 : Int)) = true →
    True ∧
    ((0 : Int) ≤ b ∧ b < (↑(256 : Nat) : Int)) ∧
    (b.toNat * (1 : Nat) + (0 : Nat) = plus (0 : Nat) (b.toNat * (1 : Nat)) ∧ b.toNat < (256 : Nat) ∧ True) ∧
    (b0f b.toNat = true →
    True ∧
    True ∧
    True ∧
    ((True ∧
    Sub (AV.pt (1000 : Nat) [] (0 : Nat)) (AV.pt (1000 : Nat) [] (0 : Nat)) ∧
    True ∧
    Sub (AV.sc (Value.int IntKind.i64 (IntKind.i64.wrap (n + (1 : Int)))))
    (AV.sc (Value.int IntKind.i64 (IntKind.i64.wrap (n + (1 : Int))))) ∧
    True ∧ Sub (AV.sc (Value.int IntKind.i64 b)) (AV.sc (Value.int IntKind.i64 b)) ∧ True) ∧
    True ∧
    SubB (AV.ar (256 : Nat) (1 : Nat) fun (i0 : Nat) => AV.sc (Value.bool (b0f i0)))
    (AV.ar (256 : Nat) (1 : Nat) fun (i0 : Nat) => AV.sc (Value.bool (b0f i0))) ∧
    True) ∧
    L19_1 (IntKind.i64.wrap (n + (1 : Int))) b b0f res) ∧
    (b0f b.toNat = false →
    ((True ∧
    Sub (AV.pt (1000 : Nat) [] (0 : Nat)) (AV.pt (1000 : Nat) [] (0 : Nat)) ∧
    True ∧
    Sub (AV.sc (Value.int IntKind.i64 n)) (AV.sc (Value.int IntKind.i64 n)) ∧
    True ∧ Sub (AV.sc (Value.int IntKind.i64 b)) (AV.sc (Value.int IntKind.i64 b)) ∧ True) ∧
    True ∧
    SubB (AV.ar (256 : Nat) (1 : Nat) fun (i0 : Nat) => AV.sc (Value.bool (b0f i0)))
    (AV.ar (256 : Nat) (1 : Nat) fun (i0 : Nat) => AV.sc (Value.bool (b0f i0))) ∧
    True) ∧
    L19_1 n b b0f res)) ∧
    (decide (b < (256 : Int)) = false →
    True ∧
    True ∧
    True ∧
    ((True ∧ Sub (AV.sc (Value.int IntKind.i64 n)) (AV.sc (Value.int IntKind.i64 n)) ∧ True) ∧ True) ∧
    Sub (AV.sc (Value.int IntKind.i64 n)) res ∧ SubOut [] []) from
    ⟨trivial, ⟨trivial, (And.elim (fun h2 k2 => ⟨(fun x3 => (fun h3 => ⟨trivial, (And.elim (fun h5 k5 => ⟨(And.elim (fun h6 k6 => ⟨h6, k6⟩) h5), (And.elim (fun h6 k6 => ⟨⟨rfl, ((fun h8 => ⟨h8, trivial⟩) h6)⟩, (And.elim (fun h7 k7 => ⟨(fun x8 => (fun h8 => ⟨trivial, ⟨trivial, ⟨trivial, ⟨⟨⟨trivial, ⟨Sub.refl _, ⟨trivial, ⟨Sub.refl _, ⟨trivial, ⟨Sub.refl _, trivial⟩⟩⟩⟩⟩⟩, ⟨trivial, ⟨SubB.refl _, trivial⟩⟩⟩, h8⟩⟩⟩⟩) (h7 x8)), (fun x8 => (fun h8 => ⟨⟨⟨trivial, ⟨Sub.refl _, ⟨trivial, ⟨Sub.refl _, ⟨trivial, ⟨Sub.refl _, trivial⟩⟩⟩⟩⟩⟩, ⟨trivial, ⟨SubB.refl _, trivial⟩⟩⟩, h8⟩) (k7 x8))⟩) k6)⟩) k5)⟩) h3)⟩) (h2 x3)), (fun x3 => (fun h3 => ⟨trivial, ⟨trivial, ⟨trivial, ⟨⟨⟨trivial, ⟨Sub.refl _, trivial⟩⟩, trivial⟩, ((fun h8 => ⟨h8, trivial⟩) h3)⟩⟩⟩⟩) (k2 x3))⟩) h)⟩⟩)
theorem r19_1 (n : Int) (b : Int) (b0f : Nat → Bool) (res : AV)
    (h : L19_0 n (IntKind.i64.wrap (b + (1 : Int))) b0f res) :
    L19_1 n b b0f res :=
  rule Go.Am.Seat.tabOk 19 [] Go.Proofs.Try.f19 hf19 [1, 1, 0, 1, 0, 0, 1, 1] (s19_1 n b b0f) (m19_1 n b b0f) res [] 400
    (Orc.cut (nat_lit 2) (s19_0 n (IntKind.i64.wrap (b + (1 : Int))) b0f) (m19_0 n (IntKind.i64.wrap (b + (1 : Int))) b0f) [((1000 : Nat), some (1000 : Nat))]) _ _ (by kernel_rfl) (by kernel_rfl) (show True ∧
  True ∧
    True ∧
    ((True ∧
    Sub (AV.pt (1000 : Nat) [] (0 : Nat)) (AV.pt (1000 : Nat) [] (0 : Nat)) ∧
    True ∧
    Sub (AV.sc (Value.int IntKind.i64 n)) (AV.sc (Value.int IntKind.i64 n)) ∧
    True ∧
    Sub (AV.sc (Value.int IntKind.i64 (IntKind.i64.wrap (b + (1 : Int))))) (AV.sc (Value.int IntKind.i64 (IntKind.i64.wrap (b + (1 : Int))))) ∧
    True) ∧
    True ∧
    SubB (AV.ar (256 : Nat) (1 : Nat) fun (i0 : Nat) => AV.sc (Value.bool (b0f i0)))
    (AV.ar (256 : Nat) (1 : Nat) fun (i0 : Nat) => AV.sc (Value.bool (b0f i0))) ∧
    True) ∧
    L19_0 n (IntKind.i64.wrap (b + (1 : Int))) b0f res from
    ⟨trivial, ⟨trivial, ⟨trivial, ⟨⟨⟨trivial, ⟨Sub.refl _, ⟨trivial, ⟨Sub.refl _, ⟨trivial, ⟨Sub.refl _, trivial⟩⟩⟩⟩⟩⟩, ⟨trivial, ⟨SubB.refl _, trivial⟩⟩⟩, h⟩⟩⟩⟩)
theorem hf20 : Go.Proofs.Try.prog.funcs[20]? = some Go.Proofs.Try.f20 := by kernel_rfl
abbrev s20_e (ff : Nat → Bool) : List (Nat × AV) := [(0, (.ar 256 1 (fun i0 => (.sc (.bool (ff i0))))))]
abbrev m20_e (ff : Nat → Bool) : List (Nat × Nat × AV) := []
def L20_e (ff : Nat → Bool) (res : AV) : Prop := Goes ⟨Go.Proofs.Try.prog, 20, [], res, []⟩ (place Go.Proofs.Try.f20 []) (s20_e ff) (m20_e ff)
theorem a20_e (ff : Nat → Bool) (res : AV) (h : (∀ slot, fact (look .undef (s20_e ff) slot)) → L20_e ff res) : L20_e ff res :=
  assumeRule 20 [] Go.Proofs.Try.f20 hf20 [] (s20_e ff) (m20_e ff) res [] _ (by kernel_rfl) h
abbrev s20_0 (out_n : Nat) (b : Int) (b0f : Nat → Bool) (b1n : Nat) (b1f : Nat → Int) : List (Nat × AV) := [(1, (.pt 1000 [] 0)), (3, (.rf 1001 1 0 out_n)), (4, (.sc (.int .i64 b)))]
abbrev m20_0 (out_n : Nat) (b : Int) (b0f : Nat → Bool) (b1n : Nat) (b1f : Nat → Int) : List (Nat × Nat × AV) := [(1000, 38, (.ar 256 1 (fun i0 => (.sc (.bool (b0f i0)))))), (1001, 5, (.ar b1n 1 (fun i0 => (.sc (.int .u8 (b1f i0))))))]
def L20_0 (out_n : Nat) (b : Int) (b0f : Nat → Bool) (b1n : Nat) (b1f : Nat → Int) (res : AV) : Prop := Goes ⟨Go.Proofs.Try.prog, 20, [], res, []⟩ (place Go.Proofs.Try.f20 [1, 1, 0, 1, 0, 0]) (s20_0 out_n b b0f b1n b1f) (m20_0 out_n b b0f b1n b1f)
theorem a20_0 (out_n : Nat) (b : Int) (b0f : Nat → Bool) (b1n : Nat) (b1f : Nat → Int) (res : AV) (h : (∀ slot, fact (look .undef (s20_0 out_n b b0f b1n b1f) slot)) → L20_0 out_n b b0f b1n b1f res) : L20_0 out_n b b0f b1n b1f res :=
  assumeRule 20 [] Go.Proofs.Try.f20 hf20 [1, 1, 0, 1, 0, 0] (s20_0 out_n b b0f b1n b1f) (m20_0 out_n b b0f b1n b1f) res [] _ (by kernel_rfl) h
abbrev s20_1 (out_n : Nat) (b : Int) (b0f : Nat → Bool) (b1n : Nat) (b1f : Nat → Int) : List (Nat × AV) := [(1, (.pt 1000 [] 0)), (3, (.rf 1001 1 0 out_n)), (4, (.sc (.int .i64 b)))]
abbrev m20_1 (out_n : Nat) (b : Int) (b0f : Nat → Bool) (b1n : Nat) (b1f : Nat → Int) : List (Nat × Nat × AV) := [(1000, 38, (.ar 256 1 (fun i0 => (.sc (.bool (b0f i0)))))), (1001, 5, (.ar b1n 1 (fun i0 => (.sc (.int .u8 (b1f i0))))))]
def L20_1 (out_n : Nat) (b : Int) (b0f : Nat → Bool) (b1n : Nat) (b1f : Nat → Int) (res : AV) : Prop := Goes ⟨Go.Proofs.Try.prog, 20, [], res, []⟩ (place Go.Proofs.Try.f20 [1, 1, 0, 1, 0, 0, 1, 1]) (s20_1 out_n b b0f b1n b1f) (m20_1 out_n b b0f b1n b1f)
theorem a20_1 (out_n : Nat) (b : Int) (b0f : Nat → Bool) (b1n : Nat) (b1f : Nat → Int) (res : AV) (h : (∀ slot, fact (look .undef (s20_1 out_n b b0f b1n b1f) slot)) → L20_1 out_n b b0f b1n b1f res) : L20_1 out_n b b0f b1n b1f res :=
  assumeRule 20 [] Go.Proofs.Try.f20 hf20 [1, 1, 0, 1, 0, 0, 1, 1] (s20_1 out_n b b0f b1n b1f) (m20_1 out_n b b0f b1n b1f) res [] _ (by kernel_rfl) h
theorem o20 (ff : Nat → Bool) (res : AV) (hnew : newOnly res) (h : L20_e ff res) : Ok Go.Proofs.Try.prog 20 [(.ar 256 1 (fun i0 => (.sc (.bool (ff i0)))))] [] res [] :=
  okRule2 20 Go.Proofs.Try.f20 hf20 [(.ar 256 1 (fun i0 => (.sc (.bool (ff i0)))))] [] res [] [] rfl (by kernel_rfl) (by kernel_rfl) (by kernel_rfl) ⟨hnew, by simp⟩ (L20_e ff res) (by kernel_rfl) h
theorem r20_e (ff : Nat → Bool) (res : AV)
    (h : L20_0 (0 : Nat) (0 : Int) ff (0 : Nat) (fun (i : Nat) => Int.ofNat (0 : Nat)) res) :
    L20_e ff res :=
  rule Go.Am.Seat.tabOk 20 [] Go.Proofs.Try.f20 hf20 [] (s20_e ff) (m20_e ff) res [] 400
    (Orc.cut (nat_lit 9) (s20_0 (0 : Nat) (0 : Int) ff (0 : Nat) fun (i : Nat) => Int.ofNat (0 : Nat))
  (m20_0 (0 : Nat) (0 : Int) ff (0 : Nat) fun (i : Nat) => Int.ofNat (0 : Nat)) [((1000 : Nat), some (1 : Nat)), ((1001 : Nat), none)]) _ _ (by kernel_rfl) (by kernel_rfl) (show True ∧
  True ∧
    True ∧
    True ∧
    ((True ∧
    Sub (AV.pt (1000 : Nat) [] (0 : Nat)) (AV.pt (1000 : Nat) [] (0 : Nat)) ∧
    True ∧ Sub (AV.sc (Value.int IntKind.i64 (0 : Int))) (AV.sc (Value.int IntKind.i64 (0 : Int))) ∧ True) ∧
    True ∧
    SubB (AV.ar (256 : Nat) (1 : Nat) fun (i0 : Nat) => AV.sc (Value.bool (ff i0)))
    (AV.ar (256 : Nat) (1 : Nat) fun (i0 : Nat) => AV.sc (Value.bool (ff i0))) ∧
    True) ∧
    L20_0 (0 : Nat) (0 : Int) ff (0 : Nat) (fun (i : Nat) => Int.ofNat (0 : Nat)) res from
    ⟨trivial, ⟨trivial, ⟨trivial, ⟨trivial, ⟨⟨⟨trivial, ⟨Sub.refl _, ⟨trivial, ⟨Sub.refl _, trivial⟩⟩⟩⟩, ⟨trivial, ⟨SubB.refl _, trivial⟩⟩⟩, h⟩⟩⟩⟩⟩)
theorem r20_0 (out_n : Nat) (b : Int) (b0f : Nat → Bool) (b1n : Nat) (b1f : Nat → Int) (res : AV)
    (h : (decide (b < (256 : Int)) = true →
    ((0 : Int) ≤ b ∧ b < (↑(256 : Nat) : Int)) ∧
    b.toNat < (256 : Nat) ∧
    (b0f b.toNat = true →
    (out_n ≤ b1n ∧ (0 : Nat) + (1 : Nat) ≤ (1 : Nat) ∧ (out_n + (1 : Nat)) * (1 : Nat) ≤ (140737488355328 : Nat) ∧ out_n + (1 : Nat) ≤ maxLen) ∧
    L20_1 (out_n + (1 : Nat)) b b0f (out_n + (1 : Nat))
    (fun (i : Nat) => bif i.blt out_n then b1f i else bif ((0 : Nat) + (i - out_n)).beq (0 : Nat) then IntKind.u8.wrap b else (0 : Int)) res) ∧
    (b0f b.toNat = false → L20_1 out_n b b0f b1n b1f res)) ∧
  (decide (b < (256 : Int)) = false →
    ((0 : Nat) + out_n ≤ b1n ∧
    (strOf out_n fun (i : Nat) => b1f ((0 : Nat) + i)).size = out_n ∧
    ∀ (i : Nat),
    i < out_n →
    AV.sc (Value.int IntKind.u8 (b1f ((0 : Nat) + i))) =
    AV.sc (Value.int IntKind.u8 (↑(byteAt (strOf out_n fun (i : Nat) => b1f ((0 : Nat) + i)) i).toNat : Int))) ∧
    Sub (AV.sc (Value.string (strOf out_n fun (i : Nat) => b1f ((0 : Nat) + i)))) res)) :
    L20_0 out_n b b0f b1n b1f res :=
  rule Go.Am.Seat.tabOk 20 [] Go.Proofs.Try.f20 hf20 [1, 1, 0, 1, 0, 0] (s20_0 out_n b b0f b1n b1f) (m20_0 out_n b b0f b1n b1f) res [] 400
    (((Orc.cut (nat_lit 2)
    (s20_1 (out_n + (1 : Nat)) b b0f (out_n + (1 : Nat)) fun (i : Nat) =>
    bif i.blt out_n then b1f i else bif ((0 : Nat) + (i - out_n)).beq ((0 : Nat), Operand.tmp (14 : Nat)).fst then IntKind.u8.wrap b else (0 : Int))
    (m20_1 (out_n + (1 : Nat)) b b0f (out_n + (1 : Nat)) fun (i : Nat) =>
    bif i.blt out_n then b1f i else bif ((0 : Nat) + (i - out_n)).beq ((0 : Nat), Operand.tmp (14 : Nat)).fst then IntKind.u8.wrap b else (0 : Int))
    [((1000 : Nat), some (1000 : Nat)), ((1001 : Nat), some (16 : Nat))]).br
    (Orc.cut (nat_lit 2) (s20_1 out_n b b0f b1n b1f) (m20_1 out_n b b0f b1n b1f) [((1000 : Nat), some (1000 : Nat)), ((1001 : Nat), some (1001 : Nat))])).br
  (Orc.ch Ch.none
    (Orc.ch (Ch.s (strOf out_n fun (i : Nat) => b1f ((0 : Nat) + i)))
    (Orc.fin (AV.sc (Value.string (strOf out_n fun (i : Nat) => b1f ((0 : Nat) + i)))) [] [])))) _ _ (by kernel_rfl) (by kernel_rfl) (show True ∧
  True ∧
    (decide (b < (256 : Int)) = true →
    True ∧
    ((0 : Int) ≤ b ∧ b < (↑(256 : Nat) : Int)) ∧
    (b.toNat * (1 : Nat) + (0 : Nat) = plus (0 : Nat) (b.toNat * (1 : Nat)) ∧ b.toNat < (256 : Nat) ∧ True) ∧
    (b0f b.toNat = true →
    True ∧
    True ∧
    True ∧
    ((True ∧ True) ∧ True) ∧
    (out_n ≤ b1n ∧
    ((0 : Nat) + (1 : Nat) ≤ (1 : Nat) ∧ (1 : Nat) = (1 : Nat)) ∧
    (out_n + (1 : Nat)) * (1 : Nat) ≤ (140737488355328 : Nat) ∧ out_n + (1 : Nat) ≤ maxLen) ∧
    True ∧
    ((True ∧
    Sub (AV.pt (1000 : Nat) [] (0 : Nat)) (AV.pt (1000 : Nat) [] (0 : Nat)) ∧
    True ∧
    Sub (AV.rf (1001 : Nat) (1 : Nat) (0 : Nat) (out_n + (1 : Nat)))
    (AV.rf (1001 : Nat) (1 : Nat) (0 : Nat) (out_n + (1 : Nat))) ∧
    True ∧ Sub (AV.sc (Value.int IntKind.i64 b)) (AV.sc (Value.int IntKind.i64 b)) ∧ True) ∧
    True ∧
    SubB (AV.ar (256 : Nat) (1 : Nat) fun (i0 : Nat) => AV.sc (Value.bool (b0f i0)))
    (AV.ar (256 : Nat) (1 : Nat) fun (i0 : Nat) => AV.sc (Value.bool (b0f i0))) ∧
    True ∧
    SubB
    (AV.ar (out_n + (1 : Nat)) (1 : Nat) fun (i : Nat) =>
    AV.sc
    (Value.int IntKind.u8
    (bif i.blt out_n then b1f i
    else bif ((0 : Nat) + (i - out_n)).beq (0 : Nat) then IntKind.u8.wrap b else (0 : Int))))
    (AV.ar (out_n + (1 : Nat)) (1 : Nat) fun (i0 : Nat) =>
    AV.sc
    (Value.int IntKind.u8
    (bif i0.blt out_n then b1f i0
    else bif ((0 : Nat) + (i0 - out_n)).beq (0 : Nat) then IntKind.u8.wrap b else (0 : Int)))) ∧
    True) ∧
    L20_1 (out_n + (1 : Nat)) b b0f (out_n + (1 : Nat))
    (fun (i : Nat) =>
    bif i.blt out_n then b1f i else bif ((0 : Nat) + (i - out_n)).beq (0 : Nat) then IntKind.u8.wrap b else (0 : Int))
    res) ∧
    (b0f b.toNat = false →
    ((True ∧
    Sub (AV.pt (1000 : Nat) [] (0 : Nat)) (AV.pt (1000 : Nat) [] (0 : Nat)) ∧
    True ∧
    Sub (AV.rf (1001 : Nat) (1 : Nat) (0 : Nat) out_n) (AV.rf (1001 : Nat) (1 : Nat) (0 : Nat) out_n) ∧
    True ∧ Sub (AV.sc (Value.int IntKind.i64 b)) (AV.sc (Value.int IntKind.i64 b)) ∧ True) ∧
    True ∧
    SubB (AV.ar (256 : Nat) (1 : Nat) fun (i0 : Nat) => AV.sc (Value.bool (b0f i0)))
    (AV.ar (256 : Nat) (1 : Nat) fun (i0 : Nat) => AV.sc (Value.bool (b0f i0))) ∧
    True ∧
    SubB (AV.ar b1n (1 : Nat) fun (i0 : Nat) => AV.sc (Value.int IntKind.u8 (b1f i0)))
    (AV.ar b1n (1 : Nat) fun (i0 : Nat) => AV.sc (Value.int IntKind.u8 (b1f i0))) ∧
    True) ∧
    L20_1 out_n b b0f b1n b1f res)) ∧
    (decide (b < (256 : Int)) = false →
    True ∧
    (((0 : Nat) + out_n ≤ b1n ∧ (1 : Nat) = (1 : Nat)) ∧
    (strOf out_n fun (i : Nat) => b1f ((0 : Nat) + i)).size = out_n ∧
    ∀ (i : Nat),
    i < out_n →
    AV.sc (Value.int IntKind.u8 (b1f ((0 : Nat) + i))) =
    AV.sc (Value.int IntKind.u8 (↑(byteAt (strOf out_n fun (i : Nat) => b1f ((0 : Nat) + i)) i).toNat : Int))) ∧
    True ∧
    True ∧
    ((True ∧
    Sub (AV.sc (Value.string (strOf out_n fun (i : Nat) => b1f ((0 : Nat) + i))))
    (AV.sc (Value.string (strOf out_n fun (i : Nat) => b1f ((0 : Nat) + i)))) ∧
    True) ∧
    True) ∧
    Sub (AV.sc (Value.string (strOf out_n fun (i : Nat) => b1f ((0 : Nat) + i)))) res ∧ SubOut [] []) from
    ⟨trivial, ⟨trivial, (And.elim (fun h2 k2 => ⟨(fun x3 => (fun h3 => ⟨trivial, (And.elim (fun h5 k5 => ⟨(And.elim (fun h6 k6 => ⟨h6, k6⟩) h5), (And.elim (fun h6 k6 => ⟨⟨rfl, ((fun h8 => ⟨h8, trivial⟩) h6)⟩, (And.elim (fun h7 k7 => ⟨(fun x8 => (fun h8 => ⟨trivial, ⟨trivial, ⟨trivial, ⟨⟨⟨trivial, trivial⟩, trivial⟩, (And.elim (fun h13 k13 => ⟨(And.elim (fun h14 k14 => ⟨h14, (And.elim (fun h15 k15 => ⟨((fun h16 => ⟨h16, rfl⟩) h15), (And.elim (fun h16 k16 => ⟨h16, k16⟩) k15)⟩) k14)⟩) h13), ⟨trivial, ⟨⟨⟨trivial, ⟨Sub.refl _, ⟨trivial, ⟨Sub.refl _, ⟨trivial, ⟨Sub.refl _, trivial⟩⟩⟩⟩⟩⟩, ⟨trivial, ⟨SubB.refl _, ⟨trivial, ⟨SubB.refl _, trivial⟩⟩⟩⟩⟩, k13⟩⟩⟩) h8)⟩⟩⟩⟩) (h7 x8)), (fun x8 => (fun h8 => ⟨⟨⟨trivial, ⟨Sub.refl _, ⟨trivial, ⟨Sub.refl _, ⟨trivial, ⟨Sub.refl _, trivial⟩⟩⟩⟩⟩⟩, ⟨trivial, ⟨SubB.refl _, ⟨trivial, ⟨SubB.refl _, trivial⟩⟩⟩⟩⟩, h8⟩) (k7 x8))⟩) k6)⟩) k5)⟩) h3)⟩) (h2 x3)), (fun x3 => (fun h3 => ⟨trivial, (And.elim (fun h5 k5 => ⟨(And.elim (fun h6 k6 => ⟨((fun h7 => ⟨h7, rfl⟩) h6), (And.elim (fun h7 k7 => ⟨h7, (fun x8 => (fun h8 => (fun x9 => (fun h9 => h9) (h8 x9))) (k7 x8))⟩) k6)⟩) h5), ⟨trivial, ⟨trivial, ⟨⟨⟨trivial, ⟨Sub.refl _, trivial⟩⟩, trivial⟩, ((fun h9 => ⟨h9, trivial⟩) k5)⟩⟩⟩⟩) h3)⟩) (k2 x3))⟩) h)⟩⟩)
theorem r20_1 (out_n : Nat) (b : Int) (b0f : Nat → Bool) (b1n : Nat) (b1f : Nat → Int) (res : AV)
    (h : L20_0 out_n (IntKind.i64.wrap (b + (1 : Int))) b0f b1n b1f res) :
    L20_1 out_n b b0f b1n b1f res :=
  rule Go.Am.Seat.tabOk 20 [] Go.Proofs.Try.f20 hf20 [1, 1, 0, 1, 0, 0, 1, 1] (s20_1 out_n b b0f b1n b1f) (m20_1 out_n b b0f b1n b1f) res [] 400
    (Orc.cut (nat_lit 2) (s20_0 out_n (IntKind.i64.wrap (b + (1 : Int))) b0f b1n b1f) (m20_0 out_n (IntKind.i64.wrap (b + (1 : Int))) b0f b1n b1f)
  [((1000 : Nat), some (1000 : Nat)), ((1001 : Nat), some (1001 : Nat))]) _ _ (by kernel_rfl) (by kernel_rfl) (show True ∧
  True ∧
    True ∧
    ((True ∧
    Sub (AV.pt (1000 : Nat) [] (0 : Nat)) (AV.pt (1000 : Nat) [] (0 : Nat)) ∧
    True ∧
    Sub (AV.rf (1001 : Nat) (1 : Nat) (0 : Nat) out_n) (AV.rf (1001 : Nat) (1 : Nat) (0 : Nat) out_n) ∧
    True ∧
    Sub (AV.sc (Value.int IntKind.i64 (IntKind.i64.wrap (b + (1 : Int))))) (AV.sc (Value.int IntKind.i64 (IntKind.i64.wrap (b + (1 : Int))))) ∧
    True) ∧
    True ∧
    SubB (AV.ar (256 : Nat) (1 : Nat) fun (i0 : Nat) => AV.sc (Value.bool (b0f i0)))
    (AV.ar (256 : Nat) (1 : Nat) fun (i0 : Nat) => AV.sc (Value.bool (b0f i0))) ∧
    True ∧
    SubB (AV.ar b1n (1 : Nat) fun (i0 : Nat) => AV.sc (Value.int IntKind.u8 (b1f i0)))
    (AV.ar b1n (1 : Nat) fun (i0 : Nat) => AV.sc (Value.int IntKind.u8 (b1f i0))) ∧
    True) ∧
    L20_0 out_n (IntKind.i64.wrap (b + (1 : Int))) b0f b1n b1f res from
    ⟨trivial, ⟨trivial, ⟨trivial, ⟨⟨⟨trivial, ⟨Sub.refl _, ⟨trivial, ⟨Sub.refl _, ⟨trivial, ⟨Sub.refl _, trivial⟩⟩⟩⟩⟩⟩, ⟨trivial, ⟨SubB.refl _, ⟨trivial, ⟨SubB.refl _, trivial⟩⟩⟩⟩⟩, h⟩⟩⟩⟩)
theorem hf21 : Go.Proofs.Try.prog.funcs[21]? = some Go.Proofs.Try.f21 := by kernel_rfl
abbrev s21_e (ff : Nat → Bool) : List (Nat × AV) := [(0, (.ar 256 1 (fun i0 => (.sc (.bool (ff i0))))))]
abbrev m21_e (ff : Nat → Bool) : List (Nat × Nat × AV) := []
def L21_e (ff : Nat → Bool) (res : AV) : Prop := Goes ⟨Go.Proofs.Try.prog, 21, [], res, []⟩ (place Go.Proofs.Try.f21 []) (s21_e ff) (m21_e ff)
theorem a21_e (ff : Nat → Bool) (res : AV) (h : (∀ slot, fact (look .undef (s21_e ff) slot)) → L21_e ff res) : L21_e ff res :=
  assumeRule 21 [] Go.Proofs.Try.f21 hf21 [] (s21_e ff) (m21_e ff) res [] _ (by kernel_rfl) h
abbrev s21_0 (i : Int) (b0f : Nat → Bool) (b1f : Nat → Int) (b2f : Nat → Int) : List (Nat × AV) := [(1, (.pt 1000 [] 0)), (2, (.pt 1001 [] 0)), (3, (.pt 1002 [] 0)), (4, (.sc (.int .i64 i)))]
abbrev m21_0 (i : Int) (b0f : Nat → Bool) (b1f : Nat → Int) (b2f : Nat → Int) : List (Nat × Nat × AV) := [(1000, 38, (.ar 256 1 (fun i0 => (.sc (.bool (b0f i0)))))), (1001, 24, (.ar 4 1 (fun i0 => (.sc (.int .u64 (b1f i0)))))), (1002, 24, (.ar 4 1 (fun i0 => (.sc (.int .u64 (b2f i0))))))]
def L21_0 (i : Int) (b0f : Nat → Bool) (b1f : Nat → Int) (b2f : Nat → Int) (res : AV) : Prop := Goes ⟨Go.Proofs.Try.prog, 21, [], res, []⟩ (place Go.Proofs.Try.f21 [1, 1, 0, 1, 0, 0]) (s21_0 i b0f b1f b2f) (m21_0 i b0f b1f b2f)
theorem a21_0 (i : Int) (b0f : Nat → Bool) (b1f : Nat → Int) (b2f : Nat → Int) (res : AV) (h : (∀ slot, fact (look .undef (s21_0 i b0f b1f b2f) slot)) → L21_0 i b0f b1f b2f res) : L21_0 i b0f b1f b2f res :=
  assumeRule 21 [] Go.Proofs.Try.f21 hf21 [1, 1, 0, 1, 0, 0] (s21_0 i b0f b1f b2f) (m21_0 i b0f b1f b2f) res [] _ (by kernel_rfl) h
abbrev s21_1 (i : Int) (w : Int) (k : Int) (b0f : Nat → Bool) (b1f : Nat → Int) (b2f : Nat → Int) : List (Nat × AV) := [(1, (.pt 1000 [] 0)), (2, (.pt 1001 [] 0)), (3, (.pt 1002 [] 0)), (4, (.sc (.int .i64 i))), (5, (.sc (.int .u64 w))), (6, (.sc (.int .i64 k)))]
abbrev m21_1 (i : Int) (w : Int) (k : Int) (b0f : Nat → Bool) (b1f : Nat → Int) (b2f : Nat → Int) : List (Nat × Nat × AV) := [(1000, 38, (.ar 256 1 (fun i0 => (.sc (.bool (b0f i0)))))), (1001, 24, (.ar 4 1 (fun i0 => (.sc (.int .u64 (b1f i0)))))), (1002, 24, (.ar 4 1 (fun i0 => (.sc (.int .u64 (b2f i0))))))]
def L21_1 (i : Int) (w : Int) (k : Int) (b0f : Nat → Bool) (b1f : Nat → Int) (b2f : Nat → Int) (res : AV) : Prop := Goes ⟨Go.Proofs.Try.prog, 21, [], res, []⟩ (place Go.Proofs.Try.f21 [1, 1, 0, 1, 0, 0, 1, 0, 0, 1, 0, 1, 0, 0]) (s21_1 i w k b0f b1f b2f) (m21_1 i w k b0f b1f b2f)
theorem a21_1 (i : Int) (w : Int) (k : Int) (b0f : Nat → Bool) (b1f : Nat → Int) (b2f : Nat → Int) (res : AV) (h : (∀ slot, fact (look .undef (s21_1 i w k b0f b1f b2f) slot)) → L21_1 i w k b0f b1f b2f res) : L21_1 i w k b0f b1f b2f res :=
  assumeRule 21 [] Go.Proofs.Try.f21 hf21 [1, 1, 0, 1, 0, 0, 1, 0, 0, 1, 0, 1, 0, 0] (s21_1 i w k b0f b1f b2f) (m21_1 i w k b0f b1f b2f) res [] _ (by kernel_rfl) h
abbrev s21_2 (i : Int) (w : Int) (k : Int) (b0f : Nat → Bool) (b1f : Nat → Int) (b2f : Nat → Int) : List (Nat × AV) := [(1, (.pt 1000 [] 0)), (2, (.pt 1001 [] 0)), (3, (.pt 1002 [] 0)), (4, (.sc (.int .i64 i))), (5, (.sc (.int .u64 w))), (6, (.sc (.int .i64 k)))]
abbrev m21_2 (i : Int) (w : Int) (k : Int) (b0f : Nat → Bool) (b1f : Nat → Int) (b2f : Nat → Int) : List (Nat × Nat × AV) := [(1000, 38, (.ar 256 1 (fun i0 => (.sc (.bool (b0f i0)))))), (1001, 24, (.ar 4 1 (fun i0 => (.sc (.int .u64 (b1f i0)))))), (1002, 24, (.ar 4 1 (fun i0 => (.sc (.int .u64 (b2f i0))))))]
def L21_2 (i : Int) (w : Int) (k : Int) (b0f : Nat → Bool) (b1f : Nat → Int) (b2f : Nat → Int) (res : AV) : Prop := Goes ⟨Go.Proofs.Try.prog, 21, [], res, []⟩ (place Go.Proofs.Try.f21 [1, 1, 0, 1, 0, 0, 1, 0, 0, 1, 0, 1, 0, 0, 1, 1]) (s21_2 i w k b0f b1f b2f) (m21_2 i w k b0f b1f b2f)
theorem a21_2 (i : Int) (w : Int) (k : Int) (b0f : Nat → Bool) (b1f : Nat → Int) (b2f : Nat → Int) (res : AV) (h : (∀ slot, fact (look .undef (s21_2 i w k b0f b1f b2f) slot)) → L21_2 i w k b0f b1f b2f res) : L21_2 i w k b0f b1f b2f res :=
  assumeRule 21 [] Go.Proofs.Try.f21 hf21 [1, 1, 0, 1, 0, 0, 1, 0, 0, 1, 0, 1, 0, 0, 1, 1] (s21_2 i w k b0f b1f b2f) (m21_2 i w k b0f b1f b2f) res [] _ (by kernel_rfl) h
theorem o21 (ff : Nat → Bool) (res : AV) (hnew : newOnly res) (h : L21_e ff res) : Ok Go.Proofs.Try.prog 21 [(.ar 256 1 (fun i0 => (.sc (.bool (ff i0)))))] [] res [] :=
  okRule2 21 Go.Proofs.Try.f21 hf21 [(.ar 256 1 (fun i0 => (.sc (.bool (ff i0)))))] [] res [] [] rfl (by kernel_rfl) (by kernel_rfl) (by kernel_rfl) ⟨hnew, by simp⟩ (L21_e ff res) (by kernel_rfl) h
theorem r21_e (ff : Nat → Bool) (res : AV)
    (h : L21_0 (0 : Int) ff (fun (x : Nat) => (0 : Int)) (fun (x : Nat) => (0 : Int)) res) :
    L21_e ff res :=
  rule Go.Am.Seat.tabOk 21 [] Go.Proofs.Try.f21 hf21 [] (s21_e ff) (m21_e ff) res [] 400
    (Orc.cut (nat_lit 9) (s21_0 (0 : Int) ff (fun (x : Nat) => (0 : Int)) fun (x : Nat) => (0 : Int))
  (m21_0 (0 : Int) ff (fun (x : Nat) => (0 : Int)) fun (x : Nat) => (0 : Int))
  [((1000 : Nat), some (1 : Nat)), ((1001 : Nat), some (2 : Nat)), ((1002 : Nat), some (3 : Nat))]) _ _ (by kernel_rfl) (by kernel_rfl) (show True ∧
  True ∧
    True ∧
    True ∧
    ((True ∧
    Sub (AV.pt (1000 : Nat) [] (0 : Nat)) (AV.pt (1000 : Nat) [] (0 : Nat)) ∧
    True ∧
    Sub (AV.pt (1001 : Nat) [] (0 : Nat)) (AV.pt (1001 : Nat) [] (0 : Nat)) ∧
    True ∧
    Sub (AV.pt (1002 : Nat) [] (0 : Nat)) (AV.pt (1002 : Nat) [] (0 : Nat)) ∧
    True ∧ Sub (AV.sc (Value.int IntKind.i64 (0 : Int))) (AV.sc (Value.int IntKind.i64 (0 : Int))) ∧ True) ∧
    True ∧
    SubB (AV.ar (256 : Nat) (1 : Nat) fun (i0 : Nat) => AV.sc (Value.bool (ff i0)))
    (AV.ar (256 : Nat) (1 : Nat) fun (i0 : Nat) => AV.sc (Value.bool (ff i0))) ∧
    True ∧
    SubB (AV.ar (4 : Nat) (1 : Nat) fun (x : Nat) => AV.sc (Value.int IntKind.u64 (0 : Int)))
    (AV.ar (4 : Nat) (1 : Nat) fun (i0 : Nat) => AV.sc (Value.int IntKind.u64 (0 : Int))) ∧
    True ∧
    SubB (AV.ar (4 : Nat) (1 : Nat) fun (x : Nat) => AV.sc (Value.int IntKind.u64 (0 : Int)))
    (AV.ar (4 : Nat) (1 : Nat) fun (i0 : Nat) => AV.sc (Value.int IntKind.u64 (0 : Int))) ∧
    True) ∧
    L21_0 (0 : Int) ff (fun (x : Nat) => (0 : Int)) (fun (x : Nat) => (0 : Int)) res from
    ⟨trivial, ⟨trivial, ⟨trivial, ⟨trivial, ⟨⟨⟨trivial, ⟨Sub.refl _, ⟨trivial, ⟨Sub.refl _, ⟨trivial, ⟨Sub.refl _, ⟨trivial, ⟨Sub.refl _, trivial⟩⟩⟩⟩⟩⟩⟩⟩, ⟨trivial, ⟨SubB.refl _, ⟨trivial, ⟨SubB.refl _, ⟨trivial, ⟨SubB.refl _, trivial⟩⟩⟩⟩⟩⟩⟩, h⟩⟩⟩⟩⟩)
theorem r21_0 (i : Int) (b0f : Nat → Bool) (b1f : Nat → Int) (b2f : Nat → Int) (res : AV)
    (h : (decide (i < (4 : Int)) = true → L21_1 i (0 : Int) (63 : Int) b0f b1f b2f res) ∧
  (decide (i < (4 : Int)) = false → Sub (AV.ar (4 : Nat) (1 : Nat) fun (i0 : Nat) => AV.sc (Value.int IntKind.u64 (b2f i0))) res)) :
    L21_0 i b0f b1f b2f res :=
  rule Go.Am.Seat.tabOk 21 [] Go.Proofs.Try.f21 hf21 [1, 1, 0, 1, 0, 0] (s21_0 i b0f b1f b2f) (m21_0 i b0f b1f b2f) res [] 400
    ((Orc.cut (nat_lit 10) (s21_1 i (0 : Int) (63 : Int) b0f b1f b2f) (m21_1 i (0 : Int) (63 : Int) b0f b1f b2f)
    [((1000 : Nat), some (1000 : Nat)), ((1001 : Nat), some (1001 : Nat)), ((1002 : Nat), some (1002 : Nat))]).br
  (Orc.fin (AV.ar (4 : Nat) (1 : Nat) fun (i0 : Nat) => AV.sc (Value.int IntKind.u64 (b2f i0))) [] [])) _ _ (by kernel_rfl) (by kernel_rfl) (show True ∧
  True ∧
    (decide (i < (4 : Int)) = true →
    True ∧
    True ∧
    ((True ∧
    Sub (AV.pt (1000 : Nat) [] (0 : Nat)) (AV.pt (1000 : Nat) [] (0 : Nat)) ∧
    True ∧
    Sub (AV.pt (1001 : Nat) [] (0 : Nat)) (AV.pt (1001 : Nat) [] (0 : Nat)) ∧
    True ∧
    Sub (AV.pt (1002 : Nat) [] (0 : Nat)) (AV.pt (1002 : Nat) [] (0 : Nat)) ∧
    True ∧
    Sub (AV.sc (Value.int IntKind.i64 i)) (AV.sc (Value.int IntKind.i64 i)) ∧
    True ∧
    Sub (AV.sc (Value.int IntKind.u64 (0 : Int))) (AV.sc (Value.int IntKind.u64 (0 : Int))) ∧
    True ∧ Sub (AV.sc (Value.int IntKind.i64 (63 : Int))) (AV.sc (Value.int IntKind.i64 (63 : Int))) ∧ True) ∧
    True ∧
    SubB (AV.ar (256 : Nat) (1 : Nat) fun (i0 : Nat) => AV.sc (Value.bool (b0f i0)))
    (AV.ar (256 : Nat) (1 : Nat) fun (i0 : Nat) => AV.sc (Value.bool (b0f i0))) ∧
    True ∧
    SubB (AV.ar (4 : Nat) (1 : Nat) fun (i0 : Nat) => AV.sc (Value.int IntKind.u64 (b1f i0)))
    (AV.ar (4 : Nat) (1 : Nat) fun (i0 : Nat) => AV.sc (Value.int IntKind.u64 (b1f i0))) ∧
    True ∧
    SubB (AV.ar (4 : Nat) (1 : Nat) fun (i0 : Nat) => AV.sc (Value.int IntKind.u64 (b2f i0)))
    (AV.ar (4 : Nat) (1 : Nat) fun (i0 : Nat) => AV.sc (Value.int IntKind.u64 (b2f i0))) ∧
    True) ∧
    L21_1 i (0 : Int) (63 : Int) b0f b1f b2f res) ∧
    (decide (i < (4 : Int)) = false →
    ((0 : Nat) = (0 : Nat) ∧ True) ∧
    ((0 : Nat) = (0 : Nat) ∧ True) ∧
    ((0 : Nat) = (0 : Nat) ∧ True) ∧
    ((True ∧
    Sub (AV.ar (4 : Nat) (1 : Nat) fun (i0 : Nat) => AV.sc (Value.int IntKind.u64 (b2f i0)))
    (AV.ar (4 : Nat) (1 : Nat) fun (i0 : Nat) => AV.sc (Value.int IntKind.u64 (b2f i0))) ∧
    True) ∧
    True) ∧
    Sub (AV.ar (4 : Nat) (1 : Nat) fun (i0 : Nat) => AV.sc (Value.int IntKind.u64 (b2f i0))) res ∧ SubOut [] []) from
    ⟨trivial, ⟨trivial, (And.elim (fun h2 k2 => ⟨(fun x3 => (fun h3 => ⟨trivial, ⟨trivial, ⟨⟨⟨trivial, ⟨Sub.refl _, ⟨trivial, ⟨Sub.refl _, ⟨trivial, ⟨Sub.refl _, ⟨trivial, ⟨Sub.refl _, ⟨trivial, ⟨Sub.refl _, ⟨trivial, ⟨Sub.refl _, trivial⟩⟩⟩⟩⟩⟩⟩⟩⟩⟩⟩⟩, ⟨trivial, ⟨SubB.refl _, ⟨trivial, ⟨SubB.refl _, ⟨trivial, ⟨SubB.refl _, trivial⟩⟩⟩⟩⟩⟩⟩, h3⟩⟩⟩) (h2 x3)), (fun x3 => (fun h3 => ⟨⟨rfl, trivial⟩, ⟨⟨rfl, trivial⟩, ⟨⟨rfl, trivial⟩, ⟨⟨⟨trivial, ⟨Sub.refl _, trivial⟩⟩, trivial⟩, ((fun h8 => ⟨h8, trivial⟩) h3)⟩⟩⟩⟩) (k2 x3))⟩) h)⟩⟩)
theorem r21_1 (i : Int) (w : Int) (k : Int) (b0f : Nat → Bool) (b1f : Nat → Int) (b2f : Nat → Int) (res : AV)
    (h : (decide (k ≥ (0 : Int)) = true →
    ((0 : Int) ≤ IntKind.i64.wrap (IntKind.i64.wrap (i * (64 : Int)) + k) ∧ IntKind.i64.wrap (IntKind.i64.wrap (i * (64 : Int)) + k) < (↑(256 : Nat) : Int)) ∧
    (IntKind.i64.wrap (IntKind.i64.wrap (i * (64 : Int)) + k)).toNat < (256 : Nat) ∧
    (b0f (IntKind.i64.wrap (IntKind.i64.wrap (i * (64 : Int)) + k)).toNat = true →
    L21_2 i (IntKind.u64.wrap (IntKind.u64.wrap (w * (2 : Int)) + (1 : Int))) k b0f b1f b2f res) ∧
    (b0f (IntKind.i64.wrap (IntKind.i64.wrap (i * (64 : Int)) + k)).toNat = false → L21_2 i (IntKind.u64.wrap (w * (2 : Int))) k b0f b1f b2f res)) ∧
  (decide (k ≥ (0 : Int)) = false →
    ((0 : Int) ≤ i ∧ i < (↑(4 : Nat) : Int)) ∧
    i.toNat < (4 : Nat) ∧ L21_0 (IntKind.i64.wrap (i + (1 : Int))) b0f b1f (fun (i_1 : Nat) => bif i_1.beq i.toNat then w else b2f i_1) res)) :
    L21_1 i w k b0f b1f b2f res :=
  rule Go.Am.Seat.tabOk 21 [] Go.Proofs.Try.f21 hf21 [1, 1, 0, 1, 0, 0, 1, 0, 0, 1, 0, 1, 0, 0] (s21_1 i w k b0f b1f b2f) (m21_1 i w k b0f b1f b2f) res [] 400
    (((Orc.cut (nat_lit 2) (s21_2 i (IntKind.u64.wrap (IntKind.u64.wrap (w * (2 : Int)) + (1 : Int))) k b0f b1f b2f)
    (m21_2 i (IntKind.u64.wrap (IntKind.u64.wrap (w * (2 : Int)) + (1 : Int))) k b0f b1f b2f)
    [((1000 : Nat), some (1000 : Nat)), ((1001 : Nat), some (1001 : Nat)), ((1002 : Nat), some (1002 : Nat))]).br
    (Orc.cut (nat_lit 2) (s21_2 i (IntKind.u64.wrap (w * (2 : Int))) k b0f b1f b2f) (m21_2 i (IntKind.u64.wrap (w * (2 : Int))) k b0f b1f b2f)
    [((1000 : Nat), some (1000 : Nat)), ((1001 : Nat), some (1001 : Nat)), ((1002 : Nat), some (1002 : Nat))])).br
  (Orc.cut (nat_lit 5) (s21_0 (IntKind.i64.wrap (i + (1 : Int))) b0f b1f fun (i_1 : Nat) => bif i_1.beq i.toNat then w else b2f i_1)
    (m21_0 (IntKind.i64.wrap (i + (1 : Int))) b0f b1f fun (i_1 : Nat) => bif i_1.beq i.toNat then w else b2f i_1)
    [((1000 : Nat), some (1000 : Nat)), ((1001 : Nat), some (1001 : Nat)), ((1002 : Nat), some (1002 : Nat))])) _ _ (by kernel_rfl) (by kernel_rfl) (show True ∧
  True ∧
    (decide (k ≥ (0 : Int)) = true →
    True ∧
    True ∧
    True ∧
    True ∧
    True ∧
    True ∧
    True ∧
    ((0 : Int) ≤ IntKind.i64.wrap (IntKind.i64.wrap (i * (64 : Int)) + k) ∧
    IntKind.i64.wrap (IntKind.i64.wrap (i * (64 : Int)) + k) < (↑(256 : Nat) : Int)) ∧
    ((IntKind.i64.wrap (IntKind.i64.wrap (i * (64 : Int)) + k)).toNat * (1 : Nat) + (0 : Nat) =
    plus (0 : Nat) ((IntKind.i64.wrap (IntKind.i64.wrap (i * (64 : Int)) + k)).toNat * (1 : Nat)) ∧
    (IntKind.i64.wrap (IntKind.i64.wrap (i * (64 : Int)) + k)).toNat < (256 : Nat) ∧ True) ∧
    (b0f (IntKind.i64.wrap (IntKind.i64.wrap (i * (64 : Int)) + k)).toNat = true →
    True ∧
    True ∧
    True ∧
    ((True ∧
    Sub (AV.pt (1000 : Nat) [] (0 : Nat)) (AV.pt (1000 : Nat) [] (0 : Nat)) ∧
    True ∧
    Sub (AV.pt (1001 : Nat) [] (0 : Nat)) (AV.pt (1001 : Nat) [] (0 : Nat)) ∧
    True ∧
    Sub (AV.pt (1002 : Nat) [] (0 : Nat)) (AV.pt (1002 : Nat) [] (0 : Nat)) ∧
    True ∧
    Sub (AV.sc (Value.int IntKind.i64 i)) (AV.sc (Value.int IntKind.i64 i)) ∧
    True ∧
    Sub (AV.sc (Value.int IntKind.u64 (IntKind.u64.wrap (IntKind.u64.wrap (w * (2 : Int)) + (1 : Int)))))
    (AV.sc
    (Value.int IntKind.u64 (IntKind.u64.wrap (IntKind.u64.wrap (w * (2 : Int)) + (1 : Int))))) ∧
    True ∧ Sub (AV.sc (Value.int IntKind.i64 k)) (AV.sc (Value.int IntKind.i64 k)) ∧ True) ∧
    True ∧
    SubB (AV.ar (256 : Nat) (1 : Nat) fun (i0 : Nat) => AV.sc (Value.bool (b0f i0)))
    (AV.ar (256 : Nat) (1 : Nat) fun (i0 : Nat) => AV.sc (Value.bool (b0f i0))) ∧
    True ∧
    SubB (AV.ar (4 : Nat) (1 : Nat) fun (i0 : Nat) => AV.sc (Value.int IntKind.u64 (b1f i0)))
    (AV.ar (4 : Nat) (1 : Nat) fun (i0 : Nat) => AV.sc (Value.int IntKind.u64 (b1f i0))) ∧
    True ∧
    SubB (AV.ar (4 : Nat) (1 : Nat) fun (i0 : Nat) => AV.sc (Value.int IntKind.u64 (b2f i0)))
    (AV.ar (4 : Nat) (1 : Nat) fun (i0 : Nat) => AV.sc (Value.int IntKind.u64 (b2f i0))) ∧
    True) ∧
    L21_2 i (IntKind.u64.wrap (IntKind.u64.wrap (w * (2 : Int)) + (1 : Int))) k b0f b1f b2f res) ∧
    (b0f (IntKind.i64.wrap (IntKind.i64.wrap (i * (64 : Int)) + k)).toNat = false →
    ((True ∧
    Sub (AV.pt (1000 : Nat) [] (0 : Nat)) (AV.pt (1000 : Nat) [] (0 : Nat)) ∧
    True ∧
    Sub (AV.pt (1001 : Nat) [] (0 : Nat)) (AV.pt (1001 : Nat) [] (0 : Nat)) ∧
    True ∧
    Sub (AV.pt (1002 : Nat) [] (0 : Nat)) (AV.pt (1002 : Nat) [] (0 : Nat)) ∧
    True ∧
    Sub (AV.sc (Value.int IntKind.i64 i)) (AV.sc (Value.int IntKind.i64 i)) ∧
    True ∧
    Sub (AV.sc (Value.int IntKind.u64 (IntKind.u64.wrap (w * (2 : Int)))))
    (AV.sc (Value.int IntKind.u64 (IntKind.u64.wrap (w * (2 : Int))))) ∧
    True ∧ Sub (AV.sc (Value.int IntKind.i64 k)) (AV.sc (Value.int IntKind.i64 k)) ∧ True) ∧
    True ∧
    SubB (AV.ar (256 : Nat) (1 : Nat) fun (i0 : Nat) => AV.sc (Value.bool (b0f i0)))
    (AV.ar (256 : Nat) (1 : Nat) fun (i0 : Nat) => AV.sc (Value.bool (b0f i0))) ∧
    True ∧
    SubB (AV.ar (4 : Nat) (1 : Nat) fun (i0 : Nat) => AV.sc (Value.int IntKind.u64 (b1f i0)))
    (AV.ar (4 : Nat) (1 : Nat) fun (i0 : Nat) => AV.sc (Value.int IntKind.u64 (b1f i0))) ∧
    True ∧
    SubB (AV.ar (4 : Nat) (1 : Nat) fun (i0 : Nat) => AV.sc (Value.int IntKind.u64 (b2f i0)))
    (AV.ar (4 : Nat) (1 : Nat) fun (i0 : Nat) => AV.sc (Value.int IntKind.u64 (b2f i0))) ∧
    True) ∧
    L21_2 i (IntKind.u64.wrap (w * (2 : Int))) k b0f b1f b2f res)) ∧
    (decide (k ≥ (0 : Int)) = false →
    True ∧
    True ∧
    ((0 : Int) ≤ i ∧ i < (↑(4 : Nat) : Int)) ∧
    (i.toNat * (1 : Nat) + (0 : Nat) = plus (0 : Nat) (i.toNat * (1 : Nat)) ∧ (i.toNat < (4 : Nat) ∧ True) ∧ True) ∧
    True ∧
    True ∧
    True ∧
    ((True ∧
    Sub (AV.pt (1000 : Nat) [] (0 : Nat)) (AV.pt (1000 : Nat) [] (0 : Nat)) ∧
    True ∧
    Sub (AV.pt (1001 : Nat) [] (0 : Nat)) (AV.pt (1001 : Nat) [] (0 : Nat)) ∧
    True ∧
    Sub (AV.pt (1002 : Nat) [] (0 : Nat)) (AV.pt (1002 : Nat) [] (0 : Nat)) ∧
    True ∧
    Sub (AV.sc (Value.int IntKind.i64 (IntKind.i64.wrap (i + (1 : Int)))))
    (AV.sc (Value.int IntKind.i64 (IntKind.i64.wrap (i + (1 : Int))))) ∧
    True) ∧
    True ∧
    SubB (AV.ar (256 : Nat) (1 : Nat) fun (i0 : Nat) => AV.sc (Value.bool (b0f i0)))
    (AV.ar (256 : Nat) (1 : Nat) fun (i0 : Nat) => AV.sc (Value.bool (b0f i0))) ∧
    True ∧
    SubB (AV.ar (4 : Nat) (1 : Nat) fun (i0 : Nat) => AV.sc (Value.int IntKind.u64 (b1f i0)))
    (AV.ar (4 : Nat) (1 : Nat) fun (i0 : Nat) => AV.sc (Value.int IntKind.u64 (b1f i0))) ∧
    True ∧
    SubB (AV.ar (4 : Nat) (1 : Nat) fun (i_1 : Nat) => AV.sc (Value.int IntKind.u64 (bif i_1.beq i.toNat then w else b2f i_1)))
    (AV.ar (4 : Nat) (1 : Nat) fun (i0 : Nat) => AV.sc (Value.int IntKind.u64 (bif i0.beq i.toNat then w else b2f i0))) ∧
    True) ∧
    L21_0 (IntKind.i64.wrap (i + (1 : Int))) b0f b1f (fun (i_1 : Nat) => bif i_1.beq i.toNat then w else b2f i_1) res) from
    ⟨trivial, ⟨trivial, (And.elim (fun h2 k2 => ⟨(fun x3 => (fun h3 => ⟨trivial, ⟨trivial, ⟨trivial, ⟨trivial, ⟨trivial, ⟨trivial, ⟨trivial, (And.elim (fun h11 k11 => ⟨(And.elim (fun h12 k12 => ⟨h12, k12⟩) h11), (And.elim (fun h12 k12 => ⟨⟨rfl, ((fun h14 => ⟨h14, trivial⟩) h12)⟩, (And.elim (fun h13 k13 => ⟨(fun x14 => (fun h14 => ⟨trivial, ⟨trivial, ⟨trivial, ⟨⟨⟨trivial, ⟨Sub.refl _, ⟨trivial, ⟨Sub.refl _, ⟨trivial, ⟨Sub.refl _, ⟨trivial, ⟨Sub.refl _, ⟨trivial, ⟨Sub.refl _, ⟨trivial, ⟨Sub.refl _, trivial⟩⟩⟩⟩⟩⟩⟩⟩⟩⟩⟩⟩, ⟨trivial, ⟨SubB.refl _, ⟨trivial, ⟨SubB.refl _, ⟨trivial, ⟨SubB.refl _, trivial⟩⟩⟩⟩⟩⟩⟩, h14⟩⟩⟩⟩) (h13 x14)), (fun x14 => (fun h14 => ⟨⟨⟨trivial, ⟨Sub.refl _, ⟨trivial, ⟨Sub.refl _, ⟨trivial, ⟨Sub.refl _, ⟨trivial, ⟨Sub.refl _, ⟨trivial, ⟨Sub.refl _, ⟨trivial, ⟨Sub.refl _, trivial⟩⟩⟩⟩⟩⟩⟩⟩⟩⟩⟩⟩, ⟨trivial, ⟨SubB.refl _, ⟨trivial, ⟨SubB.refl _, ⟨trivial, ⟨SubB.refl _, trivial⟩⟩⟩⟩⟩⟩⟩, h14⟩) (k13 x14))⟩) k12)⟩) k11)⟩) h3)⟩⟩⟩⟩⟩⟩⟩) (h2 x3)), (fun x3 => (fun h3 => ⟨trivial, ⟨trivial, (And.elim (fun h6 k6 => ⟨(And.elim (fun h7 k7 => ⟨h7, k7⟩) h6), (And.elim (fun h7 k7 => ⟨⟨rfl, ((fun h9 => ⟨((fun h10 => ⟨h10, trivial⟩) h9), trivial⟩) h7)⟩, ⟨trivial, ⟨trivial, ⟨trivial, ⟨⟨⟨trivial, ⟨Sub.refl _, ⟨trivial, ⟨Sub.refl _, ⟨trivial, ⟨Sub.refl _, ⟨trivial, ⟨Sub.refl _, trivial⟩⟩⟩⟩⟩⟩⟩⟩, ⟨trivial, ⟨SubB.refl _, ⟨trivial, ⟨SubB.refl _, ⟨trivial, ⟨SubB.refl _, trivial⟩⟩⟩⟩⟩⟩⟩, k7⟩⟩⟩⟩⟩) k6)⟩) h3)⟩⟩) (k2 x3))⟩) h)⟩⟩)
theorem r21_2 (i : Int) (w : Int) (k : Int) (b0f : Nat → Bool) (b1f : Nat → Int) (b2f : Nat → Int) (res : AV)
    (h : L21_1 i w (IntKind.i64.wrap (k - (1 : Int))) b0f b1f b2f res) :
    L21_2 i w k b0f b1f b2f res :=
  rule Go.Am.Seat.tabOk 21 [] Go.Proofs.Try.f21 hf21 [1, 1, 0, 1, 0, 0, 1, 0, 0, 1, 0, 1, 0, 0, 1, 1] (s21_2 i w k b0f b1f b2f) (m21_2 i w k b0f b1f b2f) res [] 400
    (Orc.cut (nat_lit 2) (s21_1 i w (IntKind.i64.wrap (k - (1 : Int))) b0f b1f b2f) (m21_1 i w (IntKind.i64.wrap (k - (1 : Int))) b0f b1f b2f)
  [((1000 : Nat), some (1000 : Nat)), ((1001 : Nat), some (1001 : Nat)), ((1002 : Nat), some (1002 : Nat))]) _ _ (by kernel_rfl) (by kernel_rfl) (show True ∧
  True ∧
    True ∧
    ((True ∧
    Sub (AV.pt (1000 : Nat) [] (0 : Nat)) (AV.pt (1000 : Nat) [] (0 : Nat)) ∧
    True ∧
    Sub (AV.pt (1001 : Nat) [] (0 : Nat)) (AV.pt (1001 : Nat) [] (0 : Nat)) ∧
    True ∧
    Sub (AV.pt (1002 : Nat) [] (0 : Nat)) (AV.pt (1002 : Nat) [] (0 : Nat)) ∧
    True ∧
    Sub (AV.sc (Value.int IntKind.i64 i)) (AV.sc (Value.int IntKind.i64 i)) ∧
    True ∧
    Sub (AV.sc (Value.int IntKind.u64 w)) (AV.sc (Value.int IntKind.u64 w)) ∧
    True ∧
    Sub (AV.sc (Value.int IntKind.i64 (IntKind.i64.wrap (k - (1 : Int)))))
    (AV.sc (Value.int IntKind.i64 (IntKind.i64.wrap (k - (1 : Int))))) ∧
    True) ∧
    True ∧
    SubB (AV.ar (256 : Nat) (1 : Nat) fun (i0 : Nat) => AV.sc (Value.bool (b0f i0)))
    (AV.ar (256 : Nat) (1 : Nat) fun (i0 : Nat) => AV.sc (Value.bool (b0f i0))) ∧
    True ∧
    SubB (AV.ar (4 : Nat) (1 : Nat) fun (i0 : Nat) => AV.sc (Value.int IntKind.u64 (b1f i0)))
    (AV.ar (4 : Nat) (1 : Nat) fun (i0 : Nat) => AV.sc (Value.int IntKind.u64 (b1f i0))) ∧
    True ∧
    SubB (AV.ar (4 : Nat) (1 : Nat) fun (i0 : Nat) => AV.sc (Value.int IntKind.u64 (b2f i0)))
    (AV.ar (4 : Nat) (1 : Nat) fun (i0 : Nat) => AV.sc (Value.int IntKind.u64 (b2f i0))) ∧
    True) ∧
    L21_1 i w (IntKind.i64.wrap (k - (1 : Int))) b0f b1f b2f res from
    ⟨trivial, ⟨trivial, ⟨trivial, ⟨⟨⟨trivial, ⟨Sub.refl _, ⟨trivial, ⟨Sub.refl _, ⟨trivial, ⟨Sub.refl _, ⟨trivial, ⟨Sub.refl _, ⟨trivial, ⟨Sub.refl _, ⟨trivial, ⟨Sub.refl _, trivial⟩⟩⟩⟩⟩⟩⟩⟩⟩⟩⟩⟩, ⟨trivial, ⟨SubB.refl _, ⟨trivial, ⟨SubB.refl _, ⟨trivial, ⟨SubB.refl _, trivial⟩⟩⟩⟩⟩⟩⟩, h⟩⟩⟩⟩)
theorem hf22 : Go.Proofs.Try.prog.funcs[22]? = some Go.Proofs.Try.f22 := by kernel_rfl
abbrev s22_e (a : Int) (b : Int) : List (Nat × AV) := [(0, (.sc (.int .u8 a))), (1, (.sc (.int .u8 b)))]
abbrev m22_e (a : Int) (b : Int) : List (Nat × Nat × AV) := []
def L22_e (a : Int) (b : Int) (res : AV) : Prop := Goes ⟨Go.Proofs.Try.prog, 22, [], res, []⟩ (place Go.Proofs.Try.f22 []) (s22_e a b) (m22_e a b)
theorem a22_e (a : Int) (b : Int) (res : AV) (h : (∀ slot, fact (look .undef (s22_e a b) slot)) → L22_e a b res) : L22_e a b res :=
  assumeRule 22 [] Go.Proofs.Try.f22 hf22 [] (s22_e a b) (m22_e a b) res [] _ (by kernel_rfl) h
abbrev s22_0 (b : Int) (c : Int) (b0f : Nat → Int) (b1f : Nat → Int) : List (Nat × AV) := [(1, (.sc (.int .u8 b))), (4, (.pt 1000 [] 0)), (5, (.pt 1001 [] 0)), (6, (.sc (.int .i64 c)))]
abbrev m22_0 (b : Int) (c : Int) (b0f : Nat → Int) (b1f : Nat → Int) : List (Nat × Nat × AV) := [(1000, 24, (.ar 4 1 (fun i0 => (.sc (.int .u64 (b0f i0)))))), (1001, 24, (.ar 4 1 (fun i0 => (.sc (.int .u64 (b1f i0))))))]
def L22_0 (b : Int) (c : Int) (b0f : Nat → Int) (b1f : Nat → Int) (res : AV) : Prop := Goes ⟨Go.Proofs.Try.prog, 22, [], res, []⟩ (place Go.Proofs.Try.f22 [1, 1, 0, 1, 0, 0]) (s22_0 b c b0f b1f) (m22_0 b c b0f b1f)
theorem a22_0 (b : Int) (c : Int) (b0f : Nat → Int) (b1f : Nat → Int) (res : AV) (h : (∀ slot, fact (look .undef (s22_0 b c b0f b1f) slot)) → L22_0 b c b0f b1f res) : L22_0 b c b0f b1f res :=
  assumeRule 22 [] Go.Proofs.Try.f22 hf22 [1, 1, 0, 1, 0, 0] (s22_0 b c b0f b1f) (m22_0 b c b0f b1f) res [] _ (by kernel_rfl) h
theorem o22 (a : Int) (b : Int) (res : AV) (hnew : newOnly res) (h : L22_e a b res) : Ok Go.Proofs.Try.prog 22 [(.sc (.int .u8 a)), (.sc (.int .u8 b))] [] res [] :=
  okRule2 22 Go.Proofs.Try.f22 hf22 [(.sc (.int .u8 a)), (.sc (.int .u8 b))] [] res [] [] rfl (by kernel_rfl) (by kernel_rfl) (by kernel_rfl) ⟨hnew, by simp⟩ (L22_e a b res) (by kernel_rfl) h
theorem r22_e (a : Int) (b : Int) (res : AV)
    (h : L22_0 b (IntKind.i64.wrap a) (fun (x : Nat) => (0 : Int)) (fun (x : Nat) => (0 : Int)) res) :
    L22_e a b res :=
  rule Go.Am.Seat.tabOk 22 [] Go.Proofs.Try.f22 hf22 [] (s22_e a b) (m22_e a b) res [] 400
    (Orc.cut (nat_lit 9) (s22_0 b (IntKind.i64.wrap a) (fun (x : Nat) => (0 : Int)) fun (x : Nat) => (0 : Int))
  (m22_0 b (IntKind.i64.wrap a) (fun (x : Nat) => (0 : Int)) fun (x : Nat) => (0 : Int)) [((1000 : Nat), some (4 : Nat)), ((1001 : Nat), some (5 : Nat))]) _ _ (by kernel_rfl) (by kernel_rfl) (show True ∧
  True ∧
    True ∧
    True ∧
    True ∧
    ((True ∧
    Sub (AV.sc (Value.int IntKind.u8 b)) (AV.sc (Value.int IntKind.u8 b)) ∧
    True ∧
    Sub (AV.pt (1000 : Nat) [] (0 : Nat)) (AV.pt (1000 : Nat) [] (0 : Nat)) ∧
    True ∧
    Sub (AV.pt (1001 : Nat) [] (0 : Nat)) (AV.pt (1001 : Nat) [] (0 : Nat)) ∧
    True ∧ Sub (AV.sc (Value.int IntKind.i64 (IntKind.i64.wrap a))) (AV.sc (Value.int IntKind.i64 (IntKind.i64.wrap a))) ∧ True) ∧
    True ∧
    SubB (AV.ar (4 : Nat) (1 : Nat) fun (x : Nat) => AV.sc (Value.int IntKind.u64 (0 : Int)))
    (AV.ar (4 : Nat) (1 : Nat) fun (i0 : Nat) => AV.sc (Value.int IntKind.u64 (0 : Int))) ∧
    True ∧
    SubB (AV.ar (4 : Nat) (1 : Nat) fun (x : Nat) => AV.sc (Value.int IntKind.u64 (0 : Int)))
    (AV.ar (4 : Nat) (1 : Nat) fun (i0 : Nat) => AV.sc (Value.int IntKind.u64 (0 : Int))) ∧
    True) ∧
    L22_0 b (IntKind.i64.wrap a) (fun (x : Nat) => (0 : Int)) (fun (x : Nat) => (0 : Int)) res from
    ⟨trivial, ⟨trivial, ⟨trivial, ⟨trivial, ⟨trivial, ⟨⟨⟨trivial, ⟨Sub.refl _, ⟨trivial, ⟨Sub.refl _, ⟨trivial, ⟨Sub.refl _, ⟨trivial, ⟨Sub.refl _, trivial⟩⟩⟩⟩⟩⟩⟩⟩, ⟨trivial, ⟨SubB.refl _, ⟨trivial, ⟨SubB.refl _, trivial⟩⟩⟩⟩⟩, h⟩⟩⟩⟩⟩⟩)
theorem r22_0 (b : Int) (c : Int) (b0f : Nat → Int) (b1f : Nat → Int) (res : AV)
    (h : (decide (c ≤ IntKind.i64.wrap b) = true →
    ∃ (r : Nat → Int),
    Ok Proofs.Try.prog (30 : Nat)
    [AV.ar (4 : Nat) (1 : Nat) fun (i : Nat) => AV.sc (Value.int IntKind.u64 (b1f i)), AV.sc (Value.int IntKind.u8 (IntKind.u8.wrap c))] []
    (AV.ar (4 : Nat) (1 : Nat) fun (i0 : Nat) => AV.sc (Value.int IntKind.u64 (r i0))) [] ∧
    L22_0 b (IntKind.i64.wrap (c + (1 : Int))) b0f r res) ∧
  (decide (c ≤ IntKind.i64.wrap b) = false → Sub (AV.ar (4 : Nat) (1 : Nat) fun (i0 : Nat) => AV.sc (Value.int IntKind.u64 (b1f i0))) res)) :
    L22_0 b c b0f b1f res :=
  rule Go.Am.Seat.tabOk 22 [] Go.Proofs.Try.f22 hf22 [1, 1, 0, 1, 0, 0] (s22_0 b c b0f b1f) (m22_0 b c b0f b1f) res [] 400
    ((Orc.call [] [] (fun (r30 : Nat → Int) => AV.ar (4 : Nat) (1 : Nat) fun (i0 : Nat) => AV.sc (Value.int IntKind.u64 (r30 i0))) (fun (r30 : Nat → Int) => [])
    fun (r30 : Nat → Int) =>
    Orc.cut (nat_lit 3) (s22_0 b (IntKind.i64.wrap (c + (1 : Int))) b0f r30) (m22_0 b (IntKind.i64.wrap (c + (1 : Int))) b0f r30)
    [((1000 : Nat), some (1000 : Nat)), ((1001 : Nat), some (1001 : Nat))]).br
  (Orc.fin (AV.ar (4 : Nat) (1 : Nat) fun (i0 : Nat) => AV.sc (Value.int IntKind.u64 (b1f i0))) [] [])) _ _ (by kernel_rfl) (by kernel_rfl) (show True ∧
  True ∧
    True ∧
    True ∧
    (decide (c ≤ IntKind.i64.wrap b) = true →
    ((0 : Nat) = (0 : Nat) ∧ True) ∧
    True ∧
    True ∧
    ∃ (r : Nat → Int),
    ((True ∧ True ∧ True) ∧
    True ∧
    Ok Proofs.Try.prog (30 : Nat)
    [AV.ar (4 : Nat) (1 : Nat) fun (i : Nat) => AV.sc (Value.int IntKind.u64 (b1f i)), AV.sc (Value.int IntKind.u8 (IntKind.u8.wrap c))]
    [] (AV.ar (4 : Nat) (1 : Nat) fun (i0 : Nat) => AV.sc (Value.int IntKind.u64 (r i0))) []) ∧
    ((0 : Nat) = (0 : Nat) ∧ True) ∧
    True ∧
    True ∧
    True ∧
    ((True ∧
    Sub (AV.sc (Value.int IntKind.u8 b)) (AV.sc (Value.int IntKind.u8 b)) ∧
    True ∧
    Sub (AV.pt (1000 : Nat) [] (0 : Nat)) (AV.pt (1000 : Nat) [] (0 : Nat)) ∧
    True ∧
    Sub (AV.pt (1001 : Nat) [] (0 : Nat)) (AV.pt (1001 : Nat) [] (0 : Nat)) ∧
    True ∧
    Sub (AV.sc (Value.int IntKind.i64 (IntKind.i64.wrap (c + (1 : Int)))))
    (AV.sc (Value.int IntKind.i64 (IntKind.i64.wrap (c + (1 : Int))))) ∧
    True) ∧
    True ∧
    SubB (AV.ar (4 : Nat) (1 : Nat) fun (i0 : Nat) => AV.sc (Value.int IntKind.u64 (b0f i0)))
    (AV.ar (4 : Nat) (1 : Nat) fun (i0 : Nat) => AV.sc (Value.int IntKind.u64 (b0f i0))) ∧
    True ∧
    SubB (AV.ar (4 : Nat) (1 : Nat) fun (i0 : Nat) => AV.sc (Value.int IntKind.u64 (r i0)))
    (AV.ar (4 : Nat) (1 : Nat) fun (i0 : Nat) => AV.sc (Value.int IntKind.u64 (r i0))) ∧
    True) ∧
    L22_0 b (IntKind.i64.wrap (c + (1 : Int))) b0f r res) ∧
    (decide (c ≤ IntKind.i64.wrap b) = false →
    ((0 : Nat) = (0 : Nat) ∧ True) ∧
    ((0 : Nat) = (0 : Nat) ∧ True) ∧
    ((0 : Nat) = (0 : Nat) ∧ True) ∧
    ((True ∧
    Sub (AV.ar (4 : Nat) (1 : Nat) fun (i0 : Nat) => AV.sc (Value.int IntKind.u64 (b1f i0)))
    (AV.ar (4 : Nat) (1 : Nat) fun (i0 : Nat) => AV.sc (Value.int IntKind.u64 (b1f i0))) ∧
    True) ∧
    True) ∧
    Sub (AV.ar (4 : Nat) (1 : Nat) fun (i0 : Nat) => AV.sc (Value.int IntKind.u64 (b1f i0))) res ∧ SubOut [] []) from
    ⟨trivial, ⟨trivial, ⟨trivial, ⟨trivial, (And.elim (fun h4 k4 => ⟨(fun x5 => (fun h5 => ⟨⟨rfl, trivial⟩, ⟨trivial, ⟨trivial, (Exists.elim h5 fun x9 h9 => ⟨x9, (And.elim (fun h10 k10 => ⟨⟨⟨trivial, ⟨trivial, trivial⟩⟩, ⟨trivial, h10⟩⟩, ⟨⟨rfl, trivial⟩, ⟨trivial, ⟨trivial, ⟨trivial, ⟨⟨⟨trivial, ⟨Sub.refl _, ⟨trivial, ⟨Sub.refl _, ⟨trivial, ⟨Sub.refl _, ⟨trivial, ⟨Sub.refl _, trivial⟩⟩⟩⟩⟩⟩⟩⟩, ⟨trivial, ⟨SubB.refl _, ⟨trivial, ⟨SubB.refl _, trivial⟩⟩⟩⟩⟩, k10⟩⟩⟩⟩⟩⟩) h9)⟩)⟩⟩⟩) (h4 x5)), (fun x5 => (fun h5 => ⟨⟨rfl, trivial⟩, ⟨⟨rfl, trivial⟩, ⟨⟨rfl, trivial⟩, ⟨⟨⟨trivial, ⟨Sub.refl _, trivial⟩⟩, trivial⟩, ((fun h10 => ⟨h10, trivial⟩) h5)⟩⟩⟩⟩) (k4 x5))⟩) h)⟩⟩⟩⟩)
theorem hf23 : Go.Proofs.Try.prog.funcs[23]? = some Go.Proofs.Try.f23 := by kernel_rfl
abbrev s23_e (sf : Nat → Int) (tf : Nat → Int) : List (Nat × AV) := [(0, (.ar 4 1 (fun i0 => (.sc (.int .u64 (sf i0)))))), (1, (.ar 4 1 (fun i0 => (.sc (.int .u64 (tf i0))))))]
abbrev m23_e (sf : Nat → Int) (tf : Nat → Int) : List (Nat × Nat × AV) := []
def L23_e (sf : Nat → Int) (tf : Nat → Int) (res : AV) : Prop := Goes ⟨Go.Proofs.Try.prog, 23, [], res, []⟩ (place Go.Proofs.Try.f23 []) (s23_e sf tf) (m23_e sf tf)
theorem a23_e (sf : Nat → Int) (tf : Nat → Int) (res : AV) (h : (∀ slot, fact (look .undef (s23_e sf tf) slot)) → L23_e sf tf res) : L23_e sf tf res :=
  assumeRule 23 [] Go.Proofs.Try.f23 hf23 [] (s23_e sf tf) (m23_e sf tf) res [] _ (by kernel_rfl) h
abbrev s23_0 (t6 : Int) (b0f : Nat → Int) (b1f : Nat → Int) (b2f : Nat → Int) : List (Nat × AV) := [(2, (.pt 1000 [] 0)), (3, (.pt 1001 [] 0)), (4, (.pt 1002 [] 0)), (6, (.sc (.int .i64 t6)))]
abbrev m23_0 (t6 : Int) (b0f : Nat → Int) (b1f : Nat → Int) (b2f : Nat → Int) : List (Nat × Nat × AV) := [(1000, 24, (.ar 4 1 (fun i0 => (.sc (.int .u64 (b0f i0)))))), (1001, 24, (.ar 4 1 (fun i0 => (.sc (.int .u64 (b1f i0)))))), (1002, 24, (.ar 4 1 (fun i0 => (.sc (.int .u64 (b2f i0))))))]
def L23_0 (t6 : Int) (b0f : Nat → Int) (b1f : Nat → Int) (b2f : Nat → Int) (res : AV) : Prop := Goes ⟨Go.Proofs.Try.prog, 23, [], res, []⟩ (place Go.Proofs.Try.f23 [1, 0, 1, 0, 0]) (s23_0 t6 b0f b1f b2f) (m23_0 t6 b0f b1f b2f)
theorem a23_0 (t6 : Int) (b0f : Nat → Int) (b1f : Nat → Int) (b2f : Nat → Int) (res : AV) (h : (∀ slot, fact (look .undef (s23_0 t6 b0f b1f b2f) slot)) → L23_0 t6 b0f b1f b2f res) : L23_0 t6 b0f b1f b2f res :=
  assumeRule 23 [] Go.Proofs.Try.f23 hf23 [1, 0, 1, 0, 0] (s23_0 t6 b0f b1f b2f) (m23_0 t6 b0f b1f b2f) res [] _ (by kernel_rfl) h
theorem o23 (sf : Nat → Int) (tf : Nat → Int) (res : AV) (hnew : newOnly res) (h : L23_e sf tf res) : Ok Go.Proofs.Try.prog 23 [(.ar 4 1 (fun i0 => (.sc (.int .u64 (sf i0))))), (.ar 4 1 (fun i0 => (.sc (.int .u64 (tf i0)))))] [] res [] :=
  okRule2 23 Go.Proofs.Try.f23 hf23 [(.ar 4 1 (fun i0 => (.sc (.int .u64 (sf i0))))), (.ar 4 1 (fun i0 => (.sc (.int .u64 (tf i0)))))] [] res [] [] rfl (by kernel_rfl) (by kernel_rfl) (by kernel_rfl) ⟨hnew, by simp⟩ (L23_e sf tf res) (by kernel_rfl) h
theorem r23_e (sf : Nat → Int) (tf : Nat → Int) (res : AV)
    (h : L23_0 (0 : Int) sf tf (fun (x : Nat) => (0 : Int)) res) :
    L23_e sf tf res :=
  rule Go.Am.Seat.tabOk 23 [] Go.Proofs.Try.f23 hf23 [] (s23_e sf tf) (m23_e sf tf) res [] 400
    (Orc.cut (nat_lit 7) (s23_0 (0 : Int) sf tf fun (x : Nat) => (0 : Int)) (m23_0 (0 : Int) sf tf fun (x : Nat) => (0 : Int))
  [((1000 : Nat), some (2 : Nat)), ((1001 : Nat), some (3 : Nat)), ((1002 : Nat), some (4 : Nat))]) _ _ (by kernel_rfl) (by kernel_rfl) (show True ∧
  True ∧
    True ∧
    True ∧
    ((True ∧
    Sub (AV.pt (1000 : Nat) [] (0 : Nat)) (AV.pt (1000 : Nat) [] (0 : Nat)) ∧
    True ∧
    Sub (AV.pt (1001 : Nat) [] (0 : Nat)) (AV.pt (1001 : Nat) [] (0 : Nat)) ∧
    True ∧
    Sub (AV.pt (1002 : Nat) [] (0 : Nat)) (AV.pt (1002 : Nat) [] (0 : Nat)) ∧
    True ∧ Sub (AV.sc (Value.int IntKind.i64 (0 : Int))) (AV.sc (Value.int IntKind.i64 (0 : Int))) ∧ True) ∧
    True ∧
    SubB (AV.ar (4 : Nat) (1 : Nat) fun (i0 : Nat) => AV.sc (Value.int IntKind.u64 (sf i0)))
    (AV.ar (4 : Nat) (1 : Nat) fun (i0 : Nat) => AV.sc (Value.int IntKind.u64 (sf i0))) ∧
    True ∧
    SubB (AV.ar (4 : Nat) (1 : Nat) fun (i0 : Nat) => AV.sc (Value.int IntKind.u64 (tf i0)))
    (AV.ar (4 : Nat) (1 : Nat) fun (i0 : Nat) => AV.sc (Value.int IntKind.u64 (tf i0))) ∧
    True ∧
    SubB (AV.ar (4 : Nat) (1 : Nat) fun (x : Nat) => AV.sc (Value.int IntKind.u64 (0 : Int)))
    (AV.ar (4 : Nat) (1 : Nat) fun (i0 : Nat) => AV.sc (Value.int IntKind.u64 (0 : Int))) ∧
    True) ∧
    L23_0 (0 : Int) sf tf (fun (x : Nat) => (0 : Int)) res from
    ⟨trivial, ⟨trivial, ⟨trivial, ⟨trivial, ⟨⟨⟨trivial, ⟨Sub.refl _, ⟨trivial, ⟨Sub.refl _, ⟨trivial, ⟨Sub.refl _, ⟨trivial, ⟨Sub.refl _, trivial⟩⟩⟩⟩⟩⟩⟩⟩, ⟨trivial, ⟨SubB.refl _, ⟨trivial, ⟨SubB.refl _, ⟨trivial, ⟨SubB.refl _, trivial⟩⟩⟩⟩⟩⟩⟩, h⟩⟩⟩⟩⟩)
theorem r23_0 (t6 : Int) (b0f : Nat → Int) (b1f : Nat → Int) (b2f : Nat → Int) (res : AV)
    (h : (decide (t6 < (4 : Int)) = true →
    ((0 : Int) ≤ t6 ∧ t6 < (↑(4 : Nat) : Int)) ∧
    t6.toNat < (4 : Nat) ∧
    L23_0 (IntKind.i64.wrap (t6 + (1 : Int)))
    (fun (i : Nat) =>
    bif i.beq t6.toNat then
    IntKind.u64.wrap (↑(BitVec.ofInt IntKind.u64.bits (b0f t6.toNat) ||| BitVec.ofInt IntKind.u64.bits (b1f t6.toNat)).toNat : Int)
    else b0f i)
    b1f b2f res) ∧
  (decide (t6 < (4 : Int)) = false → Sub (AV.ar (4 : Nat) (1 : Nat) fun (i0 : Nat) => AV.sc (Value.int IntKind.u64 (b0f i0))) res)) :
    L23_0 t6 b0f b1f b2f res :=
  rule Go.Am.Seat.tabOk 23 [] Go.Proofs.Try.f23 hf23 [1, 0, 1, 0, 0] (s23_0 t6 b0f b1f b2f) (m23_0 t6 b0f b1f b2f) res [] 400
    ((Orc.cut (nat_lit 9)
    (s23_0 (IntKind.i64.wrap (t6 + (1 : Int)))
    (fun (i : Nat) =>
    bif i.beq t6.toNat then
    IntKind.u64.wrap (↑(BitVec.ofInt IntKind.u64.bits (b0f t6.toNat) ||| BitVec.ofInt IntKind.u64.bits (b1f t6.toNat)).toNat : Int)
    else b0f i)
    b1f b2f)
    (m23_0 (IntKind.i64.wrap (t6 + (1 : Int)))
    (fun (i : Nat) =>
    bif i.beq t6.toNat then
    IntKind.u64.wrap (↑(BitVec.ofInt IntKind.u64.bits (b0f t6.toNat) ||| BitVec.ofInt IntKind.u64.bits (b1f t6.toNat)).toNat : Int)
    else b0f i)
    b1f b2f)
    [((1000 : Nat), some (1000 : Nat)), ((1001 : Nat), some (1001 : Nat)), ((1002 : Nat), some (1002 : Nat))]).br
  (Orc.fin (AV.ar (4 : Nat) (1 : Nat) fun (i0 : Nat) => AV.sc (Value.int IntKind.u64 (b0f i0))) [] [])) _ _ (by kernel_rfl) (by kernel_rfl) (show True ∧
  (decide (t6 < (4 : Int)) = true →
    True ∧
    True ∧
    True ∧
    ((0 : Int) ≤ t6 ∧ t6 < (↑(4 : Nat) : Int)) ∧
    (t6.toNat * (1 : Nat) + (0 : Nat) = plus (0 : Nat) (t6.toNat * (1 : Nat)) ∧ t6.toNat < (4 : Nat) ∧ True) ∧
    True ∧
    ((0 : Int) ≤ t6 ∧ t6 < (↑(4 : Nat) : Int)) ∧
    (t6.toNat * (1 : Nat) + (0 : Nat) = plus (0 : Nat) (t6.toNat * (1 : Nat)) ∧ t6.toNat < (4 : Nat) ∧ True) ∧
    True ∧
    ((0 : Int) ≤ t6 ∧ t6 < (↑(4 : Nat) : Int)) ∧
    (t6.toNat * (1 : Nat) + (0 : Nat) = plus (0 : Nat) (t6.toNat * (1 : Nat)) ∧ (t6.toNat < (4 : Nat) ∧ True) ∧ True) ∧
    True ∧
    True ∧
    ((True ∧
    Sub (AV.pt (1000 : Nat) [] (0 : Nat)) (AV.pt (1000 : Nat) [] (0 : Nat)) ∧
    True ∧
    Sub (AV.pt (1001 : Nat) [] (0 : Nat)) (AV.pt (1001 : Nat) [] (0 : Nat)) ∧
    True ∧
    Sub (AV.pt (1002 : Nat) [] (0 : Nat)) (AV.pt (1002 : Nat) [] (0 : Nat)) ∧
    True ∧
    Sub (AV.sc (Value.int IntKind.i64 (IntKind.i64.wrap (t6 + (1 : Int)))))
    (AV.sc (Value.int IntKind.i64 (IntKind.i64.wrap (t6 + (1 : Int))))) ∧
    True) ∧
    True ∧
    SubB
    (AV.ar (4 : Nat) (1 : Nat) fun (i : Nat) =>
    AV.sc
    (Value.int IntKind.u64
    (bif i.beq t6.toNat then
    IntKind.u64.wrap
    (↑(BitVec.ofInt IntKind.u64.bits (b0f t6.toNat) ||| BitVec.ofInt IntKind.u64.bits (b1f t6.toNat)).toNat :
    Int)
    else b0f i)))
    (AV.ar (4 : Nat) (1 : Nat) fun (i0 : Nat) =>
    AV.sc
    (Value.int IntKind.u64
    (bif i0.beq t6.toNat then
    IntKind.u64.wrap
    (↑(BitVec.ofInt IntKind.u64.bits (b0f t6.toNat) ||| BitVec.ofInt IntKind.u64.bits (b1f t6.toNat)).toNat :
    Int)
    else b0f i0))) ∧
    True ∧
    SubB (AV.ar (4 : Nat) (1 : Nat) fun (i0 : Nat) => AV.sc (Value.int IntKind.u64 (b1f i0)))
    (AV.ar (4 : Nat) (1 : Nat) fun (i0 : Nat) => AV.sc (Value.int IntKind.u64 (b1f i0))) ∧
    True ∧
    SubB (AV.ar (4 : Nat) (1 : Nat) fun (i0 : Nat) => AV.sc (Value.int IntKind.u64 (b2f i0)))
    (AV.ar (4 : Nat) (1 : Nat) fun (i0 : Nat) => AV.sc (Value.int IntKind.u64 (b2f i0))) ∧
    True) ∧
    L23_0 (IntKind.i64.wrap (t6 + (1 : Int)))
    (fun (i : Nat) =>
    bif i.beq t6.toNat then
    IntKind.u64.wrap
    (↑(BitVec.ofInt IntKind.u64.bits (b0f t6.toNat) ||| BitVec.ofInt IntKind.u64.bits (b1f t6.toNat)).toNat : Int)
    else b0f i)
    b1f b2f res) ∧
    (decide (t6 < (4 : Int)) = false →
    ((0 : Nat) = (0 : Nat) ∧ True) ∧
    ((0 : Nat) = (0 : Nat) ∧ True) ∧
    ((0 : Nat) = (0 : Nat) ∧ True) ∧
    ((True ∧
    Sub (AV.ar (4 : Nat) (1 : Nat) fun (i0 : Nat) => AV.sc (Value.int IntKind.u64 (b0f i0)))
    (AV.ar (4 : Nat) (1 : Nat) fun (i0 : Nat) => AV.sc (Value.int IntKind.u64 (b0f i0))) ∧
    True) ∧
    True) ∧
    Sub (AV.ar (4 : Nat) (1 : Nat) fun (i0 : Nat) => AV.sc (Value.int IntKind.u64 (b0f i0))) res ∧ SubOut [] []) from
    ⟨trivial, (And.elim (fun h1 k1 => ⟨(fun x2 => (fun h2 => ⟨trivial, ⟨trivial, ⟨trivial, (And.elim (fun h6 k6 => ⟨(And.elim (fun h7 k7 => ⟨h7, k7⟩) h6), (And.elim (fun h7 k7 => ⟨⟨rfl, ((fun h9 => ⟨h9, trivial⟩) h7)⟩, ⟨trivial, ⟨(And.elim (fun h10 k10 => ⟨h10, k10⟩) h6), ⟨⟨rfl, ⟨h7, trivial⟩⟩, ⟨trivial, ⟨(And.elim (fun h13 k13 => ⟨h13, k13⟩) h6), ⟨⟨rfl, ⟨⟨h7, trivial⟩, trivial⟩⟩, ⟨trivial, ⟨trivial, ⟨⟨⟨trivial, ⟨Sub.refl _, ⟨trivial, ⟨Sub.refl _, ⟨trivial, ⟨Sub.refl _, ⟨trivial, ⟨Sub.refl _, trivial⟩⟩⟩⟩⟩⟩⟩⟩, ⟨trivial, ⟨SubB.refl _, ⟨trivial, ⟨SubB.refl _, ⟨trivial, ⟨SubB.refl _, trivial⟩⟩⟩⟩⟩⟩⟩, k7⟩⟩⟩⟩⟩⟩⟩⟩⟩⟩) k6)⟩) h2)⟩⟩⟩) (h1 x2)), (fun x2 => (fun h2 => ⟨⟨rfl, trivial⟩, ⟨⟨rfl, trivial⟩, ⟨⟨rfl, trivial⟩, ⟨⟨⟨trivial, ⟨Sub.refl _, trivial⟩⟩, trivial⟩, ((fun h7 => ⟨h7, trivial⟩) h2)⟩⟩⟩⟩) (k1 x2))⟩) h)⟩)
theorem hf24 : Go.Proofs.Try.prog.funcs[24]? = some Go.Proofs.Try.f24 := by kernel_rfl
abbrev s24_e (sf : Nat → Int) (tf : Nat → Int) : List (Nat × AV) := [(0, (.ar 4 1 (fun i0 => (.sc (.int .u64 (sf i0)))))), (1, (.ar 4 1 (fun i0 => (.sc (.int .u64 (tf i0))))))]
abbrev m24_e (sf : Nat → Int) (tf : Nat → Int) : List (Nat × Nat × AV) := []
def L24_e (sf : Nat → Int) (tf : Nat → Int) (res : AV) : Prop := Goes ⟨Go.Proofs.Try.prog, 24, [], res, []⟩ (place Go.Proofs.Try.f24 []) (s24_e sf tf) (m24_e sf tf)
theorem a24_e (sf : Nat → Int) (tf : Nat → Int) (res : AV) (h : (∀ slot, fact (look .undef (s24_e sf tf) slot)) → L24_e sf tf res) : L24_e sf tf res :=
  assumeRule 24 [] Go.Proofs.Try.f24 hf24 [] (s24_e sf tf) (m24_e sf tf) res [] _ (by kernel_rfl) h
abbrev s24_0 (t6 : Int) (b0f : Nat → Int) (b1f : Nat → Int) (b2f : Nat → Int) : List (Nat × AV) := [(2, (.pt 1000 [] 0)), (3, (.pt 1001 [] 0)), (4, (.pt 1002 [] 0)), (6, (.sc (.int .i64 t6)))]
abbrev m24_0 (t6 : Int) (b0f : Nat → Int) (b1f : Nat → Int) (b2f : Nat → Int) : List (Nat × Nat × AV) := [(1000, 24, (.ar 4 1 (fun i0 => (.sc (.int .u64 (b0f i0)))))), (1001, 24, (.ar 4 1 (fun i0 => (.sc (.int .u64 (b1f i0)))))), (1002, 24, (.ar 4 1 (fun i0 => (.sc (.int .u64 (b2f i0))))))]
def L24_0 (t6 : Int) (b0f : Nat → Int) (b1f : Nat → Int) (b2f : Nat → Int) (res : AV) : Prop := Goes ⟨Go.Proofs.Try.prog, 24, [], res, []⟩ (place Go.Proofs.Try.f24 [1, 0, 1, 0, 0]) (s24_0 t6 b0f b1f b2f) (m24_0 t6 b0f b1f b2f)
theorem a24_0 (t6 : Int) (b0f : Nat → Int) (b1f : Nat → Int) (b2f : Nat → Int) (res : AV) (h : (∀ slot, fact (look .undef (s24_0 t6 b0f b1f b2f) slot)) → L24_0 t6 b0f b1f b2f res) : L24_0 t6 b0f b1f b2f res :=
  assumeRule 24 [] Go.Proofs.Try.f24 hf24 [1, 0, 1, 0, 0] (s24_0 t6 b0f b1f b2f) (m24_0 t6 b0f b1f b2f) res [] _ (by kernel_rfl) h
theorem o24 (sf : Nat → Int) (tf : Nat → Int) (res : AV) (hnew : newOnly res) (h : L24_e sf tf res) : Ok Go.Proofs.Try.prog 24 [(.ar 4 1 (fun i0 => (.sc (.int .u64 (sf i0))))), (.ar 4 1 (fun i0 => (.sc (.int .u64 (tf i0)))))] [] res [] :=
  okRule2 24 Go.Proofs.Try.f24 hf24 [(.ar 4 1 (fun i0 => (.sc (.int .u64 (sf i0))))), (.ar 4 1 (fun i0 => (.sc (.int .u64 (tf i0)))))] [] res [] [] rfl (by kernel_rfl) (by kernel_rfl) (by kernel_rfl) ⟨hnew, by simp⟩ (L24_e sf tf res) (by kernel_rfl) h
theorem r24_e (sf : Nat → Int) (tf : Nat → Int) (res : AV)
    (h : L24_0 (0 : Int) sf tf (fun (x : Nat) => (0 : Int)) res) :
    L24_e sf tf res :=
  rule Go.Am.Seat.tabOk 24 [] Go.Proofs.Try.f24 hf24 [] (s24_e sf tf) (m24_e sf tf) res [] 400
    (Orc.cut (nat_lit 7) (s24_0 (0 : Int) sf tf fun (x : Nat) => (0 : Int)) (m24_0 (0 : Int) sf tf fun (x : Nat) => (0 : Int))
  [((1000 : Nat), some (2 : Nat)), ((1001 : Nat), some (3 : Nat)), ((1002 : Nat), some (4 : Nat))]) _ _ (by kernel_rfl) (by kernel_rfl) (show True ∧
  True ∧
    True ∧
    True ∧
    ((True ∧
    Sub (AV.pt (1000 : Nat) [] (0 : Nat)) (AV.pt (1000 : Nat) [] (0 : Nat)) ∧
    True ∧
    Sub (AV.pt (1001 : Nat) [] (0 : Nat)) (AV.pt (1001 : Nat) [] (0 : Nat)) ∧
    True ∧
    Sub (AV.pt (1002 : Nat) [] (0 : Nat)) (AV.pt (1002 : Nat) [] (0 : Nat)) ∧
    True ∧ Sub (AV.sc (Value.int IntKind.i64 (0 : Int))) (AV.sc (Value.int IntKind.i64 (0 : Int))) ∧ True) ∧
    True ∧
    SubB (AV.ar (4 : Nat) (1 : Nat) fun (i0 : Nat) => AV.sc (Value.int IntKind.u64 (sf i0)))
    (AV.ar (4 : Nat) (1 : Nat) fun (i0 : Nat) => AV.sc (Value.int IntKind.u64 (sf i0))) ∧
    True ∧
    SubB (AV.ar (4 : Nat) (1 : Nat) fun (i0 : Nat) => AV.sc (Value.int IntKind.u64 (tf i0)))
    (AV.ar (4 : Nat) (1 : Nat) fun (i0 : Nat) => AV.sc (Value.int IntKind.u64 (tf i0))) ∧
    True ∧
    SubB (AV.ar (4 : Nat) (1 : Nat) fun (x : Nat) => AV.sc (Value.int IntKind.u64 (0 : Int)))
    (AV.ar (4 : Nat) (1 : Nat) fun (i0 : Nat) => AV.sc (Value.int IntKind.u64 (0 : Int))) ∧
    True) ∧
    L24_0 (0 : Int) sf tf (fun (x : Nat) => (0 : Int)) res from
    ⟨trivial, ⟨trivial, ⟨trivial, ⟨trivial, ⟨⟨⟨trivial, ⟨Sub.refl _, ⟨trivial, ⟨Sub.refl _, ⟨trivial, ⟨Sub.refl _, ⟨trivial, ⟨Sub.refl _, trivial⟩⟩⟩⟩⟩⟩⟩⟩, ⟨trivial, ⟨SubB.refl _, ⟨trivial, ⟨SubB.refl _, ⟨trivial, ⟨SubB.refl _, trivial⟩⟩⟩⟩⟩⟩⟩, h⟩⟩⟩⟩⟩)
theorem r24_0 (t6 : Int) (b0f : Nat → Int) (b1f : Nat → Int) (b2f : Nat → Int) (res : AV)
    (h : (decide (t6 < (4 : Int)) = true →
    ((0 : Int) ≤ t6 ∧ t6 < (↑(4 : Nat) : Int)) ∧
    t6.toNat < (4 : Nat) ∧
    L24_0 (IntKind.i64.wrap (t6 + (1 : Int)))
    (fun (i : Nat) =>
    bif i.beq t6.toNat then
    IntKind.u64.wrap (↑(BitVec.ofInt IntKind.u64.bits (b0f t6.toNat) &&& BitVec.ofInt IntKind.u64.bits (b1f t6.toNat)).toNat : Int)
    else b0f i)
    b1f b2f res) ∧
  (decide (t6 < (4 : Int)) = false → Sub (AV.ar (4 : Nat) (1 : Nat) fun (i0 : Nat) => AV.sc (Value.int IntKind.u64 (b0f i0))) res)) :
    L24_0 t6 b0f b1f b2f res :=
  rule Go.Am.Seat.tabOk 24 [] Go.Proofs.Try.f24 hf24 [1, 0, 1, 0, 0] (s24_0 t6 b0f b1f b2f) (m24_0 t6 b0f b1f b2f) res [] 400
    ((Orc.cut (nat_lit 9)
    (s24_0 (IntKind.i64.wrap (t6 + (1 : Int)))
    (fun (i : Nat) =>
    bif i.beq t6.toNat then
    IntKind.u64.wrap (↑(BitVec.ofInt IntKind.u64.bits (b0f t6.toNat) &&& BitVec.ofInt IntKind.u64.bits (b1f t6.toNat)).toNat : Int)
    else b0f i)
    b1f b2f)
    (m24_0 (IntKind.i64.wrap (t6 + (1 : Int)))
    (fun (i : Nat) =>
    bif i.beq t6.toNat then
    IntKind.u64.wrap (↑(BitVec.ofInt IntKind.u64.bits (b0f t6.toNat) &&& BitVec.ofInt IntKind.u64.bits (b1f t6.toNat)).toNat : Int)
    else b0f i)
    b1f b2f)
    [((1000 : Nat), some (1000 : Nat)), ((1001 : Nat), some (1001 : Nat)), ((1002 : Nat), some (1002 : Nat))]).br
  (Orc.fin (AV.ar (4 : Nat) (1 : Nat) fun (i0 : Nat) => AV.sc (Value.int IntKind.u64 (b0f i0))) [] [])) _ _ (by kernel_rfl) (by kernel_rfl) (show True ∧
  (decide (t6 < (4 : Int)) = true →
    True ∧
    True ∧
    True ∧
    ((0 : Int) ≤ t6 ∧ t6 < (↑(4 : Nat) : Int)) ∧
    (t6.toNat * (1 : Nat) + (0 : Nat) = plus (0 : Nat) (t6.toNat * (1 : Nat)) ∧ t6.toNat < (4 : Nat) ∧ True) ∧
    True ∧
    ((0 : Int) ≤ t6 ∧ t6 < (↑(4 : Nat) : Int)) ∧
    (t6.toNat * (1 : Nat) + (0 : Nat) = plus (0 : Nat) (t6.toNat * (1 : Nat)) ∧ t6.toNat < (4 : Nat) ∧ True) ∧
    True ∧
    ((0 : Int) ≤ t6 ∧ t6 < (↑(4 : Nat) : Int)) ∧
    (t6.toNat * (1 : Nat) + (0 : Nat) = plus (0 : Nat) (t6.toNat * (1 : Nat)) ∧ (t6.toNat < (4 : Nat) ∧ True) ∧ True) ∧
    True ∧
    True ∧
    ((True ∧
    Sub (AV.pt (1000 : Nat) [] (0 : Nat)) (AV.pt (1000 : Nat) [] (0 : Nat)) ∧
    True ∧
    Sub (AV.pt (1001 : Nat) [] (0 : Nat)) (AV.pt (1001 : Nat) [] (0 : Nat)) ∧
    True ∧
    Sub (AV.pt (1002 : Nat) [] (0 : Nat)) (AV.pt (1002 : Nat) [] (0 : Nat)) ∧
    True ∧
    Sub (AV.sc (Value.int IntKind.i64 (IntKind.i64.wrap (t6 + (1 : Int)))))
    (AV.sc (Value.int IntKind.i64 (IntKind.i64.wrap (t6 + (1 : Int))))) ∧
    True) ∧
    True ∧
    SubB
    (AV.ar (4 : Nat) (1 : Nat) fun (i : Nat) =>
    AV.sc
    (Value.int IntKind.u64
    (bif i.beq t6.toNat then
    IntKind.u64.wrap
    (↑(BitVec.ofInt IntKind.u64.bits (b0f t6.toNat) &&& BitVec.ofInt IntKind.u64.bits (b1f t6.toNat)).toNat :
    Int)
    else b0f i)))
    (AV.ar (4 : Nat) (1 : Nat) fun (i0 : Nat) =>
    AV.sc
    (Value.int IntKind.u64
    (bif i0.beq t6.toNat then
    IntKind.u64.wrap
    (↑(BitVec.ofInt IntKind.u64.bits (b0f t6.toNat) &&& BitVec.ofInt IntKind.u64.bits (b1f t6.toNat)).toNat :
    Int)
    else b0f i0))) ∧
    True ∧
    SubB (AV.ar (4 : Nat) (1 : Nat) fun (i0 : Nat) => AV.sc (Value.int IntKind.u64 (b1f i0)))
    (AV.ar (4 : Nat) (1 : Nat) fun (i0 : Nat) => AV.sc (Value.int IntKind.u64 (b1f i0))) ∧
    True ∧
    SubB (AV.ar (4 : Nat) (1 : Nat) fun (i0 : Nat) => AV.sc (Value.int IntKind.u64 (b2f i0)))
    (AV.ar (4 : Nat) (1 : Nat) fun (i0 : Nat) => AV.sc (Value.int IntKind.u64 (b2f i0))) ∧
    True) ∧
    L24_0 (IntKind.i64.wrap (t6 + (1 : Int)))
    (fun (i : Nat) =>
    bif i.beq t6.toNat then
    IntKind.u64.wrap
    (↑(BitVec.ofInt IntKind.u64.bits (b0f t6.toNat) &&& BitVec.ofInt IntKind.u64.bits (b1f t6.toNat)).toNat : Int)
    else b0f i)
    b1f b2f res) ∧
    (decide (t6 < (4 : Int)) = false →
    ((0 : Nat) = (0 : Nat) ∧ True) ∧
    ((0 : Nat) = (0 : Nat) ∧ True) ∧
    ((0 : Nat) = (0 : Nat) ∧ True) ∧
    ((True ∧
    Sub (AV.ar (4 : Nat) (1 : Nat) fun (i0 : Nat) => AV.sc (Value.int IntKind.u64 (b0f i0)))
    (AV.ar (4 : Nat) (1 : Nat) fun (i0 : Nat) => AV.sc (Value.int IntKind.u64 (b0f i0))) ∧
    True) ∧
    True) ∧
    Sub (AV.ar (4 : Nat) (1 : Nat) fun (i0 : Nat) => AV.sc (Value.int IntKind.u64 (b0f i0))) res ∧ SubOut [] []) from
    ⟨trivial, (And.elim (fun h1 k1 => ⟨(fun x2 => (fun h2 => ⟨trivial, ⟨trivial, ⟨trivial, (And.elim (fun h6 k6 => ⟨(And.elim (fun h7 k7 => ⟨h7, k7⟩) h6), (And.elim (fun h7 k7 => ⟨⟨rfl, ((fun h9 => ⟨h9, trivial⟩) h7)⟩, ⟨trivial, ⟨(And.elim (fun h10 k10 => ⟨h10, k10⟩) h6), ⟨⟨rfl, ⟨h7, trivial⟩⟩, ⟨trivial, ⟨(And.elim (fun h13 k13 => ⟨h13, k13⟩) h6), ⟨⟨rfl, ⟨⟨h7, trivial⟩, trivial⟩⟩, ⟨trivial, ⟨trivial, ⟨⟨⟨trivial, ⟨Sub.refl _, ⟨trivial, ⟨Sub.refl _, ⟨trivial, ⟨Sub.refl _, ⟨trivial, ⟨Sub.refl _, trivial⟩⟩⟩⟩⟩⟩⟩⟩, ⟨trivial, ⟨SubB.refl _, ⟨trivial, ⟨SubB.refl _, ⟨trivial, ⟨SubB.refl _, trivial⟩⟩⟩⟩⟩⟩⟩, k7⟩⟩⟩⟩⟩⟩⟩⟩⟩⟩) k6)⟩) h2)⟩⟩⟩) (h1 x2)), (fun x2 => (fun h2 => ⟨⟨rfl, trivial⟩, ⟨⟨rfl, trivial⟩, ⟨⟨rfl, trivial⟩, ⟨⟨⟨trivial, ⟨Sub.refl _, trivial⟩⟩, trivial⟩, ((fun h7 => ⟨h7, trivial⟩) h2)⟩⟩⟩⟩) (k1 x2))⟩) h)⟩)
theorem hf25 : Go.Proofs.Try.prog.funcs[25]? = some Go.Proofs.Try.f25 := by kernel_rfl
abbrev s25_e (sf : Nat → Int) : List (Nat × AV) := [(0, (.ar 4 1 (fun i0 => (.sc (.int .u64 (sf i0))))))]
abbrev m25_e (sf : Nat → Int) : List (Nat × Nat × AV) := []
def L25_e (sf : Nat → Int) (res : AV) : Prop := Goes ⟨Go.Proofs.Try.prog, 25, [], res, []⟩ (place Go.Proofs.Try.f25 []) (s25_e sf) (m25_e sf)
theorem a25_e (sf : Nat → Int) (res : AV) (h : (∀ slot, fact (look .undef (s25_e sf) slot)) → L25_e sf res) : L25_e sf res :=
  assumeRule 25 [] Go.Proofs.Try.f25 hf25 [] (s25_e sf) (m25_e sf) res [] _ (by kernel_rfl) h
abbrev s25_0 (t4 : Int) (b0f : Nat → Int) (b1f : Nat → Int) : List (Nat × AV) := [(1, (.pt 1000 [] 0)), (2, (.pt 1001 [] 0)), (4, (.sc (.int .i64 t4)))]
abbrev m25_0 (t4 : Int) (b0f : Nat → Int) (b1f : Nat → Int) : List (Nat × Nat × AV) := [(1000, 24, (.ar 4 1 (fun i0 => (.sc (.int .u64 (b0f i0)))))), (1001, 24, (.ar 4 1 (fun i0 => (.sc (.int .u64 (b1f i0))))))]
def L25_0 (t4 : Int) (b0f : Nat → Int) (b1f : Nat → Int) (res : AV) : Prop := Goes ⟨Go.Proofs.Try.prog, 25, [], res, []⟩ (place Go.Proofs.Try.f25 [1, 0, 1, 0, 0]) (s25_0 t4 b0f b1f) (m25_0 t4 b0f b1f)
theorem a25_0 (t4 : Int) (b0f : Nat → Int) (b1f : Nat → Int) (res : AV) (h : (∀ slot, fact (look .undef (s25_0 t4 b0f b1f) slot)) → L25_0 t4 b0f b1f res) : L25_0 t4 b0f b1f res :=
  assumeRule 25 [] Go.Proofs.Try.f25 hf25 [1, 0, 1, 0, 0] (s25_0 t4 b0f b1f) (m25_0 t4 b0f b1f) res [] _ (by kernel_rfl) h
theorem o25 (sf : Nat → Int) (res : AV) (hnew : newOnly res) (h : L25_e sf res) : Ok Go.Proofs.Try.prog 25 [(.ar 4 1 (fun i0 => (.sc (.int .u64 (sf i0)))))] [] res [] :=
  okRule2 25 Go.Proofs.Try.f25 hf25 [(.ar 4 1 (fun i0 => (.sc (.int .u64 (sf i0)))))] [] res [] [] rfl (by kernel_rfl) (by kernel_rfl) (by kernel_rfl) ⟨hnew, by simp⟩ (L25_e sf res) (by kernel_rfl) h
theorem r25_e (sf : Nat → Int) (res : AV)
    (h : L25_0 (0 : Int) sf (fun (x : Nat) => (0 : Int)) res) :
    L25_e sf res :=
  rule Go.Am.Seat.tabOk 25 [] Go.Proofs.Try.f25 hf25 [] (s25_e sf) (m25_e sf) res [] 400
    (Orc.cut (nat_lit 7) (s25_0 (0 : Int) sf fun (x : Nat) => (0 : Int)) (m25_0 (0 : Int) sf fun (x : Nat) => (0 : Int))
  [((1000 : Nat), some (1 : Nat)), ((1001 : Nat), some (2 : Nat))]) _ _ (by kernel_rfl) (by kernel_rfl) (show True ∧
  True ∧
    True ∧
    ((True ∧
    Sub (AV.pt (1000 : Nat) [] (0 : Nat)) (AV.pt (1000 : Nat) [] (0 : Nat)) ∧
    True ∧
    Sub (AV.pt (1001 : Nat) [] (0 : Nat)) (AV.pt (1001 : Nat) [] (0 : Nat)) ∧
    True ∧ Sub (AV.sc (Value.int IntKind.i64 (0 : Int))) (AV.sc (Value.int IntKind.i64 (0 : Int))) ∧ True) ∧
    True ∧
    SubB (AV.ar (4 : Nat) (1 : Nat) fun (i0 : Nat) => AV.sc (Value.int IntKind.u64 (sf i0)))
    (AV.ar (4 : Nat) (1 : Nat) fun (i0 : Nat) => AV.sc (Value.int IntKind.u64 (sf i0))) ∧
    True ∧
    SubB (AV.ar (4 : Nat) (1 : Nat) fun (x : Nat) => AV.sc (Value.int IntKind.u64 (0 : Int)))
    (AV.ar (4 : Nat) (1 : Nat) fun (i0 : Nat) => AV.sc (Value.int IntKind.u64 (0 : Int))) ∧
    True) ∧
    L25_0 (0 : Int) sf (fun (x : Nat) => (0 : Int)) res from
    ⟨trivial, ⟨trivial, ⟨trivial, ⟨⟨⟨trivial, ⟨Sub.refl _, ⟨trivial, ⟨Sub.refl _, ⟨trivial, ⟨Sub.refl _, trivial⟩⟩⟩⟩⟩⟩, ⟨trivial, ⟨SubB.refl _, ⟨trivial, ⟨SubB.refl _, trivial⟩⟩⟩⟩⟩, h⟩⟩⟩⟩)
theorem r25_0 (t4 : Int) (b0f : Nat → Int) (b1f : Nat → Int) (res : AV)
    (h : (decide (t4 < (4 : Int)) = true →
    ((0 : Int) ≤ t4 ∧ t4 < (↑(4 : Nat) : Int)) ∧
    t4.toNat < (4 : Nat) ∧
    L25_0 (IntKind.i64.wrap (t4 + (1 : Int)))
    (fun (i : Nat) =>
    bif i.beq t4.toNat then
    IntKind.u64.wrap
    (↑(BitVec.ofInt IntKind.u64.bits (if IntKind.u64.signed = true then (-1 : Int) else IntKind.u64.max) ^^^
    BitVec.ofInt IntKind.u64.bits (b0f t4.toNat)).toNat :
    Int)
    else b0f i)
    b1f res) ∧
  (decide (t4 < (4 : Int)) = false → Sub (AV.ar (4 : Nat) (1 : Nat) fun (i0 : Nat) => AV.sc (Value.int IntKind.u64 (b0f i0))) res)) :
    L25_0 t4 b0f b1f res :=
  rule Go.Am.Seat.tabOk 25 [] Go.Proofs.Try.f25 hf25 [1, 0, 1, 0, 0] (s25_0 t4 b0f b1f) (m25_0 t4 b0f b1f) res [] 400
    ((Orc.cut (nat_lit 9)
    (s25_0 (IntKind.i64.wrap (t4 + (1 : Int)))
    (fun (i : Nat) =>
    bif i.beq t4.toNat then
    IntKind.u64.wrap
    (↑(BitVec.ofInt IntKind.u64.bits (if IntKind.u64.signed = true then (-1 : Int) else IntKind.u64.max) ^^^
    BitVec.ofInt IntKind.u64.bits (b0f t4.toNat)).toNat :
    Int)
    else b0f i)
    b1f)
    (m25_0 (IntKind.i64.wrap (t4 + (1 : Int)))
    (fun (i : Nat) =>
    bif i.beq t4.toNat then
    IntKind.u64.wrap
    (↑(BitVec.ofInt IntKind.u64.bits (if IntKind.u64.signed = true then (-1 : Int) else IntKind.u64.max) ^^^
    BitVec.ofInt IntKind.u64.bits (b0f t4.toNat)).toNat :
    Int)
    else b0f i)
    b1f)
    [((1000 : Nat), some (1000 : Nat)), ((1001 : Nat), some (1001 : Nat))]).br
  (Orc.fin (AV.ar (4 : Nat) (1 : Nat) fun (i0 : Nat) => AV.sc (Value.int IntKind.u64 (b0f i0))) [] [])) _ _ (by kernel_rfl) (by kernel_rfl) (show True ∧
  (decide (t4 < (4 : Int)) = true →
    True ∧
    True ∧
    True ∧
    True ∧
    ((0 : Int) ≤ t4 ∧ t4 < (↑(4 : Nat) : Int)) ∧
    (t4.toNat * (1 : Nat) + (0 : Nat) = plus (0 : Nat) (t4.toNat * (1 : Nat)) ∧ t4.toNat < (4 : Nat) ∧ True) ∧
    True ∧
    ((0 : Int) ≤ t4 ∧ t4 < (↑(4 : Nat) : Int)) ∧
    (t4.toNat * (1 : Nat) + (0 : Nat) = plus (0 : Nat) (t4.toNat * (1 : Nat)) ∧ (t4.toNat < (4 : Nat) ∧ True) ∧ True) ∧
    True ∧
    True ∧
    ((True ∧
    Sub (AV.pt (1000 : Nat) [] (0 : Nat)) (AV.pt (1000 : Nat) [] (0 : Nat)) ∧
    True ∧
    Sub (AV.pt (1001 : Nat) [] (0 : Nat)) (AV.pt (1001 : Nat) [] (0 : Nat)) ∧
    True ∧
    Sub (AV.sc (Value.int IntKind.i64 (IntKind.i64.wrap (t4 + (1 : Int)))))
    (AV.sc (Value.int IntKind.i64 (IntKind.i64.wrap (t4 + (1 : Int))))) ∧
    True) ∧
    True ∧
    SubB
    (AV.ar (4 : Nat) (1 : Nat) fun (i : Nat) =>
    AV.sc
    (Value.int IntKind.u64
    (bif i.beq t4.toNat then
    IntKind.u64.wrap
    (↑(BitVec.ofInt IntKind.u64.bits (if IntKind.u64.signed = true then (-1 : Int) else IntKind.u64.max) ^^^
    BitVec.ofInt IntKind.u64.bits (b0f t4.toNat)).toNat :
    Int)
    else b0f i)))
    (AV.ar (4 : Nat) (1 : Nat) fun (i0 : Nat) =>
    AV.sc
    (Value.int IntKind.u64
    (bif i0.beq t4.toNat then
    IntKind.u64.wrap
    (↑(BitVec.ofInt IntKind.u64.bits (if IntKind.u64.signed = true then (-1 : Int) else IntKind.u64.max) ^^^
    BitVec.ofInt IntKind.u64.bits (b0f t4.toNat)).toNat :
    Int)
    else b0f i0))) ∧
    True ∧
    SubB (AV.ar (4 : Nat) (1 : Nat) fun (i0 : Nat) => AV.sc (Value.int IntKind.u64 (b1f i0)))
    (AV.ar (4 : Nat) (1 : Nat) fun (i0 : Nat) => AV.sc (Value.int IntKind.u64 (b1f i0))) ∧
    True) ∧
    L25_0 (IntKind.i64.wrap (t4 + (1 : Int)))
    (fun (i : Nat) =>
    bif i.beq t4.toNat then
    IntKind.u64.wrap
    (↑(BitVec.ofInt IntKind.u64.bits (if IntKind.u64.signed = true then (-1 : Int) else IntKind.u64.max) ^^^
    BitVec.ofInt IntKind.u64.bits (b0f t4.toNat)).toNat :
    Int)
    else b0f i)
    b1f res) ∧
    (decide (t4 < (4 : Int)) = false →
    ((0 : Nat) = (0 : Nat) ∧ True) ∧
    ((0 : Nat) = (0 : Nat) ∧ True) ∧
    ((0 : Nat) = (0 : Nat) ∧ True) ∧
    ((True ∧
    Sub (AV.ar (4 : Nat) (1 : Nat) fun (i0 : Nat) => AV.sc (Value.int IntKind.u64 (b0f i0)))
    (AV.ar (4 : Nat) (1 : Nat) fun (i0 : Nat) => AV.sc (Value.int IntKind.u64 (b0f i0))) ∧
    True) ∧
    True) ∧
    Sub (AV.ar (4 : Nat) (1 : Nat) fun (i0 : Nat) => AV.sc (Value.int IntKind.u64 (b0f i0))) res ∧ SubOut [] []) from
    ⟨trivial, (And.elim (fun h1 k1 => ⟨(fun x2 => (fun h2 => ⟨trivial, ⟨trivial, ⟨trivial, ⟨trivial, (And.elim (fun h7 k7 => ⟨(And.elim (fun h8 k8 => ⟨h8, k8⟩) h7), (And.elim (fun h8 k8 => ⟨⟨rfl, ((fun h10 => ⟨h10, trivial⟩) h8)⟩, ⟨trivial, ⟨(And.elim (fun h11 k11 => ⟨h11, k11⟩) h7), ⟨⟨rfl, ⟨⟨h8, trivial⟩, trivial⟩⟩, ⟨trivial, ⟨trivial, ⟨⟨⟨trivial, ⟨Sub.refl _, ⟨trivial, ⟨Sub.refl _, ⟨trivial, ⟨Sub.refl _, trivial⟩⟩⟩⟩⟩⟩, ⟨trivial, ⟨SubB.refl _, ⟨trivial, ⟨SubB.refl _, trivial⟩⟩⟩⟩⟩, k8⟩⟩⟩⟩⟩⟩⟩) k7)⟩) h2)⟩⟩⟩⟩) (h1 x2)), (fun x2 => (fun h2 => ⟨⟨rfl, trivial⟩, ⟨⟨rfl, trivial⟩, ⟨⟨rfl, trivial⟩, ⟨⟨⟨trivial, ⟨Sub.refl _, trivial⟩⟩, trivial⟩, ((fun h7 => ⟨h7, trivial⟩) h2)⟩⟩⟩⟩) (k1 x2))⟩) h)⟩)
theorem hf26 : Go.Proofs.Try.prog.funcs[26]? = some Go.Proofs.Try.f26 := by kernel_rfl
abbrev s26_e (s : ByteArray) (at_ : Int) : List (Nat × AV) := [(0, (.sc (.string s))), (1, (.sc (.int .i64 at_)))]
abbrev m26_e (s : ByteArray) (at_ : Int) : List (Nat × Nat × AV) := []
def L26_e (s : ByteArray) (at_ : Int) (res : AV) : Prop := Goes ⟨Go.Proofs.Try.prog, 26, [], res, []⟩ (place Go.Proofs.Try.f26 []) (s26_e s at_) (m26_e s at_)
theorem a26_e (s : ByteArray) (at_ : Int) (res : AV) (h : (∀ slot, fact (look .undef (s26_e s at_) slot)) → L26_e s at_ res) : L26_e s at_ res :=
  assumeRule 26 [] Go.Proofs.Try.f26 hf26 [] (s26_e s at_) (m26_e s at_) res [] _ (by kernel_rfl) h
abbrev s26_0 (s : ByteArray) (at_ : Int) (not_ : Bool) (b0f : Nat → Int) (b1f : Nat → Int) : List (Nat × AV) := [(0, (.sc (.string s))), (1, (.sc (.int .i64 at_))), (4, (.pt 1000 [] 0)), (7, (.pt 1001 [] 0)), (8, (.sc (.bool not_)))]
abbrev m26_0 (s : ByteArray) (at_ : Int) (not_ : Bool) (b0f : Nat → Int) (b1f : Nat → Int) : List (Nat × Nat × AV) := [(1000, 24, (.ar 4 1 (fun i0 => (.sc (.int .u64 (b0f i0)))))), (1001, 24, (.ar 4 1 (fun i0 => (.sc (.int .u64 (b1f i0))))))]
def L26_0 (s : ByteArray) (at_ : Int) (not_ : Bool) (b0f : Nat → Int) (b1f : Nat → Int) (res : AV) : Prop := Goes ⟨Go.Proofs.Try.prog, 26, [], res, []⟩ (place Go.Proofs.Try.f26 [1, 1, 1, 1, 1, 1]) (s26_0 s at_ not_ b0f b1f) (m26_0 s at_ not_ b0f b1f)
theorem a26_0 (s : ByteArray) (at_ : Int) (not_ : Bool) (b0f : Nat → Int) (b1f : Nat → Int) (res : AV) (h : (∀ slot, fact (look .undef (s26_0 s at_ not_ b0f b1f) slot)) → L26_0 s at_ not_ b0f b1f res) : L26_0 s at_ not_ b0f b1f res :=
  assumeRule 26 [] Go.Proofs.Try.f26 hf26 [1, 1, 1, 1, 1, 1] (s26_0 s at_ not_ b0f b1f) (m26_0 s at_ not_ b0f b1f) res [] _ (by kernel_rfl) h
abbrev s26_1 (s : ByteArray) (at_ : Int) (not_ : Bool) (b0f : Nat → Int) (b1f : Nat → Int) : List (Nat × AV) := [(0, (.sc (.string s))), (1, (.sc (.int .i64 at_))), (4, (.pt 1000 [] 0)), (7, (.pt 1001 [] 0)), (8, (.sc (.bool not_)))]
abbrev m26_1 (s : ByteArray) (at_ : Int) (not_ : Bool) (b0f : Nat → Int) (b1f : Nat → Int) : List (Nat × Nat × AV) := [(1000, 24, (.ar 4 1 (fun i0 => (.sc (.int .u64 (b0f i0)))))), (1001, 24, (.ar 4 1 (fun i0 => (.sc (.int .u64 (b1f i0))))))]
def L26_1 (s : ByteArray) (at_ : Int) (not_ : Bool) (b0f : Nat → Int) (b1f : Nat → Int) (res : AV) : Prop := Goes ⟨Go.Proofs.Try.prog, 26, [], res, []⟩ (place Go.Proofs.Try.f26 [1, 1, 1, 1, 1, 1, 0, 0, 0]) (s26_1 s at_ not_ b0f b1f) (m26_1 s at_ not_ b0f b1f)
theorem a26_1 (s : ByteArray) (at_ : Int) (not_ : Bool) (b0f : Nat → Int) (b1f : Nat → Int) (res : AV) (h : (∀ slot, fact (look .undef (s26_1 s at_ not_ b0f b1f) slot)) → L26_1 s at_ not_ b0f b1f res) : L26_1 s at_ not_ b0f b1f res :=
  assumeRule 26 [] Go.Proofs.Try.f26 hf26 [1, 1, 1, 1, 1, 1, 0, 0, 0] (s26_1 s at_ not_ b0f b1f) (m26_1 s at_ not_ b0f b1f) res [] _ (by kernel_rfl) h
abbrev s26_2 (s : ByteArray) (not_ : Bool) (a : Int) (next : Int) (b : Int) (b0f : Nat → Int) (b1f : Nat → Int) : List (Nat × AV) := [(0, (.sc (.string s))), (4, (.pt 1000 [] 0)), (7, (.pt 1001 [] 0)), (8, (.sc (.bool not_))), (9, (.sc (.int .u8 a))), (10, (.sc (.int .i64 next))), (12, (.sc (.int .u8 b)))]
abbrev m26_2 (s : ByteArray) (not_ : Bool) (a : Int) (next : Int) (b : Int) (b0f : Nat → Int) (b1f : Nat → Int) : List (Nat × Nat × AV) := [(1000, 24, (.ar 4 1 (fun i0 => (.sc (.int .u64 (b0f i0)))))), (1001, 24, (.ar 4 1 (fun i0 => (.sc (.int .u64 (b1f i0))))))]
def L26_2 (s : ByteArray) (not_ : Bool) (a : Int) (next : Int) (b : Int) (b0f : Nat → Int) (b1f : Nat → Int) (res : AV) : Prop := Goes ⟨Go.Proofs.Try.prog, 26, [], res, []⟩ (place Go.Proofs.Try.f26 [1, 1, 1, 1, 1, 1, 0, 0, 0, 1, 0, 1, 1, 1, 1]) (s26_2 s not_ a next b b0f b1f) (m26_2 s not_ a next b b0f b1f)
theorem a26_2 (s : ByteArray) (not_ : Bool) (a : Int) (next : Int) (b : Int) (b0f : Nat → Int) (b1f : Nat → Int) (res : AV) (h : (∀ slot, fact (look .undef (s26_2 s not_ a next b b0f b1f) slot)) → L26_2 s not_ a next b b0f b1f res) : L26_2 s not_ a next b b0f b1f res :=
  assumeRule 26 [] Go.Proofs.Try.f26 hf26 [1, 1, 1, 1, 1, 1, 0, 0, 0, 1, 0, 1, 1, 1, 1] (s26_2 s not_ a next b b0f b1f) (m26_2 s not_ a next b b0f b1f) res [] _ (by kernel_rfl) h
abbrev s26_3 (s : ByteArray) (not_ : Bool) (next : Int) (b : Int) (c : Int) (b0f : Nat → Int) (b1f : Nat → Int) : List (Nat × AV) := [(0, (.sc (.string s))), (4, (.pt 1000 [] 0)), (7, (.pt 1001 [] 0)), (8, (.sc (.bool not_))), (10, (.sc (.int .i64 next))), (12, (.sc (.int .u8 b))), (13, (.sc (.int .i64 c)))]
abbrev m26_3 (s : ByteArray) (not_ : Bool) (next : Int) (b : Int) (c : Int) (b0f : Nat → Int) (b1f : Nat → Int) : List (Nat × Nat × AV) := [(1000, 24, (.ar 4 1 (fun i0 => (.sc (.int .u64 (b0f i0)))))), (1001, 24, (.ar 4 1 (fun i0 => (.sc (.int .u64 (b1f i0))))))]
def L26_3 (s : ByteArray) (not_ : Bool) (next : Int) (b : Int) (c : Int) (b0f : Nat → Int) (b1f : Nat → Int) (res : AV) : Prop := Goes ⟨Go.Proofs.Try.prog, 26, [], res, []⟩ (place Go.Proofs.Try.f26 [1, 1, 1, 1, 1, 1, 0, 0, 0, 1, 0, 1, 1, 1, 1, 0, 1, 0, 0]) (s26_3 s not_ next b c b0f b1f) (m26_3 s not_ next b c b0f b1f)
theorem a26_3 (s : ByteArray) (not_ : Bool) (next : Int) (b : Int) (c : Int) (b0f : Nat → Int) (b1f : Nat → Int) (res : AV) (h : (∀ slot, fact (look .undef (s26_3 s not_ next b c b0f b1f) slot)) → L26_3 s not_ next b c b0f b1f res) : L26_3 s not_ next b c b0f b1f res :=
  assumeRule 26 [] Go.Proofs.Try.f26 hf26 [1, 1, 1, 1, 1, 1, 0, 0, 0, 1, 0, 1, 1, 1, 1, 0, 1, 0, 0] (s26_3 s not_ next b c b0f b1f) (m26_3 s not_ next b c b0f b1f) res [] _ (by kernel_rfl) h
abbrev s26_4 (at_ : Int) (t113 : Int) (b0f : Nat → Int) (b1f : Nat → Int) : List (Nat × AV) := [(1, (.sc (.int .i64 at_))), (4, (.pt 1000 [] 0)), (7, (.pt 1001 [] 0)), (113, (.sc (.int .i64 t113)))]
abbrev m26_4 (at_ : Int) (t113 : Int) (b0f : Nat → Int) (b1f : Nat → Int) : List (Nat × Nat × AV) := [(1000, 24, (.ar 4 1 (fun i0 => (.sc (.int .u64 (b0f i0)))))), (1001, 24, (.ar 4 1 (fun i0 => (.sc (.int .u64 (b1f i0))))))]
def L26_4 (at_ : Int) (t113 : Int) (b0f : Nat → Int) (b1f : Nat → Int) (res : AV) : Prop := Goes ⟨Go.Proofs.Try.prog, 26, [], res, []⟩ (place Go.Proofs.Try.f26 [1, 1, 1, 1, 1, 1, 1, 1, 0, 1, 0, 1, 0, 0]) (s26_4 at_ t113 b0f b1f) (m26_4 at_ t113 b0f b1f)
theorem a26_4 (at_ : Int) (t113 : Int) (b0f : Nat → Int) (b1f : Nat → Int) (res : AV) (h : (∀ slot, fact (look .undef (s26_4 at_ t113 b0f b1f) slot)) → L26_4 at_ t113 b0f b1f res) : L26_4 at_ t113 b0f b1f res :=
  assumeRule 26 [] Go.Proofs.Try.f26 hf26 [1, 1, 1, 1, 1, 1, 1, 1, 0, 1, 0, 1, 0, 0] (s26_4 at_ t113 b0f b1f) (m26_4 at_ t113 b0f b1f) res [] _ (by kernel_rfl) h
abbrev s26_5 (at_ : Int) (b0f : Nat → Int) (b1f : Nat → Int) : List (Nat × AV) := [(1, (.sc (.int .i64 at_))), (4, (.pt 1000 [] 0)), (7, (.pt 1001 [] 0))]
abbrev m26_5 (at_ : Int) (b0f : Nat → Int) (b1f : Nat → Int) : List (Nat × Nat × AV) := [(1000, 24, (.ar 4 1 (fun i0 => (.sc (.int .u64 (b0f i0)))))), (1001, 24, (.ar 4 1 (fun i0 => (.sc (.int .u64 (b1f i0))))))]
def L26_5 (at_ : Int) (b0f : Nat → Int) (b1f : Nat → Int) (res : AV) : Prop := Goes ⟨Go.Proofs.Try.prog, 26, [], res, []⟩ (place Go.Proofs.Try.f26 [1, 1, 1, 1, 1, 1, 1, 1, 1]) (s26_5 at_ b0f b1f) (m26_5 at_ b0f b1f)
theorem a26_5 (at_ : Int) (b0f : Nat → Int) (b1f : Nat → Int) (res : AV) (h : (∀ slot, fact (look .undef (s26_5 at_ b0f b1f) slot)) → L26_5 at_ b0f b1f res) : L26_5 at_ b0f b1f res :=
  assumeRule 26 [] Go.Proofs.Try.f26 hf26 [1, 1, 1, 1, 1, 1, 1, 1, 1] (s26_5 at_ b0f b1f) (m26_5 at_ b0f b1f) res [] _ (by kernel_rfl) h
theorem o26 (s : ByteArray) (at_ : Int) (res : AV) (hnew : newOnly res) (h : L26_e s at_ res) : Ok Go.Proofs.Try.prog 26 [(.sc (.string s)), (.sc (.int .i64 at_))] [] res [] :=
  okRule2 26 Go.Proofs.Try.f26 hf26 [(.sc (.string s)), (.sc (.int .i64 at_))] [] res [] [] rfl (by kernel_rfl) (by kernel_rfl) (by kernel_rfl) ⟨hnew, by simp⟩ (L26_e s at_ res) (by kernel_rfl) h
theorem r26_e (s : ByteArray) (at_ : Int) (res : AV)
    (h : (decide (at_ ≥ (↑s.size : Int)) = false →
    ((0 : Int) ≤ at_ ∧ at_ < (↑s.size : Int)) ∧
    (((↑(byteAt s at_.toNat).toNat : Int) != (91 : Int)) = true →
    Sub
    (AV.cons (1 : Nat) (AV.ar (4 : Nat) (1 : Nat) fun (x : Nat) => AV.sc (Value.int IntKind.u64 (0 : Int)))
    (AV.cons (1 : Nat) (AV.sc (Value.int IntKind.i64 at_)) (AV.cons (1 : Nat) (AV.sc (Value.bool false)) AV.nil))).tup
    res) ∧
    (((↑(byteAt s at_.toNat).toNat : Int) != (91 : Int)) = false →
    (decide (IntKind.i64.wrap (at_ + (1 : Int)) < (↑s.size : Int)) = true →
    ((0 : Int) ≤ IntKind.i64.wrap (at_ + (1 : Int)) ∧ IntKind.i64.wrap (at_ + (1 : Int)) < (↑s.size : Int)) ∧
    (((↑(byteAt s (IntKind.i64.wrap (at_ + (1 : Int))).toNat).toNat : Int) == (94 : Int)) = true →
    L26_0 s (IntKind.i64.wrap (IntKind.i64.wrap (at_ + (1 : Int)) + (1 : Int)))
    ((↑(byteAt s (IntKind.i64.wrap (at_ + (1 : Int))).toNat).toNat : Int) == (94 : Int)) (fun (x : Nat) => (0 : Int))
    (fun (x : Nat) => (0 : Int)) res) ∧
    (((↑(byteAt s (IntKind.i64.wrap (at_ + (1 : Int))).toNat).toNat : Int) == (94 : Int)) = false →
    L26_0 s (IntKind.i64.wrap (at_ + (1 : Int))) ((↑(byteAt s (IntKind.i64.wrap (at_ + (1 : Int))).toNat).toNat : Int) == (94 : Int))
    (fun (x : Nat) => (0 : Int)) (fun (x : Nat) => (0 : Int)) res)) ∧
    (decide (IntKind.i64.wrap (at_ + (1 : Int)) < (↑s.size : Int)) = !true →
    L26_0 s (IntKind.i64.wrap (at_ + (1 : Int))) false (fun (x : Nat) => (0 : Int)) (fun (x : Nat) => (0 : Int)) res))) ∧
  (decide (at_ ≥ (↑s.size : Int)) = !false →
    Sub
    (AV.cons (1 : Nat) (AV.ar (4 : Nat) (1 : Nat) fun (x : Nat) => AV.sc (Value.int IntKind.u64 (0 : Int)))
    (AV.cons (1 : Nat) (AV.sc (Value.int IntKind.i64 at_)) (AV.cons (1 : Nat) (AV.sc (Value.bool false)) AV.nil))).tup
    res)) :
    L26_e s at_ res :=
  rule Go.Am.Seat.tabOk 26 [] Go.Proofs.Try.f26 hf26 [] (s26_e s at_) (m26_e s at_) res [] 400
    (((Orc.fin
    (AV.cons (1 : Nat) (AV.ar (4 : Nat) (1 : Nat) fun (x : Nat) => AV.sc (Value.int IntKind.u64 (0 : Int)))
    (AV.cons (1 : Nat) (AV.sc (Value.int IntKind.i64 at_)) (AV.cons (1 : Nat) (AV.sc (Value.bool false)) AV.nil))).tup
    [] []).br
    (((Orc.cut (nat_lit 1)
    (s26_0 s (IntKind.i64.wrap (IntKind.i64.wrap (at_ + (1 : Int)) + (1 : Int)))
    (bif true then (↑(byteAt s (IntKind.i64.wrap (at_ + (1 : Int))).toNat).toNat : Int) == (94 : Int) else false)
    (fun (x : Nat) => (0 : Int)) fun (x : Nat) => (0 : Int))
    (m26_0 s (IntKind.i64.wrap (IntKind.i64.wrap (at_ + (1 : Int)) + (1 : Int)))
    (bif true then (↑(byteAt s (IntKind.i64.wrap (at_ + (1 : Int))).toNat).toNat : Int) == (94 : Int) else false)
    (fun (x : Nat) => (0 : Int)) fun (x : Nat) => (0 : Int))
    [((1000 : Nat), some (4 : Nat)), ((1001 : Nat), some (7 : Nat))]).br
    (Orc.cut (nat_lit 1)
    (s26_0 s (IntKind.i64.wrap (at_ + (1 : Int)))
    (bif true then (↑(byteAt s (IntKind.i64.wrap (at_ + (1 : Int))).toNat).toNat : Int) == (94 : Int) else false)
    (fun (x : Nat) => (0 : Int)) fun (x : Nat) => (0 : Int))
    (m26_0 s (IntKind.i64.wrap (at_ + (1 : Int)))
    (bif true then (↑(byteAt s (IntKind.i64.wrap (at_ + (1 : Int))).toNat).toNat : Int) == (94 : Int) else false)
    (fun (x : Nat) => (0 : Int)) fun (x : Nat) => (0 : Int))
    [((1000 : Nat), some (4 : Nat)), ((1001 : Nat), some (7 : Nat))])).yes.yes.yes.br
    (Orc.cut (nat_lit 1) (s26_0 s (IntKind.i64.wrap (at_ + (1 : Int))) false (fun (x : Nat) => (0 : Int)) fun (x : Nat) => (0 : Int))
    (m26_0 s (IntKind.i64.wrap (at_ + (1 : Int))) false (fun (x : Nat) => (0 : Int)) fun (x : Nat) => (0 : Int))
    [((1000 : Nat), some (4 : Nat)), ((1001 : Nat), some (7 : Nat))]).no.no.no.no)).yes.yes.yes.br
  (Orc.fin
    (AV.cons (1 : Nat) (AV.ar (4 : Nat) (1 : Nat) fun (x : Nat) => AV.sc (Value.int IntKind.u64 (0 : Int)))
    (AV.cons (1 : Nat) (AV.sc (Value.int IntKind.i64 at_)) (AV.cons (1 : Nat) (AV.sc (Value.bool false)) AV.nil))).tup
    [] []).yes.no.no.no) _ _ (by kernel_rfl) (by kernel_rfl) (show True ∧
  True ∧
    True ∧
    True ∧
    True ∧
    True ∧
    True ∧
    True ∧
    True ∧
    (decide (at_ ≥ (↑s.size : Int)) = false →
    True ∧
    false = false ∧
    True ∧
    false = false ∧
    ((0 : Int) ≤ at_ ∧ at_ < (↑s.size : Int)) ∧
    false = false ∧
    True ∧
    True ∧
    (((↑(byteAt s at_.toNat).toNat : Int) != (91 : Int)) = true →
    ((0 : Nat) = (0 : Nat) ∧ True) ∧
    True ∧
    ((0 : Nat) = (0 : Nat) ∧ True) ∧
    True ∧
    True ∧
    (((0 : Nat) = (0 : Nat) ∧ True) ∧ True ∧ True ∧ True) ∧
    (((True ∧ True ∧ True ∧ True) ∧
    Sub
    (AV.cons (1 : Nat)
    (AV.ar (4 : Nat) (1 : Nat) fun (x : Nat) => AV.sc (Value.int IntKind.u64 (0 : Int)))
    (AV.cons (1 : Nat) (AV.sc (Value.int IntKind.i64 at_))
    (AV.cons (1 : Nat) (AV.sc (Value.bool false)) AV.nil))).tup
    (AV.cons (1 : Nat)
    (AV.ar (4 : Nat) (1 : Nat) fun (x : Nat) => AV.sc (Value.int IntKind.u64 (0 : Int)))
    (AV.cons (1 : Nat) (AV.sc (Value.int IntKind.i64 at_))
    (AV.cons (1 : Nat) (AV.sc (Value.bool false)) AV.nil))).tup ∧
    True) ∧
    True) ∧
    Sub
    (AV.cons (1 : Nat)
    (AV.ar (4 : Nat) (1 : Nat) fun (x : Nat) => AV.sc (Value.int IntKind.u64 (0 : Int)))
    (AV.cons (1 : Nat) (AV.sc (Value.int IntKind.i64 at_))
    (AV.cons (1 : Nat) (AV.sc (Value.bool false)) AV.nil))).tup
    res ∧
    SubOut [] []) ∧
    (((↑(byteAt s at_.toNat).toNat : Int) != (91 : Int)) = false →
    True ∧
    True ∧
    True ∧
    True ∧
    True ∧
    True ∧
    True ∧
    True ∧
    (decide (IntKind.i64.wrap (at_ + (1 : Int)) < (↑s.size : Int)) = true →
    True ∧
    true = true ∧
    True ∧
    true = true ∧
    ((0 : Int) ≤ IntKind.i64.wrap (at_ + (1 : Int)) ∧
    IntKind.i64.wrap (at_ + (1 : Int)) < (↑s.size : Int)) ∧
    true = true ∧
    True ∧
    True ∧
    True ∧
    True ∧
    (((↑(byteAt s (IntKind.i64.wrap (at_ + (1 : Int))).toNat).toNat : Int) ==
    (94 : Int)) =
    true →
    True ∧
    True ∧
    True ∧
    ((True ∧
    Sub (AV.sc (Value.string s)) (AV.sc (Value.string s)) ∧
    True ∧
    Sub
    (AV.sc
    (Value.int IntKind.i64
    (IntKind.i64.wrap
    (IntKind.i64.wrap (at_ + (1 : Int)) +
    (1 : Int)))))
    (AV.sc
    (Value.int IntKind.i64
    (IntKind.i64.wrap
    (IntKind.i64.wrap (at_ + (1 : Int)) +
    (1 : Int))))) ∧
    True ∧
    Sub (AV.pt (1000 : Nat) [] (0 : Nat))
    (AV.pt (1000 : Nat) [] (0 : Nat)) ∧
    True ∧
    Sub (AV.pt (1001 : Nat) [] (0 : Nat))
    (AV.pt (1001 : Nat) [] (0 : Nat)) ∧
    True ∧
    Sub
    (AV.sc
    (Value.bool
    ((↑(byteAt s
    (IntKind.i64.wrap
    (at_ +
    (1 :
    Int))).toNat).toNat :
    Int) ==
    (94 : Int))))
    (AV.sc
    (Value.bool
    ((↑(byteAt s
    (IntKind.i64.wrap
    (at_ +
    (1 :
    Int))).toNat).toNat :
    Int) ==
    (94 : Int)))) ∧
    True) ∧
    True ∧
    SubB
    (AV.ar (4 : Nat) (1 : Nat) fun (x : Nat) =>
    AV.sc (Value.int IntKind.u64 (0 : Int)))
    (AV.ar (4 : Nat) (1 : Nat) fun (i0 : Nat) =>
    AV.sc (Value.int IntKind.u64 (0 : Int))) ∧
    True ∧
    SubB
    (AV.ar (4 : Nat) (1 : Nat) fun (x : Nat) =>
    AV.sc (Value.int IntKind.u64 (0 : Int)))
    (AV.ar (4 : Nat) (1 : Nat) fun (i0 : Nat) =>
    AV.sc (Value.int IntKind.u64 (0 : Int))) ∧
    True) ∧
    L26_0 s
    (IntKind.i64.wrap
    (IntKind.i64.wrap (at_ + (1 : Int)) + (1 : Int)))
    ((↑(byteAt s (IntKind.i64.wrap (at_ + (1 : Int))).toNat).toNat :
    Int) ==
    (94 : Int))
    (fun (x : Nat) => (0 : Int)) (fun (x : Nat) => (0 : Int)) res) ∧
    (((↑(byteAt s (IntKind.i64.wrap (at_ + (1 : Int))).toNat).toNat : Int) ==
    (94 : Int)) =
    false →
    ((True ∧
    Sub (AV.sc (Value.string s)) (AV.sc (Value.string s)) ∧
    True ∧
    Sub
    (AV.sc
    (Value.int IntKind.i64
    (IntKind.i64.wrap (at_ + (1 : Int)))))
    (AV.sc
    (Value.int IntKind.i64
    (IntKind.i64.wrap (at_ + (1 : Int))))) ∧
    True ∧
    Sub (AV.pt (1000 : Nat) [] (0 : Nat))
    (AV.pt (1000 : Nat) [] (0 : Nat)) ∧
    True ∧
    Sub (AV.pt (1001 : Nat) [] (0 : Nat))
    (AV.pt (1001 : Nat) [] (0 : Nat)) ∧
    True ∧
    Sub
    (AV.sc
    (Value.bool
    ((↑(byteAt s
    (IntKind.i64.wrap
    (at_ +
    (1 : Int))).toNat).toNat :
    Int) ==
    (94 : Int))))
    (AV.sc
    (Value.bool
    ((↑(byteAt s
    (IntKind.i64.wrap
    (at_ +
    (1 : Int))).toNat).toNat :
    Int) ==
    (94 : Int)))) ∧
    True) ∧
    True ∧
    SubB
    (AV.ar (4 : Nat) (1 : Nat) fun (x : Nat) =>
    AV.sc (Value.int IntKind.u64 (0 : Int)))
    (AV.ar (4 : Nat) (1 : Nat) fun (i0 : Nat) =>
    AV.sc (Value.int IntKind.u64 (0 : Int))) ∧
    True ∧
    SubB
    (AV.ar (4 : Nat) (1 : Nat) fun (x : Nat) =>
    AV.sc (Value.int IntKind.u64 (0 : Int)))
    (AV.ar (4 : Nat) (1 : Nat) fun (i0 : Nat) =>
    AV.sc (Value.int IntKind.u64 (0 : Int))) ∧
    True) ∧
    L26_0 s (IntKind.i64.wrap (at_ + (1 : Int)))
    ((↑(byteAt s (IntKind.i64.wrap (at_ + (1 : Int))).toNat).toNat :
    Int) ==
    (94 : Int))
    (fun (x : Nat) => (0 : Int)) (fun (x : Nat) => (0 : Int)) res)) ∧
    (decide (IntKind.i64.wrap (at_ + (1 : Int)) < (↑s.size : Int)) = !true →
    true = true ∧
    (!true) = !true ∧
    true = true ∧
    (!true) = !true ∧
    true = true ∧
    (!true) = !true ∧
    true = true ∧
    True ∧
    True ∧
    True ∧
    false = false ∧
    ((True ∧
    Sub (AV.sc (Value.string s)) (AV.sc (Value.string s)) ∧
    True ∧
    Sub
    (AV.sc
    (Value.int IntKind.i64
    (IntKind.i64.wrap (at_ + (1 : Int)))))
    (AV.sc
    (Value.int IntKind.i64
    (IntKind.i64.wrap (at_ + (1 : Int))))) ∧
    True ∧
    Sub (AV.pt (1000 : Nat) [] (0 : Nat))
    (AV.pt (1000 : Nat) [] (0 : Nat)) ∧
    True ∧
    Sub (AV.pt (1001 : Nat) [] (0 : Nat))
    (AV.pt (1001 : Nat) [] (0 : Nat)) ∧
    True ∧
    Sub (AV.sc (Value.bool false))
    (AV.sc (Value.bool false)) ∧
    True) ∧
    True ∧
    SubB
    (AV.ar (4 : Nat) (1 : Nat) fun (x : Nat) =>
    AV.sc (Value.int IntKind.u64 (0 : Int)))
    (AV.ar (4 : Nat) (1 : Nat) fun (i0 : Nat) =>
    AV.sc (Value.int IntKind.u64 (0 : Int))) ∧
    True ∧
    SubB
    (AV.ar (4 : Nat) (1 : Nat) fun (x : Nat) =>
    AV.sc (Value.int IntKind.u64 (0 : Int)))
    (AV.ar (4 : Nat) (1 : Nat) fun (i0 : Nat) =>
    AV.sc (Value.int IntKind.u64 (0 : Int))) ∧
    True) ∧
    L26_0 s (IntKind.i64.wrap (at_ + (1 : Int))) false
    (fun (x : Nat) => (0 : Int)) (fun (x : Nat) => (0 : Int)) res))) ∧
    (decide (at_ ≥ (↑s.size : Int)) = !false →
    true = true ∧
    (!false) = !false ∧
    true = true ∧
    (!false) = !false ∧
    true = true ∧
    (!false) = !false ∧
    true = true ∧
    True ∧
    true = true ∧
    ((0 : Nat) = (0 : Nat) ∧ True) ∧
    True ∧
    ((0 : Nat) = (0 : Nat) ∧ True) ∧
    True ∧
    True ∧
    (((0 : Nat) = (0 : Nat) ∧ True) ∧ True ∧ True ∧ True) ∧
    (((True ∧ True ∧ True ∧ True) ∧
    Sub
    (AV.cons (1 : Nat)
    (AV.ar (4 : Nat) (1 : Nat) fun (x : Nat) => AV.sc (Value.int IntKind.u64 (0 : Int)))
    (AV.cons (1 : Nat) (AV.sc (Value.int IntKind.i64 at_))
    (AV.cons (1 : Nat) (AV.sc (Value.bool false)) AV.nil))).tup
    (AV.cons (1 : Nat)
    (AV.ar (4 : Nat) (1 : Nat) fun (x : Nat) => AV.sc (Value.int IntKind.u64 (0 : Int)))
    (AV.cons (1 : Nat) (AV.sc (Value.int IntKind.i64 at_))
    (AV.cons (1 : Nat) (AV.sc (Value.bool false)) AV.nil))).tup ∧
    True) ∧
    True) ∧
    Sub
    (AV.cons (1 : Nat)
    (AV.ar (4 : Nat) (1 : Nat) fun (x : Nat) => AV.sc (Value.int IntKind.u64 (0 : Int)))
    (AV.cons (1 : Nat) (AV.sc (Value.int IntKind.i64 at_))
    (AV.cons (1 : Nat) (AV.sc (Value.bool false)) AV.nil))).tup
    res ∧
    SubOut [] []) from
    ⟨trivial, ⟨trivial, ⟨trivial, ⟨trivial, ⟨trivial, ⟨trivial, ⟨trivial, ⟨trivial, ⟨trivial, (And.elim (fun h9 k9 => ⟨(fun x10 => (fun h10 => ⟨trivial, ⟨rfl, ⟨trivial, ⟨rfl, (And.elim (fun h15 k15 => ⟨(And.elim (fun h16 k16 => ⟨h16, k16⟩) h15), ⟨rfl, ⟨trivial, ⟨trivial, (And.elim (fun h19 k19 => ⟨(fun x20 => (fun h20 => ⟨⟨rfl, trivial⟩, ⟨trivial, ⟨⟨rfl, trivial⟩, ⟨trivial, ⟨trivial, ⟨⟨⟨rfl, trivial⟩, ⟨trivial, ⟨trivial, trivial⟩⟩⟩, ⟨⟨⟨⟨trivial, ⟨trivial, ⟨trivial, trivial⟩⟩⟩, ⟨Sub.refl _, trivial⟩⟩, trivial⟩, ((fun h28 => ⟨h28, trivial⟩) h20)⟩⟩⟩⟩⟩⟩⟩) (h19 x20)), (fun x20 => (fun h20 => ⟨trivial, ⟨trivial, ⟨trivial, ⟨trivial, ⟨trivial, ⟨trivial, ⟨trivial, ⟨trivial, (And.elim (fun h29 k29 => ⟨(fun x30 => (fun h30 => ⟨trivial, ⟨rfl, ⟨trivial, ⟨rfl, (And.elim (fun h35 k35 => ⟨(And.elim (fun h36 k36 => ⟨h36, k36⟩) h35), ⟨rfl, ⟨trivial, ⟨trivial, ⟨trivial, ⟨trivial, (And.elim (fun h41 k41 => ⟨(fun x42 => (fun h42 => ⟨trivial, ⟨trivial, ⟨trivial, ⟨⟨⟨trivial, ⟨Sub.refl _, ⟨trivial, ⟨Sub.refl _, ⟨trivial, ⟨Sub.refl _, ⟨trivial, ⟨Sub.refl _, ⟨trivial, ⟨Sub.refl _, trivial⟩⟩⟩⟩⟩⟩⟩⟩⟩⟩, ⟨trivial, ⟨SubB.refl _, ⟨trivial, ⟨SubB.refl _, trivial⟩⟩⟩⟩⟩, h42⟩⟩⟩⟩) (h41 x42)), (fun x42 => (fun h42 => ⟨⟨⟨trivial, ⟨Sub.refl _, ⟨trivial, ⟨Sub.refl _, ⟨trivial, ⟨Sub.refl _, ⟨trivial, ⟨Sub.refl _, ⟨trivial, ⟨Sub.refl _, trivial⟩⟩⟩⟩⟩⟩⟩⟩⟩⟩, ⟨trivial, ⟨SubB.refl _, ⟨trivial, ⟨SubB.refl _, trivial⟩⟩⟩⟩⟩, h42⟩) (k41 x42))⟩) k35)⟩⟩⟩⟩⟩⟩) h30)⟩⟩⟩⟩) (h29 x30)), (fun x30 => (fun h30 => ⟨rfl, ⟨rfl, ⟨rfl, ⟨rfl, ⟨rfl, ⟨rfl, ⟨rfl, ⟨trivial, ⟨trivial, ⟨trivial, ⟨rfl, ⟨⟨⟨trivial, ⟨Sub.refl _, ⟨trivial, ⟨Sub.refl _, ⟨trivial, ⟨Sub.refl _, ⟨trivial, ⟨Sub.refl _, ⟨trivial, ⟨Sub.refl _, trivial⟩⟩⟩⟩⟩⟩⟩⟩⟩⟩, ⟨trivial, ⟨SubB.refl _, ⟨trivial, ⟨SubB.refl _, trivial⟩⟩⟩⟩⟩, h30⟩⟩⟩⟩⟩⟩⟩⟩⟩⟩⟩⟩) (k29 x30))⟩) h20)⟩⟩⟩⟩⟩⟩⟩⟩) (k19 x20))⟩) k15)⟩⟩⟩⟩) h10)⟩⟩⟩⟩) (h9 x10)), (fun x10 => (fun h10 => ⟨rfl, ⟨rfl, ⟨rfl, ⟨rfl, ⟨rfl, ⟨rfl, ⟨rfl, ⟨trivial, ⟨rfl, ⟨⟨rfl, trivial⟩, ⟨trivial, ⟨⟨rfl, trivial⟩, ⟨trivial, ⟨trivial, ⟨⟨⟨rfl, trivial⟩, ⟨trivial, ⟨trivial, trivial⟩⟩⟩, ⟨⟨⟨⟨trivial, ⟨trivial, ⟨trivial, trivial⟩⟩⟩, ⟨Sub.refl _, trivial⟩⟩, trivial⟩, ((fun h27 => ⟨h27, trivial⟩) h10)⟩⟩⟩⟩⟩⟩⟩⟩⟩⟩⟩⟩⟩⟩⟩⟩) (k9 x10))⟩) h)⟩⟩⟩⟩⟩⟩⟩⟩⟩)
theorem r26_0 (s : ByteArray) (at_ : Int) (not_ : Bool) (b0f : Nat → Int) (b1f : Nat → Int) (res : AV)
    (h : L26_1 s at_ not_ b0f b1f res) :
    L26_0 s at_ not_ b0f b1f res :=
  rule Go.Am.Seat.tabOk 26 [] Go.Proofs.Try.f26 hf26 [1, 1, 1, 1, 1, 1] (s26_0 s at_ not_ b0f b1f) (m26_0 s at_ not_ b0f b1f) res [] 400
    (Orc.cut (nat_lit 3) (s26_1 s at_ not_ b0f b1f) (m26_1 s at_ not_ b0f b1f) [((1000 : Nat), some (1000 : Nat)), ((1001 : Nat), some (1001 : Nat))]) _ _ (by kernel_rfl) (by kernel_rfl) (show ((True ∧
    Sub (AV.sc (Value.string s)) (AV.sc (Value.string s)) ∧
    True ∧
    Sub (AV.sc (Value.int IntKind.i64 at_)) (AV.sc (Value.int IntKind.i64 at_)) ∧
    True ∧
    Sub (AV.pt (1000 : Nat) [] (0 : Nat)) (AV.pt (1000 : Nat) [] (0 : Nat)) ∧
    True ∧
    Sub (AV.pt (1001 : Nat) [] (0 : Nat)) (AV.pt (1001 : Nat) [] (0 : Nat)) ∧
    True ∧ Sub (AV.sc (Value.bool not_)) (AV.sc (Value.bool not_)) ∧ True) ∧
    True ∧
    SubB (AV.ar (4 : Nat) (1 : Nat) fun (i0 : Nat) => AV.sc (Value.int IntKind.u64 (b0f i0)))
    (AV.ar (4 : Nat) (1 : Nat) fun (i0 : Nat) => AV.sc (Value.int IntKind.u64 (b0f i0))) ∧
    True ∧
    SubB (AV.ar (4 : Nat) (1 : Nat) fun (i0 : Nat) => AV.sc (Value.int IntKind.u64 (b1f i0)))
    (AV.ar (4 : Nat) (1 : Nat) fun (i0 : Nat) => AV.sc (Value.int IntKind.u64 (b1f i0))) ∧
    True) ∧
  L26_1 s at_ not_ b0f b1f res from
    ⟨⟨⟨trivial, ⟨Sub.refl _, ⟨trivial, ⟨Sub.refl _, ⟨trivial, ⟨Sub.refl _, ⟨trivial, ⟨Sub.refl _, ⟨trivial, ⟨Sub.refl _, trivial⟩⟩⟩⟩⟩⟩⟩⟩⟩⟩, ⟨trivial, ⟨SubB.refl _, ⟨trivial, ⟨SubB.refl _, trivial⟩⟩⟩⟩⟩, h⟩)
theorem r26_1 (s : ByteArray) (at_ : Int) (not_ : Bool) (b0f : Nat → Int) (b1f : Nat → Int) (res : AV)
    (h : (decide (at_ < (↑s.size : Int)) = true →
    ((0 : Int) ≤ at_ ∧ at_ < (↑s.size : Int)) ∧
    (((↑(byteAt s at_.toNat).toNat : Int) != (93 : Int)) = true →
    ∃ (r : Int × Int × Bool),
    Ok Proofs.Try.prog (31 : Nat) [AV.sc (Value.string s), AV.sc (Value.int IntKind.i64 at_)] []
    (AV.cons (1 : Nat) (AV.sc (Value.int IntKind.u8 r.fst))
    (AV.cons (1 : Nat) (AV.sc (Value.int IntKind.i64 r.snd.fst)) (AV.cons (1 : Nat) (AV.sc (Value.bool r.snd.snd)) AV.nil))).tup
    [] ∧
    ((!r.snd.snd) = true →
    Sub
    (AV.cons (1 : Nat) (AV.ar (4 : Nat) (1 : Nat) fun (x : Nat) => AV.sc (Value.int IntKind.u64 (0 : Int)))
    (AV.cons (1 : Nat) (AV.sc (Value.int IntKind.i64 r.snd.fst)) (AV.cons (1 : Nat) (AV.sc (Value.bool false)) AV.nil))).tup
    res) ∧
    ((!r.snd.snd) = false →
    (decide (r.snd.fst < (↑s.size : Int)) = true →
    ((0 : Int) ≤ r.snd.fst ∧ r.snd.fst < (↑s.size : Int)) ∧
    (((↑(byteAt s r.snd.fst.toNat).toNat : Int) == (45 : Int)) = true →
    ∃ (r_1 : Int × Int × Bool),
    Ok Proofs.Try.prog (31 : Nat) [AV.sc (Value.string s), AV.sc (Value.int IntKind.i64 (IntKind.i64.wrap (r.snd.fst + (1 : Int))))]
    []
    (AV.cons (1 : Nat) (AV.sc (Value.int IntKind.u8 r_1.fst))
    (AV.cons (1 : Nat) (AV.sc (Value.int IntKind.i64 r_1.snd.fst))
    (AV.cons (1 : Nat) (AV.sc (Value.bool r_1.snd.snd)) AV.nil))).tup
    [] ∧
    ((!r_1.snd.snd) = true →
    Sub
    (AV.cons (1 : Nat) (AV.ar (4 : Nat) (1 : Nat) fun (x : Nat) => AV.sc (Value.int IntKind.u64 (0 : Int)))
    (AV.cons (1 : Nat) (AV.sc (Value.int IntKind.i64 r_1.snd.fst))
    (AV.cons (1 : Nat) (AV.sc (Value.bool false)) AV.nil))).tup
    res) ∧
    ((!r_1.snd.snd) = false →
    (decide (r_1.fst < r.fst) = true →
    Sub
    (AV.cons (1 : Nat) (AV.ar (4 : Nat) (1 : Nat) fun (x : Nat) => AV.sc (Value.int IntKind.u64 (0 : Int)))
    (AV.cons (1 : Nat) (AV.sc (Value.int IntKind.i64 (IntKind.i64.wrap (r_1.snd.fst - (1 : Int)))))
    (AV.cons (1 : Nat) (AV.sc (Value.bool false)) AV.nil))).tup
    res) ∧
    (decide (r_1.fst < r.fst) = false → L26_2 s not_ r.fst r_1.snd.fst r_1.fst b0f b1f res))) ∧
    (((↑(byteAt s r.snd.fst.toNat).toNat : Int) == (45 : Int)) = false → L26_2 s not_ r.fst r.snd.fst r.fst b0f b1f res)) ∧
    (decide (r.snd.fst < (↑s.size : Int)) = !true → L26_2 s not_ r.fst r.snd.fst r.fst b0f b1f res))) ∧
    (((↑(byteAt s at_.toNat).toNat : Int) != (93 : Int)) = false →
    (decide (at_ ≥ (↑s.size : Int)) = true →
    Sub
    (AV.cons (1 : Nat) (AV.ar (4 : Nat) (1 : Nat) fun (x : Nat) => AV.sc (Value.int IntKind.u64 (0 : Int)))
    (AV.cons (1 : Nat) (AV.sc (Value.int IntKind.i64 (↑s.size : Int))) (AV.cons (1 : Nat) (AV.sc (Value.bool false)) AV.nil))).tup
    res) ∧
    (decide (at_ ≥ (↑s.size : Int)) = false → (not_ = true → L26_4 at_ (0 : Int) b0f b1f res) ∧ (not_ = false → L26_5 at_ b0f b1f res)))) ∧
  (decide (at_ < (↑s.size : Int)) = !true →
    (decide (at_ ≥ (↑s.size : Int)) = true →
    Sub
    (AV.cons (1 : Nat) (AV.ar (4 : Nat) (1 : Nat) fun (x : Nat) => AV.sc (Value.int IntKind.u64 (0 : Int)))
    (AV.cons (1 : Nat) (AV.sc (Value.int IntKind.i64 (↑s.size : Int))) (AV.cons (1 : Nat) (AV.sc (Value.bool false)) AV.nil))).tup
    res) ∧
    (decide (at_ ≥ (↑s.size : Int)) = false → (not_ = true → L26_4 at_ (0 : Int) b0f b1f res) ∧ (not_ = false → L26_5 at_ b0f b1f res)))) :
    L26_1 s at_ not_ b0f b1f res :=
  rule Go.Am.Seat.tabOk 26 [] Go.Proofs.Try.f26 hf26 [1, 1, 1, 1, 1, 1, 0, 0, 0] (s26_1 s at_ not_ b0f b1f) (m26_1 s at_ not_ b0f b1f) res [] 400
    (((Orc.call [] []
    (fun (r31 : Int × Int × Bool) =>
    (AV.cons (1 : Nat) (AV.sc (Value.int IntKind.u8 r31.fst))
    (AV.cons (1 : Nat) (AV.sc (Value.int IntKind.i64 r31.snd.fst)) (AV.cons (1 : Nat) (AV.sc (Value.bool r31.snd.snd)) AV.nil))).tup)
    (fun (r31 : Int × Int × Bool) => []) fun (r31 : Int × Int × Bool) =>
    (Orc.fin
    (AV.cons (1 : Nat) (AV.ar (4 : Nat) (1 : Nat) fun (x : Nat) => AV.sc (Value.int IntKind.u64 (0 : Int)))
    (AV.cons (1 : Nat) (AV.sc (Value.int IntKind.i64 r31.snd.fst)) (AV.cons (1 : Nat) (AV.sc (Value.bool false)) AV.nil))).tup
    [] []).br
    (((Orc.call [] []
    (fun (r31 : Int × Int × Bool) =>
    (AV.cons (1 : Nat) (AV.sc (Value.int IntKind.u8 r31.fst))
    (AV.cons (1 : Nat) (AV.sc (Value.int IntKind.i64 r31.snd.fst))
    (AV.cons (1 : Nat) (AV.sc (Value.bool r31.snd.snd)) AV.nil))).tup)
    (fun (r31 : Int × Int × Bool) => []) fun (r31_1 : Int × Int × Bool) =>
    (Orc.fin
    (AV.cons (1 : Nat) (AV.ar (4 : Nat) (1 : Nat) fun (x : Nat) => AV.sc (Value.int IntKind.u64 (0 : Int)))
    (AV.cons (1 : Nat) (AV.sc (Value.int IntKind.i64 r31_1.snd.fst))
    (AV.cons (1 : Nat) (AV.sc (Value.bool false)) AV.nil))).tup
    [] []).br
    ((Orc.fin
    (AV.cons (1 : Nat) (AV.ar (4 : Nat) (1 : Nat) fun (x : Nat) => AV.sc (Value.int IntKind.u64 (0 : Int)))
    (AV.cons (1 : Nat) (AV.sc (Value.int IntKind.i64 (IntKind.i64.wrap (r31_1.snd.fst - (1 : Int)))))
    (AV.cons (1 : Nat) (AV.sc (Value.bool false)) AV.nil))).tup
    [] []).br
    (Orc.cut (nat_lit 1) (s26_2 s not_ r31.fst r31_1.snd.fst r31_1.fst b0f b1f)
    (m26_2 s not_ r31.fst r31_1.snd.fst r31_1.fst b0f b1f)
    [((1000 : Nat), some (1000 : Nat)), ((1001 : Nat), some (1001 : Nat))]))).br
    (Orc.cut (nat_lit 1) (s26_2 s not_ r31.fst r31.snd.fst r31.fst b0f b1f) (m26_2 s not_ r31.fst r31.snd.fst r31.fst b0f b1f)
    [((1000 : Nat), some (1000 : Nat)), ((1001 : Nat), some (1001 : Nat))])).yes.yes.yes.br
    (Orc.cut (nat_lit 1) (s26_2 s not_ r31.fst r31.snd.fst r31.fst b0f b1f) (m26_2 s not_ r31.fst r31.snd.fst r31.fst b0f b1f)
    [((1000 : Nat), some (1000 : Nat)), ((1001 : Nat), some (1001 : Nat))]).no.no.no.no)).br
    ((Orc.fin
    (AV.cons (1 : Nat) (AV.ar (4 : Nat) (1 : Nat) fun (x : Nat) => AV.sc (Value.int IntKind.u64 (0 : Int)))
    (AV.cons (1 : Nat) (AV.sc (Value.int IntKind.i64 (↑s.size : Int))) (AV.cons (1 : Nat) (AV.sc (Value.bool false)) AV.nil))).tup
    [] []).br
    ((Orc.cut (nat_lit 4) (s26_4 at_ (0 : Int) b0f b1f) (m26_4 at_ (0 : Int) b0f b1f)
    [((1000 : Nat), some (1000 : Nat)), ((1001 : Nat), some (1001 : Nat))]).br
    (Orc.cut (nat_lit 1) (s26_5 at_ b0f b1f) (m26_5 at_ b0f b1f)
    [((1000 : Nat), some (1000 : Nat)), ((1001 : Nat), some (1001 : Nat))])))).yes.yes.yes.br
  ((Orc.fin
    (AV.cons (1 : Nat) (AV.ar (4 : Nat) (1 : Nat) fun (x : Nat) => AV.sc (Value.int IntKind.u64 (0 : Int)))
    (AV.cons (1 : Nat) (AV.sc (Value.int IntKind.i64 (↑s.size : Int))) (AV.cons (1 : Nat) (AV.sc (Value.bool false)) AV.nil))).tup
    [] []).br
    ((Orc.cut (nat_lit 4) (s26_4 at_ (0 : Int) b0f b1f) (m26_4 at_ (0 : Int) b0f b1f)
    [((1000 : Nat), some (1000 : Nat)), ((1001 : Nat), some (1001 : Nat))]).br
    (Orc.cut (nat_lit 1) (s26_5 at_ b0f b1f) (m26_5 at_ b0f b1f) [((1000 : Nat), some (1000 : Nat)), ((1001 : Nat), some (1001 : Nat))]))).no.no.no.no) _ _ (by kernel_rfl) (by kernel_rfl) (show True ∧
  True ∧
    True ∧
    True ∧
    True ∧
    (decide (at_ < (↑s.size : Int)) = true →
    True ∧
    true = true ∧
    True ∧
    true = true ∧
    ((0 : Int) ≤ at_ ∧ at_ < (↑s.size : Int)) ∧
    true = true ∧
    True ∧
    True ∧
    (((↑(byteAt s at_.toNat).toNat : Int) != (93 : Int)) = true →
    True ∧
    True ∧
    ∃ (r : Int × Int × Bool),
    ((True ∧ True ∧ True) ∧
    True ∧
    Ok Proofs.Try.prog (31 : Nat) [AV.sc (Value.string s), AV.sc (Value.int IntKind.i64 at_)] []
    (AV.cons (1 : Nat) (AV.sc (Value.int IntKind.u8 r.fst))
    (AV.cons (1 : Nat) (AV.sc (Value.int IntKind.i64 r.snd.fst))
    (AV.cons (1 : Nat) (AV.sc (Value.bool r.snd.snd)) AV.nil))).tup
    []) ∧
    True ∧
    True ∧
    True ∧
    True ∧
    True ∧
    True ∧
    True ∧
    True ∧
    True ∧
    ((!r.snd.snd) = true →
    True ∧
    True ∧
    ((0 : Nat) = (0 : Nat) ∧ True) ∧
    True ∧
    True ∧
    (((0 : Nat) = (0 : Nat) ∧ True) ∧ True ∧ True ∧ True) ∧
    (((True ∧ True ∧ True ∧ True) ∧
    Sub
    (AV.cons (1 : Nat)
    (AV.ar (4 : Nat) (1 : Nat) fun (x : Nat) =>
    AV.sc (Value.int IntKind.u64 (0 : Int)))
    (AV.cons (1 : Nat) (AV.sc (Value.int IntKind.i64 r.snd.fst))
    (AV.cons (1 : Nat) (AV.sc (Value.bool false)) AV.nil))).tup
    (AV.cons (1 : Nat)
    (AV.ar (4 : Nat) (1 : Nat) fun (x : Nat) =>
    AV.sc (Value.int IntKind.u64 (0 : Int)))
    (AV.cons (1 : Nat) (AV.sc (Value.int IntKind.i64 r.snd.fst))
    (AV.cons (1 : Nat) (AV.sc (Value.bool false)) AV.nil))).tup ∧
    True) ∧
    True) ∧
    Sub
    (AV.cons (1 : Nat)
    (AV.ar (4 : Nat) (1 : Nat) fun (x : Nat) =>
    AV.sc (Value.int IntKind.u64 (0 : Int)))
    (AV.cons (1 : Nat) (AV.sc (Value.int IntKind.i64 r.snd.fst))
    (AV.cons (1 : Nat) (AV.sc (Value.bool false)) AV.nil))).tup
    res ∧
    SubOut [] []) ∧
    ((!r.snd.snd) = false →
    True ∧
    True ∧
    True ∧
    True ∧
    True ∧
    True ∧
    True ∧
    (decide (r.snd.fst < (↑s.size : Int)) = true →
    True ∧
    true = true ∧
    True ∧
    true = true ∧
    ((0 : Int) ≤ r.snd.fst ∧ r.snd.fst < (↑s.size : Int)) ∧
    true = true ∧
    True ∧
    True ∧
    (((↑(byteAt s r.snd.fst.toNat).toNat : Int) == (45 : Int)) =
    true →
    True ∧
    True ∧
    True ∧
    ∃ (r_1 : Int × Int × Bool),
    ((True ∧ True ∧ True) ∧
    True ∧
    Ok Proofs.Try.prog (31 : Nat)
    [AV.sc (Value.string s),
    AV.sc
    (Value.int IntKind.i64
    (IntKind.i64.wrap
    (r.snd.fst + (1 : Int))))]
    []
    (AV.cons (1 : Nat)
    (AV.sc (Value.int IntKind.u8 r_1.fst))
    (AV.cons (1 : Nat)
    (AV.sc
    (Value.int IntKind.i64
    r_1.snd.fst))
    (AV.cons (1 : Nat)
    (AV.sc (Value.bool r_1.snd.snd))
    AV.nil))).tup
    []) ∧
    True ∧
    True ∧
    True ∧
    True ∧
    True ∧
    True ∧
    True ∧
    True ∧
    True ∧
    ((!r_1.snd.snd) = true →
    True ∧
    True ∧
    ((0 : Nat) =
    (0 : Nat) ∧
    True) ∧
    True ∧
    True ∧
    (((0 : Nat) =
    (0 :
    Nat) ∧
    True) ∧
    True ∧
    True ∧
    True) ∧
    (((True ∧
    True ∧
    True ∧
    True) ∧
    Sub
    (AV.cons
    (1 :
    Nat)
    (AV.ar
    (4 :
    Nat)
    (1 :
    Nat)
    fun
    (x :
    Nat) =>
    AV.sc
    (Value.int
    IntKind.u64
    (0 :
    Int)))
    (AV.cons
    (1 :
    Nat)
    (AV.sc
    (Value.int
    IntKind.i64
    r_1.snd.fst))
    (AV.cons
    (1 :
    Nat)
    (AV.sc
    (Value.bool
    false))
    AV.nil))).tup
    (AV.cons
    (1 :
    Nat)
    (AV.ar
    (4 :
    Nat)
    (1 :
    Nat)
    fun
    (x :
    Nat) =>
    AV.sc
    (Value.int
    IntKind.u64
    (0 :
    Int)))
    (AV.cons
    (1 :
    Nat)
    (AV.sc
    (Value.int
    IntKind.i64
    r_1.snd.fst))
    (AV.cons
    (1 :
    Nat)
    (AV.sc
    (Value.bool
    false))
    AV.nil))).tup ∧
    True) ∧
    True) ∧
    Sub
    (AV.cons
    (1 :
    Nat)
    (AV.ar
    (4 :
    Nat)
    (1 :
    Nat)
    fun
    (x :
    Nat) =>
    AV.sc
    (Value.int
    IntKind.u64
    (0 :
    Int)))
    (AV.cons
    (1 :
    Nat)
    (AV.sc
    (Value.int
    IntKind.i64
    r_1.snd.fst))
    (AV.cons
    (1 :
    Nat)
    (AV.sc
    (Value.bool
    false))
    AV.nil))).tup
    res ∧
    SubOut []
    []) ∧
    ((!r_1.snd.snd) = false →
    True ∧
    True ∧
    True ∧
    (decide
    (r_1.fst <
    r.fst) =
    true →
    True ∧
    True ∧
    True ∧
    ((0 :
    Nat) =
    (0 :
    Nat) ∧
    True) ∧
    True ∧
    True ∧
    (((0 :
    Nat) =
    (0 :
    Nat) ∧
    True) ∧
    True ∧
    True ∧
    True) ∧
    (((True ∧
    True ∧
    True ∧
    True) ∧
    Sub
    (AV.cons
    (1 :
    Nat)
    (AV.ar
    (4 :
    Nat)
    (1 :
    Nat)
    fun
    (x :
    Nat) =>
    AV.sc
    (Value.int
    IntKind.u64
    (0 :
    Int)))
    (AV.cons
    (1 :
    Nat)
    (AV.sc
    (Value.int
    IntKind.i64
    (IntKind.i64.wrap
    (r_1.snd.fst -
    (1 :
    Int)))))
    (AV.cons
    (1 :
    Nat)
    (AV.sc
    (Value.bool
    false))
    AV.nil))).tup
    (AV.cons
    (1 :
    Nat)
    (AV.ar
    (4 :
    Nat)
    (1 :
    Nat)
    fun
    (x :
    Nat) =>
    AV.sc
    (Value.int
    IntKind.u64
    (0 :
    Int)))
    (AV.cons
    (1 :
    Nat)
    (AV.sc
    (Value.int
    IntKind.i64
    (IntKind.i64.wrap
    (r_1.snd.fst -
    (1 :
    Int)))))
    (AV.cons
    (1 :
    Nat)
    (AV.sc
    (Value.bool
    false))
    AV.nil))).tup ∧
    True) ∧
    True) ∧
    Sub
    (AV.cons
    (1 :
    Nat)
    (AV.ar
    (4 :
    Nat)
    (1 :
    Nat)
    fun
    (x :
    Nat) =>
    AV.sc
    (Value.int
    IntKind.u64
    (0 :
    Int)))
    (AV.cons
    (1 :
    Nat)
    (AV.sc
    (Value.int
    IntKind.i64
    (IntKind.i64.wrap
    (r_1.snd.fst -
    (1 :
    Int)))))
    (AV.cons
    (1 :
    Nat)
    (AV.sc
    (Value.bool
    false))
    AV.nil))).tup
    res ∧
    SubOut
    []
    []) ∧
    (decide
    (r_1.fst <
    r.fst) =
    false →
    ((True ∧
    Sub
    (AV.sc
    (Value.string
    s))
    (AV.sc
    (Value.string
    s)) ∧
    True ∧
    Sub
    (AV.pt
    (1000 :
    Nat)
    []
    (0 :
    Nat))
    (AV.pt
    (1000 :
    Nat)
    []
    (0 :
    Nat)) ∧
    True ∧
    Sub
    (AV.pt
    (1001 :
    Nat)
    []
    (0 :
    Nat))
    (AV.pt
    (1001 :
    Nat)
    []
    (0 :
    Nat)) ∧
    True ∧
    Sub
    (AV.sc
    (Value.bool
    not_))
    (AV.sc
    (Value.bool
    not_)) ∧
    True ∧
    Sub
    (AV.sc
    (Value.int
    IntKind.u8
    r.fst))
    (AV.sc
    (Value.int
    IntKind.u8
    r.fst)) ∧
    True ∧
    Sub
    (AV.sc
    (Value.int
    IntKind.i64
    r_1.snd.fst))
    (AV.sc
    (Value.int
    IntKind.i64
    r_1.snd.fst)) ∧
    True ∧
    Sub
    (AV.sc
    (Value.int
    IntKind.u8
    r_1.fst))
    (AV.sc
    (Value.int
    IntKind.u8
    r_1.fst)) ∧
    True) ∧
    True ∧
    SubB
    (AV.ar
    (4 :
    Nat)
    (1 :
    Nat)
    fun
    (i0 :
    Nat) =>
    AV.sc
    (Value.int
    IntKind.u64
    (b0f
    i0)))
    (AV.ar
    (4 :
    Nat)
    (1 :
    Nat)
    fun
    (i0 :
    Nat) =>
    AV.sc
    (Value.int
    IntKind.u64
    (b0f
    i0))) ∧
    True ∧
    SubB
    (AV.ar
    (4 :
    Nat)
    (1 :
    Nat)
    fun
    (i0 :
    Nat) =>
    AV.sc
    (Value.int
    IntKind.u64
    (b1f
    i0)))
    (AV.ar
    (4 :
    Nat)
    (1 :
    Nat)
    fun
    (i0 :
    Nat) =>
    AV.sc
    (Value.int
    IntKind.u64
    (b1f
    i0))) ∧
    True) ∧
    L26_2 s not_
    r.fst
    r_1.snd.fst
    r_1.fst b0f
    b1f res))) ∧
    (((↑(byteAt s r.snd.fst.toNat).toNat : Int) == (45 : Int)) =
    false →
    ((True ∧
    Sub (AV.sc (Value.string s))
    (AV.sc (Value.string s)) ∧
    True ∧
    Sub (AV.pt (1000 : Nat) [] (0 : Nat))
    (AV.pt (1000 : Nat) [] (0 : Nat)) ∧
    True ∧
    Sub (AV.pt (1001 : Nat) [] (0 : Nat))
    (AV.pt (1001 : Nat) [] (0 : Nat)) ∧
    True ∧
    Sub (AV.sc (Value.bool not_))
    (AV.sc (Value.bool not_)) ∧
    True ∧
    Sub
    (AV.sc
    (Value.int IntKind.u8 r.fst))
    (AV.sc
    (Value.int IntKind.u8
    r.fst)) ∧
    True ∧
    Sub
    (AV.sc
    (Value.int IntKind.i64
    r.snd.fst))
    (AV.sc
    (Value.int IntKind.i64
    r.snd.fst)) ∧
    True ∧
    Sub
    (AV.sc
    (Value.int IntKind.u8
    r.fst))
    (AV.sc
    (Value.int IntKind.u8
    r.fst)) ∧
    True) ∧
    True ∧
    SubB
    (AV.ar (4 : Nat) (1 : Nat) fun (i0 : Nat) =>
    AV.sc (Value.int IntKind.u64 (b0f i0)))
    (AV.ar (4 : Nat) (1 : Nat) fun (i0 : Nat) =>
    AV.sc (Value.int IntKind.u64 (b0f i0))) ∧
    True ∧
    SubB
    (AV.ar (4 : Nat) (1 : Nat) fun (i0 : Nat) =>
    AV.sc (Value.int IntKind.u64 (b1f i0)))
    (AV.ar (4 : Nat) (1 : Nat) fun (i0 : Nat) =>
    AV.sc (Value.int IntKind.u64 (b1f i0))) ∧
    True) ∧
    L26_2 s not_ r.fst r.snd.fst r.fst b0f b1f res)) ∧
    (decide (r.snd.fst < (↑s.size : Int)) = !true →
    true = true ∧
    (!true) = !true ∧
    true = true ∧
    (!true) = !true ∧
    true = true ∧
    (!true) = !true ∧
    true = true ∧
    True ∧
    false = false ∧
    ((True ∧
    Sub (AV.sc (Value.string s))
    (AV.sc (Value.string s)) ∧
    True ∧
    Sub (AV.pt (1000 : Nat) [] (0 : Nat))
    (AV.pt (1000 : Nat) [] (0 : Nat)) ∧
    True ∧
    Sub (AV.pt (1001 : Nat) [] (0 : Nat))
    (AV.pt (1001 : Nat) [] (0 : Nat)) ∧
    True ∧
    Sub (AV.sc (Value.bool not_))
    (AV.sc (Value.bool not_)) ∧
    True ∧
    Sub
    (AV.sc
    (Value.int IntKind.u8 r.fst))
    (AV.sc
    (Value.int IntKind.u8 r.fst)) ∧
    True ∧
    Sub
    (AV.sc
    (Value.int IntKind.i64
    r.snd.fst))
    (AV.sc
    (Value.int IntKind.i64
    r.snd.fst)) ∧
    True ∧
    Sub
    (AV.sc
    (Value.int IntKind.u8
    r.fst))
    (AV.sc
    (Value.int IntKind.u8
    r.fst)) ∧
    True) ∧
    True ∧
    SubB
    (AV.ar (4 : Nat) (1 : Nat) fun (i0 : Nat) =>
    AV.sc (Value.int IntKind.u64 (b0f i0)))
    (AV.ar (4 : Nat) (1 : Nat) fun (i0 : Nat) =>
    AV.sc (Value.int IntKind.u64 (b0f i0))) ∧
    True ∧
    SubB
    (AV.ar (4 : Nat) (1 : Nat) fun (i0 : Nat) =>
    AV.sc (Value.int IntKind.u64 (b1f i0)))
    (AV.ar (4 : Nat) (1 : Nat) fun (i0 : Nat) =>
    AV.sc (Value.int IntKind.u64 (b1f i0))) ∧
    True) ∧
    L26_2 s not_ r.fst r.snd.fst r.fst b0f b1f res))) ∧
    (((↑(byteAt s at_.toNat).toNat : Int) != (93 : Int)) = false →
    True ∧
    True ∧
    True ∧
    True ∧
    (decide (at_ ≥ (↑s.size : Int)) = true →
    True ∧
    True ∧
    True ∧
    ((0 : Nat) = (0 : Nat) ∧ True) ∧
    True ∧
    True ∧
    (((0 : Nat) = (0 : Nat) ∧ True) ∧ True ∧ True ∧ True) ∧
    (((True ∧ True ∧ True ∧ True) ∧
    Sub
    (AV.cons (1 : Nat)
    (AV.ar (4 : Nat) (1 : Nat) fun (x : Nat) => AV.sc (Value.int IntKind.u64 (0 : Int)))
    (AV.cons (1 : Nat) (AV.sc (Value.int IntKind.i64 (↑s.size : Int)))
    (AV.cons (1 : Nat) (AV.sc (Value.bool false)) AV.nil))).tup
    (AV.cons (1 : Nat)
    (AV.ar (4 : Nat) (1 : Nat) fun (x : Nat) => AV.sc (Value.int IntKind.u64 (0 : Int)))
    (AV.cons (1 : Nat) (AV.sc (Value.int IntKind.i64 (↑s.size : Int)))
    (AV.cons (1 : Nat) (AV.sc (Value.bool false)) AV.nil))).tup ∧
    True) ∧
    True) ∧
    Sub
    (AV.cons (1 : Nat)
    (AV.ar (4 : Nat) (1 : Nat) fun (x : Nat) => AV.sc (Value.int IntKind.u64 (0 : Int)))
    (AV.cons (1 : Nat) (AV.sc (Value.int IntKind.i64 (↑s.size : Int)))
    (AV.cons (1 : Nat) (AV.sc (Value.bool false)) AV.nil))).tup
    res ∧
    SubOut [] []) ∧
    (decide (at_ ≥ (↑s.size : Int)) = false →
    True ∧
    (not_ = true →
    True ∧
    ((True ∧
    Sub (AV.sc (Value.int IntKind.i64 at_)) (AV.sc (Value.int IntKind.i64 at_)) ∧
    True ∧
    Sub (AV.pt (1000 : Nat) [] (0 : Nat)) (AV.pt (1000 : Nat) [] (0 : Nat)) ∧
    True ∧
    Sub (AV.pt (1001 : Nat) [] (0 : Nat)) (AV.pt (1001 : Nat) [] (0 : Nat)) ∧
    True ∧
    Sub (AV.sc (Value.int IntKind.i64 (0 : Int)))
    (AV.sc (Value.int IntKind.i64 (0 : Int))) ∧
    True) ∧
    True ∧
    SubB (AV.ar (4 : Nat) (1 : Nat) fun (i0 : Nat) => AV.sc (Value.int IntKind.u64 (b0f i0)))
    (AV.ar (4 : Nat) (1 : Nat) fun (i0 : Nat) => AV.sc (Value.int IntKind.u64 (b0f i0))) ∧
    True ∧
    SubB (AV.ar (4 : Nat) (1 : Nat) fun (i0 : Nat) => AV.sc (Value.int IntKind.u64 (b1f i0)))
    (AV.ar (4 : Nat) (1 : Nat) fun (i0 : Nat) => AV.sc (Value.int IntKind.u64 (b1f i0))) ∧
    True) ∧
    L26_4 at_ (0 : Int) b0f b1f res) ∧
    (not_ = false →
    ((True ∧
    Sub (AV.sc (Value.int IntKind.i64 at_)) (AV.sc (Value.int IntKind.i64 at_)) ∧
    True ∧
    Sub (AV.pt (1000 : Nat) [] (0 : Nat)) (AV.pt (1000 : Nat) [] (0 : Nat)) ∧
    True ∧ Sub (AV.pt (1001 : Nat) [] (0 : Nat)) (AV.pt (1001 : Nat) [] (0 : Nat)) ∧ True) ∧
    True ∧
    SubB (AV.ar (4 : Nat) (1 : Nat) fun (i0 : Nat) => AV.sc (Value.int IntKind.u64 (b0f i0)))
    (AV.ar (4 : Nat) (1 : Nat) fun (i0 : Nat) => AV.sc (Value.int IntKind.u64 (b0f i0))) ∧
    True ∧
    SubB (AV.ar (4 : Nat) (1 : Nat) fun (i0 : Nat) => AV.sc (Value.int IntKind.u64 (b1f i0)))
    (AV.ar (4 : Nat) (1 : Nat) fun (i0 : Nat) => AV.sc (Value.int IntKind.u64 (b1f i0))) ∧
    True) ∧
    L26_5 at_ b0f b1f res)))) ∧
    (decide (at_ < (↑s.size : Int)) = !true →
    true = true ∧
    (!true) = !true ∧
    true = true ∧
    (!true) = !true ∧
    true = true ∧
    (!true) = !true ∧
    true = true ∧
    True ∧
    false = false ∧
    True ∧
    True ∧
    True ∧
    True ∧
    (decide (at_ ≥ (↑s.size : Int)) = true →
    True ∧
    True ∧
    True ∧
    ((0 : Nat) = (0 : Nat) ∧ True) ∧
    True ∧
    True ∧
    (((0 : Nat) = (0 : Nat) ∧ True) ∧ True ∧ True ∧ True) ∧
    (((True ∧ True ∧ True ∧ True) ∧
    Sub
    (AV.cons (1 : Nat)
    (AV.ar (4 : Nat) (1 : Nat) fun (x : Nat) => AV.sc (Value.int IntKind.u64 (0 : Int)))
    (AV.cons (1 : Nat) (AV.sc (Value.int IntKind.i64 (↑s.size : Int)))
    (AV.cons (1 : Nat) (AV.sc (Value.bool false)) AV.nil))).tup
    (AV.cons (1 : Nat)
    (AV.ar (4 : Nat) (1 : Nat) fun (x : Nat) => AV.sc (Value.int IntKind.u64 (0 : Int)))
    (AV.cons (1 : Nat) (AV.sc (Value.int IntKind.i64 (↑s.size : Int)))
    (AV.cons (1 : Nat) (AV.sc (Value.bool false)) AV.nil))).tup ∧
    True) ∧
    True) ∧
    Sub
    (AV.cons (1 : Nat)
    (AV.ar (4 : Nat) (1 : Nat) fun (x : Nat) => AV.sc (Value.int IntKind.u64 (0 : Int)))
    (AV.cons (1 : Nat) (AV.sc (Value.int IntKind.i64 (↑s.size : Int)))
    (AV.cons (1 : Nat) (AV.sc (Value.bool false)) AV.nil))).tup
    res ∧
    SubOut [] []) ∧
    (decide (at_ ≥ (↑s.size : Int)) = false →
    True ∧
    (not_ = true →
    True ∧
    ((True ∧
    Sub (AV.sc (Value.int IntKind.i64 at_)) (AV.sc (Value.int IntKind.i64 at_)) ∧
    True ∧
    Sub (AV.pt (1000 : Nat) [] (0 : Nat)) (AV.pt (1000 : Nat) [] (0 : Nat)) ∧
    True ∧
    Sub (AV.pt (1001 : Nat) [] (0 : Nat)) (AV.pt (1001 : Nat) [] (0 : Nat)) ∧
    True ∧
    Sub (AV.sc (Value.int IntKind.i64 (0 : Int))) (AV.sc (Value.int IntKind.i64 (0 : Int))) ∧
    True) ∧
    True ∧
    SubB (AV.ar (4 : Nat) (1 : Nat) fun (i0 : Nat) => AV.sc (Value.int IntKind.u64 (b0f i0)))
    (AV.ar (4 : Nat) (1 : Nat) fun (i0 : Nat) => AV.sc (Value.int IntKind.u64 (b0f i0))) ∧
    True ∧
    SubB (AV.ar (4 : Nat) (1 : Nat) fun (i0 : Nat) => AV.sc (Value.int IntKind.u64 (b1f i0)))
    (AV.ar (4 : Nat) (1 : Nat) fun (i0 : Nat) => AV.sc (Value.int IntKind.u64 (b1f i0))) ∧
    True) ∧
    L26_4 at_ (0 : Int) b0f b1f res) ∧
    (not_ = false →
    ((True ∧
    Sub (AV.sc (Value.int IntKind.i64 at_)) (AV.sc (Value.int IntKind.i64 at_)) ∧
    True ∧
    Sub (AV.pt (1000 : Nat) [] (0 : Nat)) (AV.pt (1000 : Nat) [] (0 : Nat)) ∧
    True ∧ Sub (AV.pt (1001 : Nat) [] (0 : Nat)) (AV.pt (1001 : Nat) [] (0 : Nat)) ∧ True) ∧
    True ∧
    SubB (AV.ar (4 : Nat) (1 : Nat) fun (i0 : Nat) => AV.sc (Value.int IntKind.u64 (b0f i0)))
    (AV.ar (4 : Nat) (1 : Nat) fun (i0 : Nat) => AV.sc (Value.int IntKind.u64 (b0f i0))) ∧
    True ∧
    SubB (AV.ar (4 : Nat) (1 : Nat) fun (i0 : Nat) => AV.sc (Value.int IntKind.u64 (b1f i0)))
    (AV.ar (4 : Nat) (1 : Nat) fun (i0 : Nat) => AV.sc (Value.int IntKind.u64 (b1f i0))) ∧
    True) ∧
    L26_5 at_ b0f b1f res))) from
    ⟨trivial, ⟨trivial, ⟨trivial, ⟨trivial, ⟨trivial, (And.elim (fun h5 k5 => ⟨(fun x6 => (fun h6 => ⟨trivial, ⟨rfl, ⟨trivial, ⟨rfl, (And.elim (fun h11 k11 => ⟨(And.elim (fun h12 k12 => ⟨h12, k12⟩) h11), ⟨rfl, ⟨trivial, ⟨trivial, (And.elim (fun h15 k15 => ⟨(fun x16 => (fun h16 => ⟨trivial, ⟨trivial, (Exists.elim h16 fun x19 h19 => ⟨x19, (And.elim (fun h20 k20 => ⟨⟨⟨trivial, ⟨trivial, trivial⟩⟩, ⟨trivial, h20⟩⟩, ⟨trivial, ⟨trivial, ⟨trivial, ⟨trivial, ⟨trivial, ⟨trivial, ⟨trivial, ⟨trivial, ⟨trivial, (And.elim (fun h30 k30 => ⟨(fun x31 => (fun h31 => ⟨trivial, ⟨trivial, ⟨⟨rfl, trivial⟩, ⟨trivial, ⟨trivial, ⟨⟨⟨rfl, trivial⟩, ⟨trivial, ⟨trivial, trivial⟩⟩⟩, ⟨⟨⟨⟨trivial, ⟨trivial, ⟨trivial, trivial⟩⟩⟩, ⟨Sub.refl _, trivial⟩⟩, trivial⟩, ((fun h39 => ⟨h39, trivial⟩) h31)⟩⟩⟩⟩⟩⟩⟩) (h30 x31)), (fun x31 => (fun h31 => ⟨trivial, ⟨trivial, ⟨trivial, ⟨trivial, ⟨trivial, ⟨trivial, ⟨trivial, (And.elim (fun h39 k39 => ⟨(fun x40 => (fun h40 => ⟨trivial, ⟨rfl, ⟨trivial, ⟨rfl, (And.elim (fun h45 k45 => ⟨(And.elim (fun h46 k46 => ⟨h46, k46⟩) h45), ⟨rfl, ⟨trivial, ⟨trivial, (And.elim (fun h49 k49 => ⟨(fun x50 => (fun h50 => ⟨trivial, ⟨trivial, ⟨trivial, (Exists.elim h50 fun x54 h54 => ⟨x54, (And.elim (fun h55 k55 => ⟨⟨⟨trivial, ⟨trivial, trivial⟩⟩, ⟨trivial, h55⟩⟩, ⟨trivial, ⟨trivial, ⟨trivial, ⟨trivial, ⟨trivial, ⟨trivial, ⟨trivial, ⟨trivial, ⟨trivial, (And.elim (fun h65 k65 => ⟨(fun x66 => (fun h66 => ⟨trivial, ⟨trivial, ⟨⟨rfl, trivial⟩, ⟨trivial, ⟨trivial, ⟨⟨⟨rfl, trivial⟩, ⟨trivial, ⟨trivial, trivial⟩⟩⟩, ⟨⟨⟨⟨trivial, ⟨trivial, ⟨trivial, trivial⟩⟩⟩, ⟨Sub.refl _, trivial⟩⟩, trivial⟩, ((fun h74 => ⟨h74, trivial⟩) h66)⟩⟩⟩⟩⟩⟩⟩) (h65 x66)), (fun x66 => (fun h66 => ⟨trivial, ⟨trivial, ⟨trivial, (And.elim (fun h70 k70 => ⟨(fun x71 => (fun h71 => ⟨trivial, ⟨trivial, ⟨trivial, ⟨⟨rfl, trivial⟩, ⟨trivial, ⟨trivial, ⟨⟨⟨rfl, trivial⟩, ⟨trivial, ⟨trivial, trivial⟩⟩⟩, ⟨⟨⟨⟨trivial, ⟨trivial, ⟨trivial, trivial⟩⟩⟩, ⟨Sub.refl _, trivial⟩⟩, trivial⟩, ((fun h80 => ⟨h80, trivial⟩) h71)⟩⟩⟩⟩⟩⟩⟩⟩) (h70 x71)), (fun x71 => (fun h71 => ⟨⟨⟨trivial, ⟨Sub.refl _, ⟨trivial, ⟨Sub.refl _, ⟨trivial, ⟨Sub.refl _, ⟨trivial, ⟨Sub.refl _, ⟨trivial, ⟨Sub.refl _, ⟨trivial, ⟨Sub.refl _, ⟨trivial, ⟨Sub.refl _, trivial⟩⟩⟩⟩⟩⟩⟩⟩⟩⟩⟩⟩⟩⟩, ⟨trivial, ⟨SubB.refl _, ⟨trivial, ⟨SubB.refl _, trivial⟩⟩⟩⟩⟩, h71⟩) (k70 x71))⟩) h66)⟩⟩⟩) (k65 x66))⟩) k55)⟩⟩⟩⟩⟩⟩⟩⟩⟩⟩) h54)⟩)⟩⟩⟩) (h49 x50)), (fun x50 => (fun h50 => ⟨⟨⟨trivial, ⟨Sub.refl _, ⟨trivial, ⟨Sub.refl _, ⟨trivial, ⟨Sub.refl _, ⟨trivial, ⟨Sub.refl _, ⟨trivial, ⟨Sub.refl _, ⟨trivial, ⟨Sub.refl _, ⟨trivial, ⟨Sub.refl _, trivial⟩⟩⟩⟩⟩⟩⟩⟩⟩⟩⟩⟩⟩⟩, ⟨trivial, ⟨SubB.refl _, ⟨trivial, ⟨SubB.refl _, trivial⟩⟩⟩⟩⟩, h50⟩) (k49 x50))⟩) k45)⟩⟩⟩⟩) h40)⟩⟩⟩⟩) (h39 x40)), (fun x40 => (fun h40 => ⟨rfl, ⟨rfl, ⟨rfl, ⟨rfl, ⟨rfl, ⟨rfl, ⟨rfl, ⟨trivial, ⟨rfl, ⟨⟨⟨trivial, ⟨Sub.refl _, ⟨trivial, ⟨Sub.refl _, ⟨trivial, ⟨Sub.refl _, ⟨trivial, ⟨Sub.refl _, ⟨trivial, ⟨Sub.refl _, ⟨trivial, ⟨Sub.refl _, ⟨trivial, ⟨Sub.refl _, trivial⟩⟩⟩⟩⟩⟩⟩⟩⟩⟩⟩⟩⟩⟩, ⟨trivial, ⟨SubB.refl _, ⟨trivial, ⟨SubB.refl _, trivial⟩⟩⟩⟩⟩, h40⟩⟩⟩⟩⟩⟩⟩⟩⟩⟩) (k39 x40))⟩) h31)⟩⟩⟩⟩⟩⟩⟩) (k30 x31))⟩) k20)⟩⟩⟩⟩⟩⟩⟩⟩⟩⟩) h19)⟩)⟩⟩) (h15 x16)), (fun x16 => (fun h16 => ⟨trivial, ⟨trivial, ⟨trivial, ⟨trivial, (And.elim (fun h21 k21 => ⟨(fun x22 => (fun h22 => ⟨trivial, ⟨trivial, ⟨trivial, ⟨⟨rfl, trivial⟩, ⟨trivial, ⟨trivial, ⟨⟨⟨rfl, trivial⟩, ⟨trivial, ⟨trivial, trivial⟩⟩⟩, ⟨⟨⟨⟨trivial, ⟨trivial, ⟨trivial, trivial⟩⟩⟩, ⟨Sub.refl _, trivial⟩⟩, trivial⟩, ((fun h31 => ⟨h31, trivial⟩) h22)⟩⟩⟩⟩⟩⟩⟩⟩) (h21 x22)), (fun x22 => (fun h22 => ⟨trivial, (And.elim (fun h24 k24 => ⟨(fun x25 => (fun h25 => ⟨trivial, ⟨⟨⟨trivial, ⟨Sub.refl _, ⟨trivial, ⟨Sub.refl _, ⟨trivial, ⟨Sub.refl _, ⟨trivial, ⟨Sub.refl _, trivial⟩⟩⟩⟩⟩⟩⟩⟩, ⟨trivial, ⟨SubB.refl _, ⟨trivial, ⟨SubB.refl _, trivial⟩⟩⟩⟩⟩, h25⟩⟩) (h24 x25)), (fun x25 => (fun h25 => ⟨⟨⟨trivial, ⟨Sub.refl _, ⟨trivial, ⟨Sub.refl _, ⟨trivial, ⟨Sub.refl _, trivial⟩⟩⟩⟩⟩⟩, ⟨trivial, ⟨SubB.refl _, ⟨trivial, ⟨SubB.refl _, trivial⟩⟩⟩⟩⟩, h25⟩) (k24 x25))⟩) h22)⟩) (k21 x22))⟩) h16)⟩⟩⟩⟩) (k15 x16))⟩) k11)⟩⟩⟩⟩) h6)⟩⟩⟩⟩) (h5 x6)), (fun x6 => (fun h6 => ⟨rfl, ⟨rfl, ⟨rfl, ⟨rfl, ⟨rfl, ⟨rfl, ⟨rfl, ⟨trivial, ⟨rfl, ⟨trivial, ⟨trivial, ⟨trivial, ⟨trivial, (And.elim (fun h20 k20 => ⟨(fun x21 => (fun h21 => ⟨trivial, ⟨trivial, ⟨trivial, ⟨⟨rfl, trivial⟩, ⟨trivial, ⟨trivial, ⟨⟨⟨rfl, trivial⟩, ⟨trivial, ⟨trivial, trivial⟩⟩⟩, ⟨⟨⟨⟨trivial, ⟨trivial, ⟨trivial, trivial⟩⟩⟩, ⟨Sub.refl _, trivial⟩⟩, trivial⟩, ((fun h30 => ⟨h30, trivial⟩) h21)⟩⟩⟩⟩⟩⟩⟩⟩) (h20 x21)), (fun x21 => (fun h21 => ⟨trivial, (And.elim (fun h23 k23 => ⟨(fun x24 => (fun h24 => ⟨trivial, ⟨⟨⟨trivial, ⟨Sub.refl _, ⟨trivial, ⟨Sub.refl _, ⟨trivial, ⟨Sub.refl _, ⟨trivial, ⟨Sub.refl _, trivial⟩⟩⟩⟩⟩⟩⟩⟩, ⟨trivial, ⟨SubB.refl _, ⟨trivial, ⟨SubB.refl _, trivial⟩⟩⟩⟩⟩, h24⟩⟩) (h23 x24)), (fun x24 => (fun h24 => ⟨⟨⟨trivial, ⟨Sub.refl _, ⟨trivial, ⟨Sub.refl _, ⟨trivial, ⟨Sub.refl _, trivial⟩⟩⟩⟩⟩⟩, ⟨trivial, ⟨SubB.refl _, ⟨trivial, ⟨SubB.refl _, trivial⟩⟩⟩⟩⟩, h24⟩) (k23 x24))⟩) h21)⟩) (k20 x21))⟩) h6)⟩⟩⟩⟩⟩⟩⟩⟩⟩⟩⟩⟩⟩) (k5 x6))⟩) h)⟩⟩⟩⟩⟩)
theorem r26_2 (s : ByteArray) (not_ : Bool) (a : Int) (next : Int) (b : Int) (b0f : Nat → Int) (b1f : Nat → Int) (res : AV)
    (h : L26_3 s not_ next b (IntKind.i64.wrap a) b0f b1f res) :
    L26_2 s not_ a next b b0f b1f res :=
  rule Go.Am.Seat.tabOk 26 [] Go.Proofs.Try.f26 hf26 [1, 1, 1, 1, 1, 1, 0, 0, 0, 1, 0, 1, 1, 1, 1] (s26_2 s not_ a next b b0f b1f) (m26_2 s not_ a next b b0f b1f) res [] 400
    (Orc.cut (nat_lit 5) (s26_3 s not_ next b (IntKind.i64.wrap a) b0f b1f) (m26_3 s not_ next b (IntKind.i64.wrap a) b0f b1f)
  [((1000 : Nat), some (1000 : Nat)), ((1001 : Nat), some (1001 : Nat))]) _ _ (by kernel_rfl) (by kernel_rfl) (show True ∧
  True ∧
    True ∧
    ((True ∧
    Sub (AV.sc (Value.string s)) (AV.sc (Value.string s)) ∧
    True ∧
    Sub (AV.pt (1000 : Nat) [] (0 : Nat)) (AV.pt (1000 : Nat) [] (0 : Nat)) ∧
    True ∧
    Sub (AV.pt (1001 : Nat) [] (0 : Nat)) (AV.pt (1001 : Nat) [] (0 : Nat)) ∧
    True ∧
    Sub (AV.sc (Value.bool not_)) (AV.sc (Value.bool not_)) ∧
    True ∧
    Sub (AV.sc (Value.int IntKind.i64 next)) (AV.sc (Value.int IntKind.i64 next)) ∧
    True ∧
    Sub (AV.sc (Value.int IntKind.u8 b)) (AV.sc (Value.int IntKind.u8 b)) ∧
    True ∧ Sub (AV.sc (Value.int IntKind.i64 (IntKind.i64.wrap a))) (AV.sc (Value.int IntKind.i64 (IntKind.i64.wrap a))) ∧ True) ∧
    True ∧
    SubB (AV.ar (4 : Nat) (1 : Nat) fun (i0 : Nat) => AV.sc (Value.int IntKind.u64 (b0f i0)))
    (AV.ar (4 : Nat) (1 : Nat) fun (i0 : Nat) => AV.sc (Value.int IntKind.u64 (b0f i0))) ∧
    True ∧
    SubB (AV.ar (4 : Nat) (1 : Nat) fun (i0 : Nat) => AV.sc (Value.int IntKind.u64 (b1f i0)))
    (AV.ar (4 : Nat) (1 : Nat) fun (i0 : Nat) => AV.sc (Value.int IntKind.u64 (b1f i0))) ∧
    True) ∧
    L26_3 s not_ next b (IntKind.i64.wrap a) b0f b1f res from
    ⟨trivial, ⟨trivial, ⟨trivial, ⟨⟨⟨trivial, ⟨Sub.refl _, ⟨trivial, ⟨Sub.refl _, ⟨trivial, ⟨Sub.refl _, ⟨trivial, ⟨Sub.refl _, ⟨trivial, ⟨Sub.refl _, ⟨trivial, ⟨Sub.refl _, ⟨trivial, ⟨Sub.refl _, trivial⟩⟩⟩⟩⟩⟩⟩⟩⟩⟩⟩⟩⟩⟩, ⟨trivial, ⟨SubB.refl _, ⟨trivial, ⟨SubB.refl _, trivial⟩⟩⟩⟩⟩, h⟩⟩⟩⟩)
theorem r26_3 (s : ByteArray) (not_ : Bool) (next : Int) (b : Int) (c : Int) (b0f : Nat → Int) (b1f : Nat → Int) (res : AV)
    (h : (decide (c ≤ IntKind.i64.wrap b) = true →
    ∃ (r : Nat → Int),
    Ok Proofs.Try.prog (30 : Nat)
    [AV.ar (4 : Nat) (1 : Nat) fun (i : Nat) => AV.sc (Value.int IntKind.u64 (b1f i)), AV.sc (Value.int IntKind.u8 (IntKind.u8.wrap c))] []
    (AV.ar (4 : Nat) (1 : Nat) fun (i0 : Nat) => AV.sc (Value.int IntKind.u64 (r i0))) [] ∧
    L26_3 s not_ next b (IntKind.i64.wrap (c + (1 : Int))) b0f r res) ∧
  (decide (c ≤ IntKind.i64.wrap b) = false → L26_1 s next not_ b0f b1f res)) :
    L26_3 s not_ next b c b0f b1f res :=
  rule Go.Am.Seat.tabOk 26 [] Go.Proofs.Try.f26 hf26 [1, 1, 1, 1, 1, 1, 0, 0, 0, 1, 0, 1, 1, 1, 1, 0, 1, 0, 0] (s26_3 s not_ next b c b0f b1f) (m26_3 s not_ next b c b0f b1f) res [] 400
    ((Orc.call [] [] (fun (r30 : Nat → Int) => AV.ar (4 : Nat) (1 : Nat) fun (i0 : Nat) => AV.sc (Value.int IntKind.u64 (r30 i0))) (fun (r30 : Nat → Int) => [])
    fun (r30 : Nat → Int) =>
    Orc.cut (nat_lit 3) (s26_3 s not_ next b (IntKind.i64.wrap (c + (1 : Int))) b0f r30) (m26_3 s not_ next b (IntKind.i64.wrap (c + (1 : Int))) b0f r30)
    [((1000 : Nat), some (1000 : Nat)), ((1001 : Nat), some (1001 : Nat))]).br
  (Orc.cut (nat_lit 4) (s26_1 s next not_ b0f b1f) (m26_1 s next not_ b0f b1f) [((1000 : Nat), some (1000 : Nat)), ((1001 : Nat), some (1001 : Nat))])) _ _ (by kernel_rfl) (by kernel_rfl) (show True ∧
  True ∧
    True ∧
    True ∧
    (decide (c ≤ IntKind.i64.wrap b) = true →
    ((0 : Nat) = (0 : Nat) ∧ True) ∧
    True ∧
    True ∧
    ∃ (r : Nat → Int),
    ((True ∧ True ∧ True) ∧
    True ∧
    Ok Proofs.Try.prog (30 : Nat)
    [AV.ar (4 : Nat) (1 : Nat) fun (i : Nat) => AV.sc (Value.int IntKind.u64 (b1f i)), AV.sc (Value.int IntKind.u8 (IntKind.u8.wrap c))]
    [] (AV.ar (4 : Nat) (1 : Nat) fun (i0 : Nat) => AV.sc (Value.int IntKind.u64 (r i0))) []) ∧
    ((0 : Nat) = (0 : Nat) ∧ True) ∧
    True ∧
    True ∧
    True ∧
    ((True ∧
    Sub (AV.sc (Value.string s)) (AV.sc (Value.string s)) ∧
    True ∧
    Sub (AV.pt (1000 : Nat) [] (0 : Nat)) (AV.pt (1000 : Nat) [] (0 : Nat)) ∧
    True ∧
    Sub (AV.pt (1001 : Nat) [] (0 : Nat)) (AV.pt (1001 : Nat) [] (0 : Nat)) ∧
    True ∧
    Sub (AV.sc (Value.bool not_)) (AV.sc (Value.bool not_)) ∧
    True ∧
    Sub (AV.sc (Value.int IntKind.i64 next)) (AV.sc (Value.int IntKind.i64 next)) ∧
    True ∧
    Sub (AV.sc (Value.int IntKind.u8 b)) (AV.sc (Value.int IntKind.u8 b)) ∧
    True ∧
    Sub (AV.sc (Value.int IntKind.i64 (IntKind.i64.wrap (c + (1 : Int)))))
    (AV.sc (Value.int IntKind.i64 (IntKind.i64.wrap (c + (1 : Int))))) ∧
    True) ∧
    True ∧
    SubB (AV.ar (4 : Nat) (1 : Nat) fun (i0 : Nat) => AV.sc (Value.int IntKind.u64 (b0f i0)))
    (AV.ar (4 : Nat) (1 : Nat) fun (i0 : Nat) => AV.sc (Value.int IntKind.u64 (b0f i0))) ∧
    True ∧
    SubB (AV.ar (4 : Nat) (1 : Nat) fun (i0 : Nat) => AV.sc (Value.int IntKind.u64 (r i0)))
    (AV.ar (4 : Nat) (1 : Nat) fun (i0 : Nat) => AV.sc (Value.int IntKind.u64 (r i0))) ∧
    True) ∧
    L26_3 s not_ next b (IntKind.i64.wrap (c + (1 : Int))) b0f r res) ∧
    (decide (c ≤ IntKind.i64.wrap b) = false →
    True ∧
    True ∧
    ((True ∧
    Sub (AV.sc (Value.string s)) (AV.sc (Value.string s)) ∧
    True ∧
    Sub (AV.sc (Value.int IntKind.i64 next)) (AV.sc (Value.int IntKind.i64 next)) ∧
    True ∧
    Sub (AV.pt (1000 : Nat) [] (0 : Nat)) (AV.pt (1000 : Nat) [] (0 : Nat)) ∧
    True ∧
    Sub (AV.pt (1001 : Nat) [] (0 : Nat)) (AV.pt (1001 : Nat) [] (0 : Nat)) ∧
    True ∧ Sub (AV.sc (Value.bool not_)) (AV.sc (Value.bool not_)) ∧ True) ∧
    True ∧
    SubB (AV.ar (4 : Nat) (1 : Nat) fun (i0 : Nat) => AV.sc (Value.int IntKind.u64 (b0f i0)))
    (AV.ar (4 : Nat) (1 : Nat) fun (i0 : Nat) => AV.sc (Value.int IntKind.u64 (b0f i0))) ∧
    True ∧
    SubB (AV.ar (4 : Nat) (1 : Nat) fun (i0 : Nat) => AV.sc (Value.int IntKind.u64 (b1f i0)))
    (AV.ar (4 : Nat) (1 : Nat) fun (i0 : Nat) => AV.sc (Value.int IntKind.u64 (b1f i0))) ∧
    True) ∧
    L26_1 s next not_ b0f b1f res) from
    ⟨trivial, ⟨trivial, ⟨trivial, ⟨trivial, (And.elim (fun h4 k4 => ⟨(fun x5 => (fun h5 => ⟨⟨rfl, trivial⟩, ⟨trivial, ⟨trivial, (Exists.elim h5 fun x9 h9 => ⟨x9, (And.elim (fun h10 k10 => ⟨⟨⟨trivial, ⟨trivial, trivial⟩⟩, ⟨trivial, h10⟩⟩, ⟨⟨rfl, trivial⟩, ⟨trivial, ⟨trivial, ⟨trivial, ⟨⟨⟨trivial, ⟨Sub.refl _, ⟨trivial, ⟨Sub.refl _, ⟨trivial, ⟨Sub.refl _, ⟨trivial, ⟨Sub.refl _, ⟨trivial, ⟨Sub.refl _, ⟨trivial, ⟨Sub.refl _, ⟨trivial, ⟨Sub.refl _, trivial⟩⟩⟩⟩⟩⟩⟩⟩⟩⟩⟩⟩⟩⟩, ⟨trivial, ⟨SubB.refl _, ⟨trivial, ⟨SubB.refl _, trivial⟩⟩⟩⟩⟩, k10⟩⟩⟩⟩⟩⟩) h9)⟩)⟩⟩⟩) (h4 x5)), (fun x5 => (fun h5 => ⟨trivial, ⟨trivial, ⟨⟨⟨trivial, ⟨Sub.refl _, ⟨trivial, ⟨Sub.refl _, ⟨trivial, ⟨Sub.refl _, ⟨trivial, ⟨Sub.refl _, ⟨trivial, ⟨Sub.refl _, trivial⟩⟩⟩⟩⟩⟩⟩⟩⟩⟩, ⟨trivial, ⟨SubB.refl _, ⟨trivial, ⟨SubB.refl _, trivial⟩⟩⟩⟩⟩, h5⟩⟩⟩) (k4 x5))⟩) h)⟩⟩⟩⟩)
theorem r26_4 (at_ : Int) (t113 : Int) (b0f : Nat → Int) (b1f : Nat → Int) (res : AV)
    (h : (decide (t113 < (4 : Int)) = true →
    ((0 : Int) ≤ t113 ∧ t113 < (↑(4 : Nat) : Int)) ∧
    t113.toNat < (4 : Nat) ∧
    L26_4 at_ (IntKind.i64.wrap (t113 + (1 : Int))) b0f
    (fun (i : Nat) =>
    bif i.beq t113.toNat then
    IntKind.u64.wrap
    (↑(BitVec.ofInt IntKind.u64.bits (if IntKind.u64.signed = true then (-1 : Int) else IntKind.u64.max) ^^^
    BitVec.ofInt IntKind.u64.bits (b1f t113.toNat)).toNat :
    Int)
    else b1f i)
    res) ∧
  (decide (t113 < (4 : Int)) = false → L26_5 at_ b0f b1f res)) :
    L26_4 at_ t113 b0f b1f res :=
  rule Go.Am.Seat.tabOk 26 [] Go.Proofs.Try.f26 hf26 [1, 1, 1, 1, 1, 1, 1, 1, 0, 1, 0, 1, 0, 0] (s26_4 at_ t113 b0f b1f) (m26_4 at_ t113 b0f b1f) res [] 400
    ((Orc.cut (nat_lit 9)
    (s26_4 at_ (IntKind.i64.wrap (t113 + (1 : Int))) b0f fun (i : Nat) =>
    bif i.beq t113.toNat then
    IntKind.u64.wrap
    (↑(BitVec.ofInt IntKind.u64.bits (if IntKind.u64.signed = true then (-1 : Int) else IntKind.u64.max) ^^^
    BitVec.ofInt IntKind.u64.bits (b1f t113.toNat)).toNat :
    Int)
    else b1f i)
    (m26_4 at_ (IntKind.i64.wrap (t113 + (1 : Int))) b0f fun (i : Nat) =>
    bif i.beq t113.toNat then
    IntKind.u64.wrap
    (↑(BitVec.ofInt IntKind.u64.bits (if IntKind.u64.signed = true then (-1 : Int) else IntKind.u64.max) ^^^
    BitVec.ofInt IntKind.u64.bits (b1f t113.toNat)).toNat :
    Int)
    else b1f i)
    [((1000 : Nat), some (1000 : Nat)), ((1001 : Nat), some (1001 : Nat))]).br
  (Orc.cut (nat_lit 1) (s26_5 at_ b0f b1f) (m26_5 at_ b0f b1f) [((1000 : Nat), some (1000 : Nat)), ((1001 : Nat), some (1001 : Nat))])) _ _ (by kernel_rfl) (by kernel_rfl) (show True ∧
  (decide (t113 < (4 : Int)) = true →
    True ∧
    True ∧
    True ∧
    True ∧
    ((0 : Int) ≤ t113 ∧ t113 < (↑(4 : Nat) : Int)) ∧
    (t113.toNat * (1 : Nat) + (0 : Nat) = plus (0 : Nat) (t113.toNat * (1 : Nat)) ∧ t113.toNat < (4 : Nat) ∧ True) ∧
    True ∧
    ((0 : Int) ≤ t113 ∧ t113 < (↑(4 : Nat) : Int)) ∧
    (t113.toNat * (1 : Nat) + (0 : Nat) = plus (0 : Nat) (t113.toNat * (1 : Nat)) ∧ (t113.toNat < (4 : Nat) ∧ True) ∧ True) ∧
    True ∧
    True ∧
    ((True ∧
    Sub (AV.sc (Value.int IntKind.i64 at_)) (AV.sc (Value.int IntKind.i64 at_)) ∧
    True ∧
    Sub (AV.pt (1000 : Nat) [] (0 : Nat)) (AV.pt (1000 : Nat) [] (0 : Nat)) ∧
    True ∧
    Sub (AV.pt (1001 : Nat) [] (0 : Nat)) (AV.pt (1001 : Nat) [] (0 : Nat)) ∧
    True ∧
    Sub (AV.sc (Value.int IntKind.i64 (IntKind.i64.wrap (t113 + (1 : Int)))))
    (AV.sc (Value.int IntKind.i64 (IntKind.i64.wrap (t113 + (1 : Int))))) ∧
    True) ∧
    True ∧
    SubB (AV.ar (4 : Nat) (1 : Nat) fun (i0 : Nat) => AV.sc (Value.int IntKind.u64 (b0f i0)))
    (AV.ar (4 : Nat) (1 : Nat) fun (i0 : Nat) => AV.sc (Value.int IntKind.u64 (b0f i0))) ∧
    True ∧
    SubB
    (AV.ar (4 : Nat) (1 : Nat) fun (i : Nat) =>
    AV.sc
    (Value.int IntKind.u64
    (bif i.beq t113.toNat then
    IntKind.u64.wrap
    (↑(BitVec.ofInt IntKind.u64.bits (if IntKind.u64.signed = true then (-1 : Int) else IntKind.u64.max) ^^^
    BitVec.ofInt IntKind.u64.bits (b1f t113.toNat)).toNat :
    Int)
    else b1f i)))
    (AV.ar (4 : Nat) (1 : Nat) fun (i0 : Nat) =>
    AV.sc
    (Value.int IntKind.u64
    (bif i0.beq t113.toNat then
    IntKind.u64.wrap
    (↑(BitVec.ofInt IntKind.u64.bits (if IntKind.u64.signed = true then (-1 : Int) else IntKind.u64.max) ^^^
    BitVec.ofInt IntKind.u64.bits (b1f t113.toNat)).toNat :
    Int)
    else b1f i0))) ∧
    True) ∧
    L26_4 at_ (IntKind.i64.wrap (t113 + (1 : Int))) b0f
    (fun (i : Nat) =>
    bif i.beq t113.toNat then
    IntKind.u64.wrap
    (↑(BitVec.ofInt IntKind.u64.bits (if IntKind.u64.signed = true then (-1 : Int) else IntKind.u64.max) ^^^
    BitVec.ofInt IntKind.u64.bits (b1f t113.toNat)).toNat :
    Int)
    else b1f i)
    res) ∧
    (decide (t113 < (4 : Int)) = false →
    ((True ∧
    Sub (AV.sc (Value.int IntKind.i64 at_)) (AV.sc (Value.int IntKind.i64 at_)) ∧
    True ∧
    Sub (AV.pt (1000 : Nat) [] (0 : Nat)) (AV.pt (1000 : Nat) [] (0 : Nat)) ∧
    True ∧ Sub (AV.pt (1001 : Nat) [] (0 : Nat)) (AV.pt (1001 : Nat) [] (0 : Nat)) ∧ True) ∧
    True ∧
    SubB (AV.ar (4 : Nat) (1 : Nat) fun (i0 : Nat) => AV.sc (Value.int IntKind.u64 (b0f i0)))
    (AV.ar (4 : Nat) (1 : Nat) fun (i0 : Nat) => AV.sc (Value.int IntKind.u64 (b0f i0))) ∧
    True ∧
    SubB (AV.ar (4 : Nat) (1 : Nat) fun (i0 : Nat) => AV.sc (Value.int IntKind.u64 (b1f i0)))
    (AV.ar (4 : Nat) (1 : Nat) fun (i0 : Nat) => AV.sc (Value.int IntKind.u64 (b1f i0))) ∧
    True) ∧
    L26_5 at_ b0f b1f res) from
    ⟨trivial, (And.elim (fun h1 k1 => ⟨(fun x2 => (fun h2 => ⟨trivial, ⟨trivial, ⟨trivial, ⟨trivial, (And.elim (fun h7 k7 => ⟨(And.elim (fun h8 k8 => ⟨h8, k8⟩) h7), (And.elim (fun h8 k8 => ⟨⟨rfl, ((fun h10 => ⟨h10, trivial⟩) h8)⟩, ⟨trivial, ⟨(And.elim (fun h11 k11 => ⟨h11, k11⟩) h7), ⟨⟨rfl, ⟨⟨h8, trivial⟩, trivial⟩⟩, ⟨trivial, ⟨trivial, ⟨⟨⟨trivial, ⟨Sub.refl _, ⟨trivial, ⟨Sub.refl _, ⟨trivial, ⟨Sub.refl _, ⟨trivial, ⟨Sub.refl _, trivial⟩⟩⟩⟩⟩⟩⟩⟩, ⟨trivial, ⟨SubB.refl _, ⟨trivial, ⟨SubB.refl _, trivial⟩⟩⟩⟩⟩, k8⟩⟩⟩⟩⟩⟩⟩) k7)⟩) h2)⟩⟩⟩⟩) (h1 x2)), (fun x2 => (fun h2 => ⟨⟨⟨trivial, ⟨Sub.refl _, ⟨trivial, ⟨Sub.refl _, ⟨trivial, ⟨Sub.refl _, trivial⟩⟩⟩⟩⟩⟩, ⟨trivial, ⟨SubB.refl _, ⟨trivial, ⟨SubB.refl _, trivial⟩⟩⟩⟩⟩, h2⟩) (k1 x2))⟩) h)⟩)
theorem r26_5 (at_ : Int) (b0f : Nat → Int) (b1f : Nat → Int) (res : AV)
    (h : Sub
  (AV.cons (1 : Nat) (AV.ar (4 : Nat) (1 : Nat) fun (i0 : Nat) => AV.sc (Value.int IntKind.u64 (b1f i0)))
    (AV.cons (1 : Nat) (AV.sc (Value.int IntKind.i64 (IntKind.i64.wrap (at_ + (1 : Int))))) (AV.cons (1 : Nat) (AV.sc (Value.bool true)) AV.nil))).tup
  res) :
    L26_5 at_ b0f b1f res :=
  rule Go.Am.Seat.tabOk 26 [] Go.Proofs.Try.f26 hf26 [1, 1, 1, 1, 1, 1, 1, 1, 1] (s26_5 at_ b0f b1f) (m26_5 at_ b0f b1f) res [] 400
    (Orc.fin
  (AV.cons (1 : Nat) (AV.ar (4 : Nat) (1 : Nat) fun (i0 : Nat) => AV.sc (Value.int IntKind.u64 (b1f i0)))
    (AV.cons (1 : Nat) (AV.sc (Value.int IntKind.i64 (IntKind.i64.wrap (at_ + (1 : Int))))) (AV.cons (1 : Nat) (AV.sc (Value.bool true)) AV.nil))).tup
  [] []) _ _ (by kernel_rfl) (by kernel_rfl) (show ((0 : Nat) = (0 : Nat) ∧ True) ∧
  True ∧
    True ∧
    ((0 : Nat) = (0 : Nat) ∧ True) ∧
    True ∧
    True ∧
    (((0 : Nat) = (0 : Nat) ∧ True) ∧ True ∧ True ∧ True) ∧
    (((True ∧ True ∧ True ∧ True) ∧
    Sub
    (AV.cons (1 : Nat) (AV.ar (4 : Nat) (1 : Nat) fun (i0 : Nat) => AV.sc (Value.int IntKind.u64 (b1f i0)))
    (AV.cons (1 : Nat) (AV.sc (Value.int IntKind.i64 (IntKind.i64.wrap (at_ + (1 : Int)))))
    (AV.cons (1 : Nat) (AV.sc (Value.bool true)) AV.nil))).tup
    (AV.cons (1 : Nat) (AV.ar (4 : Nat) (1 : Nat) fun (i0 : Nat) => AV.sc (Value.int IntKind.u64 (b1f i0)))
    (AV.cons (1 : Nat) (AV.sc (Value.int IntKind.i64 (IntKind.i64.wrap (at_ + (1 : Int)))))
    (AV.cons (1 : Nat) (AV.sc (Value.bool true)) AV.nil))).tup ∧
    True) ∧
    True) ∧
    Sub
    (AV.cons (1 : Nat) (AV.ar (4 : Nat) (1 : Nat) fun (i0 : Nat) => AV.sc (Value.int IntKind.u64 (b1f i0)))
    (AV.cons (1 : Nat) (AV.sc (Value.int IntKind.i64 (IntKind.i64.wrap (at_ + (1 : Int)))))
    (AV.cons (1 : Nat) (AV.sc (Value.bool true)) AV.nil))).tup
    res ∧
    SubOut [] [] from
    ⟨⟨rfl, trivial⟩, ⟨trivial, ⟨trivial, ⟨⟨rfl, trivial⟩, ⟨trivial, ⟨trivial, ⟨⟨⟨rfl, trivial⟩, ⟨trivial, ⟨trivial, trivial⟩⟩⟩, ⟨⟨⟨⟨trivial, ⟨trivial, ⟨trivial, trivial⟩⟩⟩, ⟨Sub.refl _, trivial⟩⟩, trivial⟩, ((fun h8 => ⟨h8, trivial⟩) h)⟩⟩⟩⟩⟩⟩⟩⟩)
theorem hf28 : Go.Proofs.Try.prog.funcs[28]? = some Go.Proofs.Try.f28 := by kernel_rfl
abbrev s28_e (out_n : Nat) (b : Int) (b1000n : Nat) (b1000f : Nat → Int) : List (Nat × AV) := [(0, (.rf 2000 1 0 out_n)), (1, (.sc (.int .u8 b)))]
abbrev m28_e (out_n : Nat) (b : Int) (b1000n : Nat) (b1000f : Nat → Int) : List (Nat × Nat × AV) := [(2000, 5, (.ar b1000n 1 (fun i0 => (.sc (.int .u8 (b1000f i0))))))]
def L28_e (out_n : Nat) (b : Int) (b1000n : Nat) (b1000f : Nat → Int) (res : AV) (out : List (Nat × Nat × AV)) : Prop := Goes ⟨Go.Proofs.Try.prog, 28, [], res, out⟩ (place Go.Proofs.Try.f28 []) (s28_e out_n b b1000n b1000f) (m28_e out_n b b1000n b1000f)
theorem a28_e (out_n : Nat) (b : Int) (b1000n : Nat) (b1000f : Nat → Int) (res : AV) (out : List (Nat × Nat × AV)) (h : (∀ slot, fact (look .undef (s28_e out_n b b1000n b1000f) slot)) → L28_e out_n b b1000n b1000f res out) : L28_e out_n b b1000n b1000f res out :=
  assumeRule 28 [] Go.Proofs.Try.f28 hf28 [] (s28_e out_n b b1000n b1000f) (m28_e out_n b b1000n b1000f) res out _ (by kernel_rfl) h
abbrev s28_0 (out_n : Nat) (b : Int) (b0n : Nat) (b0f : Nat → Int) : List (Nat × AV) := [(0, (.rf 1000 1 0 out_n)), (1, (.sc (.int .u8 b)))]
abbrev m28_0 (out_n : Nat) (b : Int) (b0n : Nat) (b0f : Nat → Int) : List (Nat × Nat × AV) := [(1000, 5, (.ar b0n 1 (fun i0 => (.sc (.int .u8 (b0f i0))))))]
def L28_0 (out_n : Nat) (b : Int) (b0n : Nat) (b0f : Nat → Int) (res : AV) (out : List (Nat × Nat × AV)) : Prop := Goes ⟨Go.Proofs.Try.prog, 28, [], res, out⟩ (place Go.Proofs.Try.f28 [1, 1, 1]) (s28_0 out_n b b0n b0f) (m28_0 out_n b b0n b0f)
theorem a28_0 (out_n : Nat) (b : Int) (b0n : Nat) (b0f : Nat → Int) (res : AV) (out : List (Nat × Nat × AV)) (h : (∀ slot, fact (look .undef (s28_0 out_n b b0n b0f) slot)) → L28_0 out_n b b0n b0f res out) : L28_0 out_n b b0n b0f res out :=
  assumeRule 28 [] Go.Proofs.Try.f28 hf28 [1, 1, 1] (s28_0 out_n b b0n b0f) (m28_0 out_n b b0n b0f) res out _ (by kernel_rfl) h
theorem o28 (out_n : Nat) (b : Int) (b1000n : Nat) (b1000f : Nat → Int) (res : AV) (out : List (Nat × Nat × AV)) (hnew : newOnly res ∧ ∀ q ∈ out, newOnly q.2.2) (hk : keptN [(2000, 5, (.ar b1000n 1 (fun i0 => (.sc (.int .u8 (b1000f i0))))))] out = []) (h : L28_e out_n b b1000n b1000f res out) : Ok Go.Proofs.Try.prog 28 [(.rf 2000 1 0 out_n), (.sc (.int .u8 b))] [(2000, 5, (.ar b1000n 1 (fun i0 => (.sc (.int .u8 (b1000f i0))))))] res out :=
  okRule2 28 Go.Proofs.Try.f28 hf28 [(.rf 2000 1 0 out_n), (.sc (.int .u8 b))] [(2000, 5, (.ar b1000n 1 (fun i0 => (.sc (.int .u8 (b1000f i0))))))] res out [] hk (by kernel_rfl) (by kernel_rfl) (by kernel_rfl) hnew (L28_e out_n b b1000n b1000f res out) (by kernel_rfl) h
theorem r28_e (out_n : Nat) (b : Int) (b1000n : Nat) (b1000f : Nat → Int) (res : AV) (out : List (Nat × Nat × AV))
    (h : ∃ (r : Int × Bool),
  Ok Proofs.Try.prog (34 : Nat) [AV.sc (Value.int IntKind.u8 b)] []
    (AV.cons (1 : Nat) (AV.sc (Value.int IntKind.u8 r.fst)) (AV.cons (1 : Nat) (AV.sc (Value.bool r.snd)) AV.nil)).tup [] ∧
    (r.snd = true →
    (out_n ≤ b1000n ∧ (0 : Nat) + (2 : Nat) ≤ (2 : Nat) ∧ (out_n + (2 : Nat)) * (1 : Nat) ≤ (140737488355328 : Nat) ∧ out_n + (2 : Nat) ≤ maxLen) ∧
    Sub (AV.rf (1000 : Nat) (1 : Nat) (0 : Nat) (out_n + (2 : Nat))) res ∧
    SubOut
    [((1000 : Nat), (5 : Nat),
    AV.ar (out_n + (2 : Nat)) (1 : Nat) fun (i : Nat) =>
    AV.sc
    (Value.int IntKind.u8
    (bif i.blt out_n then b1000f i
    else
    bif ((0 : Nat) + (i - out_n)).beq (1 : Nat) then r.fst
    else bif ((0 : Nat) + (i - out_n)).beq (0 : Nat) then (92 : Int) else (0 : Int))))]
    out) ∧
    (r.snd = false →
    ∃ (r : Bool),
    Ok Proofs.Try.prog (35 : Nat) [AV.sc (Value.int IntKind.u8 b)] [] (AV.sc (Value.bool r)) [] ∧
    (r = true →
    (out_n ≤ b1000n ∧ (0 : Nat) + (1 : Nat) ≤ (1 : Nat) ∧ (out_n + (1 : Nat)) * (1 : Nat) ≤ (140737488355328 : Nat) ∧ out_n + (1 : Nat) ≤ maxLen) ∧
    L28_0 (out_n + (1 : Nat)) b (out_n + (1 : Nat))
    (fun (i : Nat) => bif i.blt out_n then b1000f i else bif ((0 : Nat) + (i - out_n)).beq (0 : Nat) then (92 : Int) else (0 : Int)) res out) ∧
    (r = false → L28_0 out_n b b1000n b1000f res out))) :
    L28_e out_n b b1000n b1000f res out :=
  rule Go.Am.Seat.tabOk 28 [] Go.Proofs.Try.f28 hf28 [] (s28_e out_n b b1000n b1000f) (m28_e out_n b b1000n b1000f) res out 400
    (Orc.call [] []
  (fun (r34 : Int × Bool) => (AV.cons (1 : Nat) (AV.sc (Value.int IntKind.u8 r34.fst)) (AV.cons (1 : Nat) (AV.sc (Value.bool r34.snd)) AV.nil)).tup)
  (fun (r34 : Int × Bool) => []) fun (r34 : Int × Bool) =>
  (Orc.fin (AV.rf (1000 : Nat) (1 : Nat) (0 : Nat) (out_n + (2 : Nat)))
    [((1000 : Nat), (5 : Nat),
    AV.ar (out_n + (2 : Nat)) (1 : Nat) fun (i : Nat) =>
    AV.sc
    (Value.int IntKind.u8
    (bif i.blt out_n then b1000f i
    else
    bif ((0 : Nat) + (i - out_n)).beq ((1 : Nat), Operand.tmp (14 : Nat)).fst then r34.fst
    else bif ((0 : Nat) + (i - out_n)).beq ((0 : Nat), Operand.const (Value.int IntKind.u8 (92 : Int))).fst then (92 : Int) else (0 : Int))))]
    [((1000 : Nat), some (16 : Nat))]).br
    (Orc.call [] [] (fun (r35 : Bool) => AV.sc (Value.bool r35)) (fun (r35 : Bool) => []) fun (r35 : Bool) =>
    (Orc.cut (nat_lit 1)
    (s28_0 (out_n + (1 : Nat)) b (out_n + (1 : Nat)) fun (i : Nat) =>
    bif i.blt out_n then b1000f i
    else bif ((0 : Nat) + (i - out_n)).beq ((0 : Nat), Operand.const (Value.int IntKind.u8 (92 : Int))).fst then (92 : Int) else (0 : Int))
    (m28_0 (out_n + (1 : Nat)) b (out_n + (1 : Nat)) fun (i : Nat) =>
    bif i.blt out_n then b1000f i
    else bif ((0 : Nat) + (i - out_n)).beq ((0 : Nat), Operand.const (Value.int IntKind.u8 (92 : Int))).fst then (92 : Int) else (0 : Int))
    [((1000 : Nat), some (21 : Nat))]).br
    (Orc.cut (nat_lit 1) (s28_0 out_n b b1000n b1000f) (m28_0 out_n b b1000n b1000f) [((1000 : Nat), some (2000 : Nat))]))) _ _ (by kernel_rfl) (by kernel_rfl) (show True ∧
  True ∧
    ∃ (r : Int × Bool),
    ((True ∧ True) ∧
    True ∧
    Ok Proofs.Try.prog (34 : Nat) [AV.sc (Value.int IntKind.u8 b)] []
    (AV.cons (1 : Nat) (AV.sc (Value.int IntKind.u8 r.fst)) (AV.cons (1 : Nat) (AV.sc (Value.bool r.snd)) AV.nil)).tup []) ∧
    True ∧
    True ∧
    True ∧
    True ∧
    True ∧
    True ∧
    (r.snd = true →
    True ∧
    True ∧
    ((True ∧ True ∧ True) ∧ True) ∧
    (out_n ≤ b1000n ∧
    ((0 : Nat) + (2 : Nat) ≤ (2 : Nat) ∧ (1 : Nat) = (1 : Nat)) ∧
    (out_n + (2 : Nat)) * (1 : Nat) ≤ (140737488355328 : Nat) ∧ out_n + (2 : Nat) ≤ maxLen) ∧
    True ∧
    True ∧
    ((True ∧
    Sub (AV.rf (1000 : Nat) (1 : Nat) (0 : Nat) (out_n + (2 : Nat)))
    (AV.rf (1000 : Nat) (1 : Nat) (0 : Nat) (out_n + (2 : Nat))) ∧
    True) ∧
    True ∧
    SubB
    (AV.ar (out_n + (2 : Nat)) (1 : Nat) fun (i : Nat) =>
    AV.sc
    (Value.int IntKind.u8
    (bif i.blt out_n then b1000f i
    else
    bif ((0 : Nat) + (i - out_n)).beq (1 : Nat) then r.fst
    else bif ((0 : Nat) + (i - out_n)).beq (0 : Nat) then (92 : Int) else (0 : Int))))
    (AV.ar (out_n + (2 : Nat)) (1 : Nat) fun (i : Nat) =>
    AV.sc
    (Value.int IntKind.u8
    (bif i.blt out_n then b1000f i
    else
    bif ((0 : Nat) + (i - out_n)).beq (1 : Nat) then r.fst
    else bif ((0 : Nat) + (i - out_n)).beq (0 : Nat) then (92 : Int) else (0 : Int)))) ∧
    True) ∧
    Sub (AV.rf (1000 : Nat) (1 : Nat) (0 : Nat) (out_n + (2 : Nat))) res ∧
    SubOut
    [((1000 : Nat), (5 : Nat),
    AV.ar (out_n + (2 : Nat)) (1 : Nat) fun (i : Nat) =>
    AV.sc
    (Value.int IntKind.u8
    (bif i.blt out_n then b1000f i
    else
    bif ((0 : Nat) + (i - out_n)).beq (1 : Nat) then r.fst
    else bif ((0 : Nat) + (i - out_n)).beq (0 : Nat) then (92 : Int) else (0 : Int))))]
    out) ∧
    (r.snd = false →
    True ∧
    ∃ (r : Bool),
    ((True ∧ True) ∧ True ∧ Ok Proofs.Try.prog (35 : Nat) [AV.sc (Value.int IntKind.u8 b)] [] (AV.sc (Value.bool r)) []) ∧
    (r = true →
    True ∧
    ((True ∧ True) ∧ True) ∧
    (out_n ≤ b1000n ∧
    ((0 : Nat) + (1 : Nat) ≤ (1 : Nat) ∧ (1 : Nat) = (1 : Nat)) ∧
    (out_n + (1 : Nat)) * (1 : Nat) ≤ (140737488355328 : Nat) ∧ out_n + (1 : Nat) ≤ maxLen) ∧
    True ∧
    ((True ∧
    Sub (AV.rf (1000 : Nat) (1 : Nat) (0 : Nat) (out_n + (1 : Nat)))
    (AV.rf (1000 : Nat) (1 : Nat) (0 : Nat) (out_n + (1 : Nat))) ∧
    True ∧ Sub (AV.sc (Value.int IntKind.u8 b)) (AV.sc (Value.int IntKind.u8 b)) ∧ True) ∧
    True ∧
    SubB
    (AV.ar (out_n + (1 : Nat)) (1 : Nat) fun (i : Nat) =>
    AV.sc
    (Value.int IntKind.u8
    (bif i.blt out_n then b1000f i
    else bif ((0 : Nat) + (i - out_n)).beq (0 : Nat) then (92 : Int) else (0 : Int))))
    (AV.ar (out_n + (1 : Nat)) (1 : Nat) fun (i0 : Nat) =>
    AV.sc
    (Value.int IntKind.u8
    (bif i0.blt out_n then b1000f i0
    else bif ((0 : Nat) + (i0 - out_n)).beq (0 : Nat) then (92 : Int) else (0 : Int)))) ∧
    True) ∧
    L28_0 (out_n + (1 : Nat)) b (out_n + (1 : Nat))
    (fun (i : Nat) =>
    bif i.blt out_n then b1000f i else bif ((0 : Nat) + (i - out_n)).beq (0 : Nat) then (92 : Int) else (0 : Int))
    res out) ∧
    (r = false →
    ((True ∧
    Sub (AV.rf (1000 : Nat) (1 : Nat) (0 : Nat) out_n) (AV.rf (1000 : Nat) (1 : Nat) (0 : Nat) out_n) ∧
    True ∧ Sub (AV.sc (Value.int IntKind.u8 b)) (AV.sc (Value.int IntKind.u8 b)) ∧ True) ∧
    True ∧
    SubB (AV.ar b1000n (1 : Nat) fun (i0 : Nat) => AV.sc (Value.int IntKind.u8 (b1000f i0)))
    (AV.ar b1000n (1 : Nat) fun (i0 : Nat) => AV.sc (Value.int IntKind.u8 (b1000f i0))) ∧
    True) ∧
    L28_0 out_n b b1000n b1000f res out)) from
    ⟨trivial, ⟨trivial, (Exists.elim h fun x2 h2 => ⟨x2, (And.elim (fun h3 k3 => ⟨⟨⟨trivial, trivial⟩, ⟨trivial, h3⟩⟩, ⟨trivial, ⟨trivial, ⟨trivial, ⟨trivial, ⟨trivial, ⟨trivial, (And.elim (fun h10 k10 => ⟨(fun x11 => (fun h11 => ⟨trivial, ⟨trivial, ⟨⟨⟨trivial, ⟨trivial, trivial⟩⟩, trivial⟩, (And.elim (fun h15 k15 => ⟨(And.elim (fun h16 k16 => ⟨h16, (And.elim (fun h17 k17 => ⟨((fun h18 => ⟨h18, rfl⟩) h17), (And.elim (fun h18 k18 => ⟨h18, k18⟩) k17)⟩) k16)⟩) h15), ⟨trivial, ⟨trivial, ⟨⟨⟨trivial, ⟨Sub.refl _, trivial⟩⟩, ⟨trivial, ⟨SubB.refl _, trivial⟩⟩⟩, (And.elim (fun h19 k19 => ⟨h19, k19⟩) k15)⟩⟩⟩⟩) h11)⟩⟩⟩) (h10 x11)), (fun x11 => (fun h11 => ⟨trivial, (Exists.elim h11 fun x13 h13 => ⟨x13, (And.elim (fun h14 k14 => ⟨⟨⟨trivial, trivial⟩, ⟨trivial, h14⟩⟩, (And.elim (fun h15 k15 => ⟨(fun x16 => (fun h16 => ⟨trivial, ⟨⟨⟨trivial, trivial⟩, trivial⟩, (And.elim (fun h19 k19 => ⟨(And.elim (fun h20 k20 => ⟨h20, (And.elim (fun h21 k21 => ⟨((fun h22 => ⟨h22, rfl⟩) h21), (And.elim (fun h22 k22 => ⟨h22, k22⟩) k21)⟩) k20)⟩) h19), ⟨trivial, ⟨⟨⟨trivial, ⟨Sub.refl _, ⟨trivial, ⟨Sub.refl _, trivial⟩⟩⟩⟩, ⟨trivial, ⟨SubB.refl _, trivial⟩⟩⟩, k19⟩⟩⟩) h16)⟩⟩) (h15 x16)), (fun x16 => (fun h16 => ⟨⟨⟨trivial, ⟨Sub.refl _, ⟨trivial, ⟨Sub.refl _, trivial⟩⟩⟩⟩, ⟨trivial, ⟨SubB.refl _, trivial⟩⟩⟩, h16⟩) (k15 x16))⟩) k14)⟩) h13)⟩)⟩) (k10 x11))⟩) k3)⟩⟩⟩⟩⟩⟩⟩) h2)⟩)⟩⟩)
theorem r28_0 (out_n : Nat) (b : Int) (b0n : Nat) (b0f : Nat → Int) (res : AV) (out : List (Nat × Nat × AV))
    (h : (out_n ≤ b0n ∧ (0 : Nat) + (1 : Nat) ≤ (1 : Nat) ∧ (out_n + (1 : Nat)) * (1 : Nat) ≤ (140737488355328 : Nat) ∧ out_n + (1 : Nat) ≤ maxLen) ∧
  Sub (AV.rf (1000 : Nat) (1 : Nat) (0 : Nat) (out_n + (1 : Nat))) res ∧
    SubOut
    [((1000 : Nat), (5 : Nat),
    AV.ar (out_n + (1 : Nat)) (1 : Nat) fun (i : Nat) =>
    AV.sc (Value.int IntKind.u8 (bif i.blt out_n then b0f i else bif ((0 : Nat) + (i - out_n)).beq (0 : Nat) then b else (0 : Int))))]
    out) :
    L28_0 out_n b b0n b0f res out :=
  rule Go.Am.Seat.tabOk 28 [] Go.Proofs.Try.f28 hf28 [1, 1, 1] (s28_0 out_n b b0n b0f) (m28_0 out_n b b0n b0f) res out 400
    (Orc.fin (AV.rf (1000 : Nat) (1 : Nat) (0 : Nat) (out_n + (1 : Nat)))
  [((1000 : Nat), (5 : Nat),
    AV.ar (out_n + (1 : Nat)) (1 : Nat) fun (i : Nat) =>
    AV.sc
    (Value.int IntKind.u8
    (bif i.blt out_n then b0f i else bif ((0 : Nat) + (i - out_n)).beq ((0 : Nat), Operand.tmp (23 : Nat)).fst then b else (0 : Int))))]
  [((1000 : Nat), some (25 : Nat))]) _ _ (by kernel_rfl) (by kernel_rfl) (show True ∧
  True ∧
    ((True ∧ True) ∧ True) ∧
    (out_n ≤ b0n ∧
    ((0 : Nat) + (1 : Nat) ≤ (1 : Nat) ∧ (1 : Nat) = (1 : Nat)) ∧
    (out_n + (1 : Nat)) * (1 : Nat) ≤ (140737488355328 : Nat) ∧ out_n + (1 : Nat) ≤ maxLen) ∧
    True ∧
    True ∧
    ((True ∧ Sub (AV.rf (1000 : Nat) (1 : Nat) (0 : Nat) (out_n + (1 : Nat))) (AV.rf (1000 : Nat) (1 : Nat) (0 : Nat) (out_n + (1 : Nat))) ∧ True) ∧
    True ∧
    SubB
    (AV.ar (out_n + (1 : Nat)) (1 : Nat) fun (i : Nat) =>
    AV.sc (Value.int IntKind.u8 (bif i.blt out_n then b0f i else bif ((0 : Nat) + (i - out_n)).beq (0 : Nat) then b else (0 : Int))))
    (AV.ar (out_n + (1 : Nat)) (1 : Nat) fun (i : Nat) =>
    AV.sc (Value.int IntKind.u8 (bif i.blt out_n then b0f i else bif ((0 : Nat) + (i - out_n)).beq (0 : Nat) then b else (0 : Int)))) ∧
    True) ∧
    Sub (AV.rf (1000 : Nat) (1 : Nat) (0 : Nat) (out_n + (1 : Nat))) res ∧
    SubOut
    [((1000 : Nat), (5 : Nat),
    AV.ar (out_n + (1 : Nat)) (1 : Nat) fun (i : Nat) =>
    AV.sc (Value.int IntKind.u8 (bif i.blt out_n then b0f i else bif ((0 : Nat) + (i - out_n)).beq (0 : Nat) then b else (0 : Int))))]
    out from
    ⟨trivial, ⟨trivial, ⟨⟨⟨trivial, trivial⟩, trivial⟩, (And.elim (fun h3 k3 => ⟨(And.elim (fun h4 k4 => ⟨h4, (And.elim (fun h5 k5 => ⟨((fun h6 => ⟨h6, rfl⟩) h5), (And.elim (fun h6 k6 => ⟨h6, k6⟩) k5)⟩) k4)⟩) h3), ⟨trivial, ⟨trivial, ⟨⟨⟨trivial, ⟨Sub.refl _, trivial⟩⟩, ⟨trivial, ⟨SubB.refl _, trivial⟩⟩⟩, (And.elim (fun h7 k7 => ⟨h7, k7⟩) k3)⟩⟩⟩⟩) h)⟩⟩⟩)
theorem hf29 : Go.Proofs.Try.prog.funcs[29]? = some Go.Proofs.Try.f29 := by kernel_rfl
abbrev s29_e (x : Int) : List (Nat × AV) := [(0, (.sc (.int .u64 x)))]
abbrev m29_e (x : Int) : List (Nat × Nat × AV) := []
def L29_e (x : Int) (res : AV) : Prop := Goes ⟨Go.Proofs.Try.prog, 29, [], res, []⟩ (place Go.Proofs.Try.f29 []) (s29_e x) (m29_e x)
theorem a29_e (x : Int) (res : AV) (h : (∀ slot, fact (look .undef (s29_e x) slot)) → L29_e x res) : L29_e x res :=
  assumeRule 29 [] Go.Proofs.Try.f29 hf29 [] (s29_e x) (m29_e x) res [] _ (by kernel_rfl) h
abbrev s29_0 (x : Int) (t2 : Int) : List (Nat × AV) := [(0, (.sc (.int .u64 x))), (2, (.sc (.int .i64 t2)))]
abbrev m29_0 (x : Int) (t2 : Int) : List (Nat × Nat × AV) := []
def L29_0 (x : Int) (t2 : Int) (res : AV) : Prop := Goes ⟨Go.Proofs.Try.prog, 29, [], res, []⟩ (place Go.Proofs.Try.f29 [1, 1]) (s29_0 x t2) (m29_0 x t2)
theorem a29_0 (x : Int) (t2 : Int) (res : AV) (h : (∀ slot, fact (look .undef (s29_0 x t2) slot)) → L29_0 x t2 res) : L29_0 x t2 res :=
  assumeRule 29 [] Go.Proofs.Try.f29 hf29 [1, 1] (s29_0 x t2) (m29_0 x t2) res [] _ (by kernel_rfl) h
abbrev s29_1 (x : Int) (t2 : Int) : List (Nat × AV) := [(0, (.sc (.int .u64 x))), (2, (.sc (.int .i64 t2)))]
abbrev m29_1 (x : Int) (t2 : Int) : List (Nat × Nat × AV) := []
def L29_1 (x : Int) (t2 : Int) (res : AV) : Prop := Goes ⟨Go.Proofs.Try.prog, 29, [], res, []⟩ (place Go.Proofs.Try.f29 [1, 1, 1]) (s29_1 x t2) (m29_1 x t2)
theorem a29_1 (x : Int) (t2 : Int) (res : AV) (h : (∀ slot, fact (look .undef (s29_1 x t2) slot)) → L29_1 x t2 res) : L29_1 x t2 res :=
  assumeRule 29 [] Go.Proofs.Try.f29 hf29 [1, 1, 1] (s29_1 x t2) (m29_1 x t2) res [] _ (by kernel_rfl) h
abbrev s29_2 (x : Int) (t2 : Int) : List (Nat × AV) := [(0, (.sc (.int .u64 x))), (2, (.sc (.int .i64 t2)))]
abbrev m29_2 (x : Int) (t2 : Int) : List (Nat × Nat × AV) := []
def L29_2 (x : Int) (t2 : Int) (res : AV) : Prop := Goes ⟨Go.Proofs.Try.prog, 29, [], res, []⟩ (place Go.Proofs.Try.f29 [1, 1, 1, 1]) (s29_2 x t2) (m29_2 x t2)
theorem a29_2 (x : Int) (t2 : Int) (res : AV) (h : (∀ slot, fact (look .undef (s29_2 x t2) slot)) → L29_2 x t2 res) : L29_2 x t2 res :=
  assumeRule 29 [] Go.Proofs.Try.f29 hf29 [1, 1, 1, 1] (s29_2 x t2) (m29_2 x t2) res [] _ (by kernel_rfl) h
abbrev s29_3 (x : Int) (t2 : Int) : List (Nat × AV) := [(0, (.sc (.int .u64 x))), (2, (.sc (.int .i64 t2)))]
abbrev m29_3 (x : Int) (t2 : Int) : List (Nat × Nat × AV) := []
def L29_3 (x : Int) (t2 : Int) (res : AV) : Prop := Goes ⟨Go.Proofs.Try.prog, 29, [], res, []⟩ (place Go.Proofs.Try.f29 [1, 1, 1, 1, 1]) (s29_3 x t2) (m29_3 x t2)
theorem a29_3 (x : Int) (t2 : Int) (res : AV) (h : (∀ slot, fact (look .undef (s29_3 x t2) slot)) → L29_3 x t2 res) : L29_3 x t2 res :=
  assumeRule 29 [] Go.Proofs.Try.f29 hf29 [1, 1, 1, 1, 1] (s29_3 x t2) (m29_3 x t2) res [] _ (by kernel_rfl) h
abbrev s29_4 (x : Int) (t2 : Int) : List (Nat × AV) := [(0, (.sc (.int .u64 x))), (2, (.sc (.int .i64 t2)))]
abbrev m29_4 (x : Int) (t2 : Int) : List (Nat × Nat × AV) := []
def L29_4 (x : Int) (t2 : Int) (res : AV) : Prop := Goes ⟨Go.Proofs.Try.prog, 29, [], res, []⟩ (place Go.Proofs.Try.f29 [1, 1, 1, 1, 1, 1]) (s29_4 x t2) (m29_4 x t2)
theorem a29_4 (x : Int) (t2 : Int) (res : AV) (h : (∀ slot, fact (look .undef (s29_4 x t2) slot)) → L29_4 x t2 res) : L29_4 x t2 res :=
  assumeRule 29 [] Go.Proofs.Try.f29 hf29 [1, 1, 1, 1, 1, 1] (s29_4 x t2) (m29_4 x t2) res [] _ (by kernel_rfl) h
abbrev s29_5 (x : Int) (t2 : Int) : List (Nat × AV) := [(0, (.sc (.int .u64 x))), (2, (.sc (.int .i64 t2)))]
abbrev m29_5 (x : Int) (t2 : Int) : List (Nat × Nat × AV) := []
def L29_5 (x : Int) (t2 : Int) (res : AV) : Prop := Goes ⟨Go.Proofs.Try.prog, 29, [], res, []⟩ (place Go.Proofs.Try.f29 [1, 1, 1, 1, 1, 1, 1]) (s29_5 x t2) (m29_5 x t2)
theorem a29_5 (x : Int) (t2 : Int) (res : AV) (h : (∀ slot, fact (look .undef (s29_5 x t2) slot)) → L29_5 x t2 res) : L29_5 x t2 res :=
  assumeRule 29 [] Go.Proofs.Try.f29 hf29 [1, 1, 1, 1, 1, 1, 1] (s29_5 x t2) (m29_5 x t2) res [] _ (by kernel_rfl) h
theorem o29 (x : Int) (res : AV) (hnew : newOnly res) (h : L29_e x res) : Ok Go.Proofs.Try.prog 29 [(.sc (.int .u64 x))] [] res [] :=
  okRule2 29 Go.Proofs.Try.f29 hf29 [(.sc (.int .u64 x))] [] res [] [] rfl (by kernel_rfl) (by kernel_rfl) (by kernel_rfl) ⟨hnew, by simp⟩ (L29_e x res) (by kernel_rfl) h
theorem r29_e (x : Int) (res : AV)
    (h : (0 : Int) ≤ (1 : Int) ∧
  L29_0
    (IntKind.u64.wrap
    (IntKind.u64.wrap
    (↑(BitVec.ofInt IntKind.u64.bits (x.fdiv ((2 : Int) ^ min (Int.toNat (1 : Int)) IntKind.u64.bits)) &&&
    BitVec.ofInt IntKind.u64.bits (6148914691236517205 : Int)).toNat :
    Int) +
    IntKind.u64.wrap (↑(BitVec.ofInt IntKind.u64.bits x &&& BitVec.ofInt IntKind.u64.bits (6148914691236517205 : Int)).toNat : Int)))
    (0 : Int) res) :
    L29_e x res :=
  rule Go.Am.Seat.tabOk 29 [] Go.Proofs.Try.f29 hf29 [] (s29_e x) (m29_e x) res [] 400
    (Orc.cut (nat_lit 4)
  (s29_0
    (IntKind.u64.wrap
    (IntKind.u64.wrap
    (↑(BitVec.ofInt IntKind.u64.bits (x.fdiv ((2 : Int) ^ min (Int.toNat (1 : Int)) IntKind.u64.bits)) &&&
    BitVec.ofInt IntKind.u64.bits (6148914691236517205 : Int)).toNat :
    Int) +
    IntKind.u64.wrap (↑(BitVec.ofInt IntKind.u64.bits x &&& BitVec.ofInt IntKind.u64.bits (6148914691236517205 : Int)).toNat : Int)))
    (0 : Int))
  (m29_0
    (IntKind.u64.wrap
    (IntKind.u64.wrap
    (↑(BitVec.ofInt IntKind.u64.bits (x.fdiv ((2 : Int) ^ min (Int.toNat (1 : Int)) IntKind.u64.bits)) &&&
    BitVec.ofInt IntKind.u64.bits (6148914691236517205 : Int)).toNat :
    Int) +
    IntKind.u64.wrap (↑(BitVec.ofInt IntKind.u64.bits x &&& BitVec.ofInt IntKind.u64.bits (6148914691236517205 : Int)).toNat : Int)))
    (0 : Int))
  []) _ _ (by kernel_rfl) (by kernel_rfl) (show True ∧
  True ∧
    (0 : Int) ≤ (1 : Int) ∧
    True ∧
    True ∧
    True ∧
    True ∧
    True ∧
    ((True ∧
    Sub
    (AV.sc
    (Value.int IntKind.u64
    (IntKind.u64.wrap
    (IntKind.u64.wrap
    (↑(BitVec.ofInt IntKind.u64.bits (x.fdiv ((2 : Int) ^ min (Int.toNat (1 : Int)) IntKind.u64.bits)) &&&
    BitVec.ofInt IntKind.u64.bits (6148914691236517205 : Int)).toNat :
    Int) +
    IntKind.u64.wrap
    (↑(BitVec.ofInt IntKind.u64.bits x &&& BitVec.ofInt IntKind.u64.bits (6148914691236517205 : Int)).toNat : Int)))))
    (AV.sc
    (Value.int IntKind.u64
    (IntKind.u64.wrap
    (IntKind.u64.wrap
    (↑(BitVec.ofInt IntKind.u64.bits (x.fdiv ((2 : Int) ^ min (Int.toNat (1 : Int)) IntKind.u64.bits)) &&&
    BitVec.ofInt IntKind.u64.bits (6148914691236517205 : Int)).toNat :
    Int) +
    IntKind.u64.wrap
    (↑(BitVec.ofInt IntKind.u64.bits x &&& BitVec.ofInt IntKind.u64.bits (6148914691236517205 : Int)).toNat : Int))))) ∧
    True ∧ Sub (AV.sc (Value.int IntKind.i64 (0 : Int))) (AV.sc (Value.int IntKind.i64 (0 : Int))) ∧ True) ∧
    True) ∧
    L29_0
    (IntKind.u64.wrap
    (IntKind.u64.wrap
    (↑(BitVec.ofInt IntKind.u64.bits (x.fdiv ((2 : Int) ^ min (Int.toNat (1 : Int)) IntKind.u64.bits)) &&&
    BitVec.ofInt IntKind.u64.bits (6148914691236517205 : Int)).toNat :
    Int) +
    IntKind.u64.wrap (↑(BitVec.ofInt IntKind.u64.bits x &&& BitVec.ofInt IntKind.u64.bits (6148914691236517205 : Int)).toNat : Int)))
    (0 : Int) res from
    ⟨trivial, ⟨trivial, (And.elim (fun h2 k2 => ⟨h2, ⟨trivial, ⟨trivial, ⟨trivial, ⟨trivial, ⟨trivial, ⟨⟨⟨trivial, ⟨Sub.refl _, ⟨trivial, ⟨Sub.refl _, trivial⟩⟩⟩⟩, trivial⟩, k2⟩⟩⟩⟩⟩⟩⟩) h)⟩⟩)
theorem r29_0 (x : Int) (t2 : Int) (res : AV)
    (h : (0 : Int) ≤ (2 : Int) ∧
  L29_1
    (IntKind.u64.wrap
    (IntKind.u64.wrap
    (↑(BitVec.ofInt IntKind.u64.bits (x.fdiv ((2 : Int) ^ min (Int.toNat (2 : Int)) IntKind.u64.bits)) &&&
    BitVec.ofInt IntKind.u64.bits (3689348814741910323 : Int)).toNat :
    Int) +
    IntKind.u64.wrap (↑(BitVec.ofInt IntKind.u64.bits x &&& BitVec.ofInt IntKind.u64.bits (3689348814741910323 : Int)).toNat : Int)))
    t2 res) :
    L29_0 x t2 res :=
  rule Go.Am.Seat.tabOk 29 [] Go.Proofs.Try.f29 hf29 [1, 1] (s29_0 x t2) (m29_0 x t2) res [] 400
    (Orc.cut (nat_lit 2)
  (s29_1
    (IntKind.u64.wrap
    (IntKind.u64.wrap
    (↑(BitVec.ofInt IntKind.u64.bits (x.fdiv ((2 : Int) ^ min (Int.toNat (2 : Int)) IntKind.u64.bits)) &&&
    BitVec.ofInt IntKind.u64.bits (3689348814741910323 : Int)).toNat :
    Int) +
    IntKind.u64.wrap (↑(BitVec.ofInt IntKind.u64.bits x &&& BitVec.ofInt IntKind.u64.bits (3689348814741910323 : Int)).toNat : Int)))
    t2)
  (m29_1
    (IntKind.u64.wrap
    (IntKind.u64.wrap
    (↑(BitVec.ofInt IntKind.u64.bits (x.fdiv ((2 : Int) ^ min (Int.toNat (2 : Int)) IntKind.u64.bits)) &&&
    BitVec.ofInt IntKind.u64.bits (3689348814741910323 : Int)).toNat :
    Int) +
    IntKind.u64.wrap (↑(BitVec.ofInt IntKind.u64.bits x &&& BitVec.ofInt IntKind.u64.bits (3689348814741910323 : Int)).toNat : Int)))
    t2)
  []) _ _ (by kernel_rfl) (by kernel_rfl) (show True ∧
  (0 : Int) ≤ (2 : Int) ∧
    True ∧
    True ∧
    True ∧
    True ∧
    True ∧
    ((True ∧
    Sub
    (AV.sc
    (Value.int IntKind.u64
    (IntKind.u64.wrap
    (IntKind.u64.wrap
    (↑(BitVec.ofInt IntKind.u64.bits (x.fdiv ((2 : Int) ^ min (Int.toNat (2 : Int)) IntKind.u64.bits)) &&&
    BitVec.ofInt IntKind.u64.bits (3689348814741910323 : Int)).toNat :
    Int) +
    IntKind.u64.wrap
    (↑(BitVec.ofInt IntKind.u64.bits x &&& BitVec.ofInt IntKind.u64.bits (3689348814741910323 : Int)).toNat : Int)))))
    (AV.sc
    (Value.int IntKind.u64
    (IntKind.u64.wrap
    (IntKind.u64.wrap
    (↑(BitVec.ofInt IntKind.u64.bits (x.fdiv ((2 : Int) ^ min (Int.toNat (2 : Int)) IntKind.u64.bits)) &&&
    BitVec.ofInt IntKind.u64.bits (3689348814741910323 : Int)).toNat :
    Int) +
    IntKind.u64.wrap
    (↑(BitVec.ofInt IntKind.u64.bits x &&& BitVec.ofInt IntKind.u64.bits (3689348814741910323 : Int)).toNat : Int))))) ∧
    True ∧ Sub (AV.sc (Value.int IntKind.i64 t2)) (AV.sc (Value.int IntKind.i64 t2)) ∧ True) ∧
    True) ∧
    L29_1
    (IntKind.u64.wrap
    (IntKind.u64.wrap
    (↑(BitVec.ofInt IntKind.u64.bits (x.fdiv ((2 : Int) ^ min (Int.toNat (2 : Int)) IntKind.u64.bits)) &&&
    BitVec.ofInt IntKind.u64.bits (3689348814741910323 : Int)).toNat :
    Int) +
    IntKind.u64.wrap (↑(BitVec.ofInt IntKind.u64.bits x &&& BitVec.ofInt IntKind.u64.bits (3689348814741910323 : Int)).toNat : Int)))
    t2 res from
    ⟨trivial, (And.elim (fun h1 k1 => ⟨h1, ⟨trivial, ⟨trivial, ⟨trivial, ⟨trivial, ⟨trivial, ⟨⟨⟨trivial, ⟨Sub.refl _, ⟨trivial, ⟨Sub.refl _, trivial⟩⟩⟩⟩, trivial⟩, k1⟩⟩⟩⟩⟩⟩⟩) h)⟩)
theorem r29_1 (x : Int) (t2 : Int) (res : AV)
    (h : (0 : Int) ≤ (4 : Int) ∧
  L29_2
    (IntKind.u64.wrap
    (↑(BitVec.ofInt IntKind.u64.bits (IntKind.u64.wrap (x.fdiv ((2 : Int) ^ min (Int.toNat (4 : Int)) IntKind.u64.bits) + x)) &&&
    BitVec.ofInt IntKind.u64.bits (1085102592571150095 : Int)).toNat :
    Int))
    t2 res) :
    L29_1 x t2 res :=
  rule Go.Am.Seat.tabOk 29 [] Go.Proofs.Try.f29 hf29 [1, 1, 1] (s29_1 x t2) (m29_1 x t2) res [] 400
    (Orc.cut (nat_lit 2)
  (s29_2
    (IntKind.u64.wrap
    (↑(BitVec.ofInt IntKind.u64.bits (IntKind.u64.wrap (x.fdiv ((2 : Int) ^ min (Int.toNat (4 : Int)) IntKind.u64.bits) + x)) &&&
    BitVec.ofInt IntKind.u64.bits (1085102592571150095 : Int)).toNat :
    Int))
    t2)
  (m29_2
    (IntKind.u64.wrap
    (↑(BitVec.ofInt IntKind.u64.bits (IntKind.u64.wrap (x.fdiv ((2 : Int) ^ min (Int.toNat (4 : Int)) IntKind.u64.bits) + x)) &&&
    BitVec.ofInt IntKind.u64.bits (1085102592571150095 : Int)).toNat :
    Int))
    t2)
  []) _ _ (by kernel_rfl) (by kernel_rfl) (show True ∧
  (0 : Int) ≤ (4 : Int) ∧
    True ∧
    True ∧
    True ∧
    True ∧
    ((True ∧
    Sub
    (AV.sc
    (Value.int IntKind.u64
    (IntKind.u64.wrap
    (↑(BitVec.ofInt IntKind.u64.bits (IntKind.u64.wrap (x.fdiv ((2 : Int) ^ min (Int.toNat (4 : Int)) IntKind.u64.bits) + x)) &&&
    BitVec.ofInt IntKind.u64.bits (1085102592571150095 : Int)).toNat :
    Int))))
    (AV.sc
    (Value.int IntKind.u64
    (IntKind.u64.wrap
    (↑(BitVec.ofInt IntKind.u64.bits (IntKind.u64.wrap (x.fdiv ((2 : Int) ^ min (Int.toNat (4 : Int)) IntKind.u64.bits) + x)) &&&
    BitVec.ofInt IntKind.u64.bits (1085102592571150095 : Int)).toNat :
    Int)))) ∧
    True ∧ Sub (AV.sc (Value.int IntKind.i64 t2)) (AV.sc (Value.int IntKind.i64 t2)) ∧ True) ∧
    True) ∧
    L29_2
    (IntKind.u64.wrap
    (↑(BitVec.ofInt IntKind.u64.bits (IntKind.u64.wrap (x.fdiv ((2 : Int) ^ min (Int.toNat (4 : Int)) IntKind.u64.bits) + x)) &&&
    BitVec.ofInt IntKind.u64.bits (1085102592571150095 : Int)).toNat :
    Int))
    t2 res from
    ⟨trivial, (And.elim (fun h1 k1 => ⟨h1, ⟨trivial, ⟨trivial, ⟨trivial, ⟨trivial, ⟨⟨⟨trivial, ⟨Sub.refl _, ⟨trivial, ⟨Sub.refl _, trivial⟩⟩⟩⟩, trivial⟩, k1⟩⟩⟩⟩⟩⟩) h)⟩)
theorem r29_2 (x : Int) (t2 : Int) (res : AV)
    (h : (0 : Int) ≤ (8 : Int) ∧ L29_3 (IntKind.u64.wrap (x + x.fdiv ((2 : Int) ^ min (Int.toNat (8 : Int)) IntKind.u64.bits))) t2 res) :
    L29_2 x t2 res :=
  rule Go.Am.Seat.tabOk 29 [] Go.Proofs.Try.f29 hf29 [1, 1, 1, 1] (s29_2 x t2) (m29_2 x t2) res [] 400
    (Orc.cut (nat_lit 2) (s29_3 (IntKind.u64.wrap (x + x.fdiv ((2 : Int) ^ min (Int.toNat (8 : Int)) IntKind.u64.bits))) t2)
  (m29_3 (IntKind.u64.wrap (x + x.fdiv ((2 : Int) ^ min (Int.toNat (8 : Int)) IntKind.u64.bits))) t2) []) _ _ (by kernel_rfl) (by kernel_rfl) (show True ∧
  True ∧
    (0 : Int) ≤ (8 : Int) ∧
    True ∧
    True ∧
    ((True ∧
    Sub (AV.sc (Value.int IntKind.u64 (IntKind.u64.wrap (x + x.fdiv ((2 : Int) ^ min (Int.toNat (8 : Int)) IntKind.u64.bits)))))
    (AV.sc (Value.int IntKind.u64 (IntKind.u64.wrap (x + x.fdiv ((2 : Int) ^ min (Int.toNat (8 : Int)) IntKind.u64.bits))))) ∧
    True ∧ Sub (AV.sc (Value.int IntKind.i64 t2)) (AV.sc (Value.int IntKind.i64 t2)) ∧ True) ∧
    True) ∧
    L29_3 (IntKind.u64.wrap (x + x.fdiv ((2 : Int) ^ min (Int.toNat (8 : Int)) IntKind.u64.bits))) t2 res from
    ⟨trivial, ⟨trivial, (And.elim (fun h2 k2 => ⟨h2, ⟨trivial, ⟨trivial, ⟨⟨⟨trivial, ⟨Sub.refl _, ⟨trivial, ⟨Sub.refl _, trivial⟩⟩⟩⟩, trivial⟩, k2⟩⟩⟩⟩) h)⟩⟩)
theorem r29_3 (x : Int) (t2 : Int) (res : AV)
    (h : (0 : Int) ≤ (16 : Int) ∧ L29_4 (IntKind.u64.wrap (x + x.fdiv ((2 : Int) ^ min (Int.toNat (16 : Int)) IntKind.u64.bits))) t2 res) :
    L29_3 x t2 res :=
  rule Go.Am.Seat.tabOk 29 [] Go.Proofs.Try.f29 hf29 [1, 1, 1, 1, 1] (s29_3 x t2) (m29_3 x t2) res [] 400
    (Orc.cut (nat_lit 2) (s29_4 (IntKind.u64.wrap (x + x.fdiv ((2 : Int) ^ min (Int.toNat (16 : Int)) IntKind.u64.bits))) t2)
  (m29_4 (IntKind.u64.wrap (x + x.fdiv ((2 : Int) ^ min (Int.toNat (16 : Int)) IntKind.u64.bits))) t2) []) _ _ (by kernel_rfl) (by kernel_rfl) (show True ∧
  True ∧
    (0 : Int) ≤ (16 : Int) ∧
    True ∧
    True ∧
    ((True ∧
    Sub (AV.sc (Value.int IntKind.u64 (IntKind.u64.wrap (x + x.fdiv ((2 : Int) ^ min (Int.toNat (16 : Int)) IntKind.u64.bits)))))
    (AV.sc (Value.int IntKind.u64 (IntKind.u64.wrap (x + x.fdiv ((2 : Int) ^ min (Int.toNat (16 : Int)) IntKind.u64.bits))))) ∧
    True ∧ Sub (AV.sc (Value.int IntKind.i64 t2)) (AV.sc (Value.int IntKind.i64 t2)) ∧ True) ∧
    True) ∧
    L29_4 (IntKind.u64.wrap (x + x.fdiv ((2 : Int) ^ min (Int.toNat (16 : Int)) IntKind.u64.bits))) t2 res from
    ⟨trivial, ⟨trivial, (And.elim (fun h2 k2 => ⟨h2, ⟨trivial, ⟨trivial, ⟨⟨⟨trivial, ⟨Sub.refl _, ⟨trivial, ⟨Sub.refl _, trivial⟩⟩⟩⟩, trivial⟩, k2⟩⟩⟩⟩) h)⟩⟩)
theorem r29_4 (x : Int) (t2 : Int) (res : AV)
    (h : (0 : Int) ≤ (32 : Int) ∧ L29_5 (IntKind.u64.wrap (x + x.fdiv ((2 : Int) ^ min (Int.toNat (32 : Int)) IntKind.u64.bits))) t2 res) :
    L29_4 x t2 res :=
  rule Go.Am.Seat.tabOk 29 [] Go.Proofs.Try.f29 hf29 [1, 1, 1, 1, 1, 1] (s29_4 x t2) (m29_4 x t2) res [] 400
    (Orc.cut (nat_lit 2) (s29_5 (IntKind.u64.wrap (x + x.fdiv ((2 : Int) ^ min (Int.toNat (32 : Int)) IntKind.u64.bits))) t2)
  (m29_5 (IntKind.u64.wrap (x + x.fdiv ((2 : Int) ^ min (Int.toNat (32 : Int)) IntKind.u64.bits))) t2) []) _ _ (by kernel_rfl) (by kernel_rfl) (show True ∧
  True ∧
    (0 : Int) ≤ (32 : Int) ∧
    True ∧
    True ∧
    ((True ∧
    Sub (AV.sc (Value.int IntKind.u64 (IntKind.u64.wrap (x + x.fdiv ((2 : Int) ^ min (Int.toNat (32 : Int)) IntKind.u64.bits)))))
    (AV.sc (Value.int IntKind.u64 (IntKind.u64.wrap (x + x.fdiv ((2 : Int) ^ min (Int.toNat (32 : Int)) IntKind.u64.bits))))) ∧
    True ∧ Sub (AV.sc (Value.int IntKind.i64 t2)) (AV.sc (Value.int IntKind.i64 t2)) ∧ True) ∧
    True) ∧
    L29_5 (IntKind.u64.wrap (x + x.fdiv ((2 : Int) ^ min (Int.toNat (32 : Int)) IntKind.u64.bits))) t2 res from
    ⟨trivial, ⟨trivial, (And.elim (fun h2 k2 => ⟨h2, ⟨trivial, ⟨trivial, ⟨⟨⟨trivial, ⟨Sub.refl _, ⟨trivial, ⟨Sub.refl _, trivial⟩⟩⟩⟩, trivial⟩, k2⟩⟩⟩⟩) h)⟩⟩)
theorem r29_5 (x : Int) (t2 : Int) (res : AV)
    (h : Sub
  (AV.sc
    (Value.int IntKind.i64
    (IntKind.i64.wrap (↑(BitVec.ofInt IntKind.i64.bits (IntKind.i64.wrap x) &&& BitVec.ofInt IntKind.i64.bits (127 : Int)).toNat : Int))))
  res) :
    L29_5 x t2 res :=
  rule Go.Am.Seat.tabOk 29 [] Go.Proofs.Try.f29 hf29 [1, 1, 1, 1, 1, 1, 1] (s29_5 x t2) (m29_5 x t2) res [] 400
    (Orc.fin
  (AV.sc
    (Value.int IntKind.i64
    (IntKind.i64.wrap (↑(BitVec.ofInt IntKind.i64.bits (IntKind.i64.wrap x) &&& BitVec.ofInt IntKind.i64.bits (127 : Int)).toNat : Int))))
  [] []) _ _ (by kernel_rfl) (by kernel_rfl) (show True ∧
  True ∧
    True ∧
    True ∧
    True ∧
    ((True ∧
    Sub
    (AV.sc
    (Value.int IntKind.i64
    (IntKind.i64.wrap (↑(BitVec.ofInt IntKind.i64.bits (IntKind.i64.wrap x) &&& BitVec.ofInt IntKind.i64.bits (127 : Int)).toNat : Int))))
    (AV.sc
    (Value.int IntKind.i64
    (IntKind.i64.wrap (↑(BitVec.ofInt IntKind.i64.bits (IntKind.i64.wrap x) &&& BitVec.ofInt IntKind.i64.bits (127 : Int)).toNat : Int)))) ∧
    True) ∧
    True) ∧
    Sub
    (AV.sc
    (Value.int IntKind.i64
    (IntKind.i64.wrap (↑(BitVec.ofInt IntKind.i64.bits (IntKind.i64.wrap x) &&& BitVec.ofInt IntKind.i64.bits (127 : Int)).toNat : Int))))
    res ∧
    SubOut [] [] from
    ⟨trivial, ⟨trivial, ⟨trivial, ⟨trivial, ⟨trivial, ⟨⟨⟨trivial, ⟨Sub.refl _, trivial⟩⟩, trivial⟩, ((fun h6 => ⟨h6, trivial⟩) h)⟩⟩⟩⟩⟩⟩)
theorem hf30 : Go.Proofs.Try.prog.funcs[30]? = some Go.Proofs.Try.f30 := by kernel_rfl
abbrev s30_e (sf : Nat → Int) (b : Int) : List (Nat × AV) := [(0, (.ar 4 1 (fun i0 => (.sc (.int .u64 (sf i0)))))), (1, (.sc (.int .u8 b)))]
abbrev m30_e (sf : Nat → Int) (b : Int) : List (Nat × Nat × AV) := []
def L30_e (sf : Nat → Int) (b : Int) (res : AV) : Prop := Goes ⟨Go.Proofs.Try.prog, 30, [], res, []⟩ (place Go.Proofs.Try.f30 []) (s30_e sf b) (m30_e sf b)
theorem a30_e (sf : Nat → Int) (b : Int) (res : AV) (h : (∀ slot, fact (look .undef (s30_e sf b) slot)) → L30_e sf b res) : L30_e sf b res :=
  assumeRule 30 [] Go.Proofs.Try.f30 hf30 [] (s30_e sf b) (m30_e sf b) res [] _ (by kernel_rfl) h
theorem o30 (sf : Nat → Int) (b : Int) (res : AV) (hnew : newOnly res) (h : L30_e sf b res) : Ok Go.Proofs.Try.prog 30 [(.ar 4 1 (fun i0 => (.sc (.int .u64 (sf i0))))), (.sc (.int .u8 b))] [] res [] :=
  okRule2 30 Go.Proofs.Try.f30 hf30 [(.ar 4 1 (fun i0 => (.sc (.int .u64 (sf i0))))), (.sc (.int .u8 b))] [] res [] [] rfl (by kernel_rfl) (by kernel_rfl) (by kernel_rfl) ⟨hnew, by simp⟩ (L30_e sf b res) (by kernel_rfl) h
theorem r30_e (sf : Nat → Int) (b : Int) (res : AV)
    (h : ((0 : Int) ≤ IntKind.u8.wrap (b.tdiv (64 : Int)) ∧ IntKind.u8.wrap (b.tdiv (64 : Int)) < (↑(4 : Nat) : Int)) ∧
  (IntKind.u8.wrap (b.tdiv (64 : Int))).toNat < (4 : Nat) ∧
    (0 : Int) ≤ b.tmod (64 : Int) ∧
    Sub
    (AV.ar (4 : Nat) (1 : Nat) fun (i : Nat) =>
    AV.sc
    (Value.int IntKind.u64
    (bif i.beq (IntKind.u8.wrap (b.tdiv (64 : Int))).toNat then
    IntKind.u64.wrap
    (↑(BitVec.ofInt IntKind.u64.bits (sf (IntKind.u8.wrap (b.tdiv (64 : Int))).toNat) |||
    BitVec.ofInt IntKind.u64.bits (IntKind.u64.wrap ((1 : Int) * (2 : Int) ^ min (b.tmod (64 : Int)).toNat IntKind.u64.bits))).toNat :
    Int)
    else sf i)))
    res) :
    L30_e sf b res :=
  rule Go.Am.Seat.tabOk 30 [] Go.Proofs.Try.f30 hf30 [] (s30_e sf b) (m30_e sf b) res [] 400
    (Orc.fin
  (AV.ar (4 : Nat) (1 : Nat) fun (i : Nat) =>
    AV.sc
    (Value.int IntKind.u64
    (bif i.beq (IntKind.u8.wrap (b.tdiv (64 : Int))).toNat then
    IntKind.u64.wrap
    (↑(BitVec.ofInt IntKind.u64.bits (sf (IntKind.u8.wrap (b.tdiv (64 : Int))).toNat) |||
    BitVec.ofInt IntKind.u64.bits (IntKind.u64.wrap ((1 : Int) * (2 : Int) ^ min (b.tmod (64 : Int)).toNat IntKind.u64.bits))).toNat :
    Int)
    else sf i)))
  [] []) _ _ (by kernel_rfl) (by kernel_rfl) (show True ∧
  True ∧
    True ∧
    (64 : Int) ≠ (0 : Int) ∧
    ((0 : Int) ≤ IntKind.u8.wrap (b.tdiv (64 : Int)) ∧ IntKind.u8.wrap (b.tdiv (64 : Int)) < (↑(4 : Nat) : Int)) ∧
    ((IntKind.u8.wrap (b.tdiv (64 : Int))).toNat * (1 : Nat) + (0 : Nat) = plus (0 : Nat) ((IntKind.u8.wrap (b.tdiv (64 : Int))).toNat * (1 : Nat)) ∧
    (IntKind.u8.wrap (b.tdiv (64 : Int))).toNat < (4 : Nat) ∧ True) ∧
    True ∧
    (64 : Int) ≠ (0 : Int) ∧
    (0 : Int) ≤ b.tmod (64 : Int) ∧
    True ∧
    ((0 : Int) ≤ IntKind.u8.wrap (b.tdiv (64 : Int)) ∧ IntKind.u8.wrap (b.tdiv (64 : Int)) < (↑(4 : Nat) : Int)) ∧
    ((IntKind.u8.wrap (b.tdiv (64 : Int))).toNat * (1 : Nat) + (0 : Nat) =
    plus (0 : Nat) ((IntKind.u8.wrap (b.tdiv (64 : Int))).toNat * (1 : Nat)) ∧
    ((IntKind.u8.wrap (b.tdiv (64 : Int))).toNat < (4 : Nat) ∧ True) ∧ True) ∧
    ((0 : Nat) = (0 : Nat) ∧ True) ∧
    ((0 : Nat) = (0 : Nat) ∧ True) ∧
    ((0 : Nat) = (0 : Nat) ∧ True) ∧
    ((True ∧
    Sub
    (AV.ar (4 : Nat) (1 : Nat) fun (i : Nat) =>
    AV.sc
    (Value.int IntKind.u64
    (bif i.beq (IntKind.u8.wrap (b.tdiv (64 : Int))).toNat then
    IntKind.u64.wrap
    (↑(BitVec.ofInt IntKind.u64.bits (sf (IntKind.u8.wrap (b.tdiv (64 : Int))).toNat) |||
    BitVec.ofInt IntKind.u64.bits
    (IntKind.u64.wrap ((1 : Int) * (2 : Int) ^ min (b.tmod (64 : Int)).toNat IntKind.u64.bits))).toNat :
    Int)
    else sf i)))
    (AV.ar (4 : Nat) (1 : Nat) fun (i : Nat) =>
    AV.sc
    (Value.int IntKind.u64
    (bif i.beq (IntKind.u8.wrap (b.tdiv (64 : Int))).toNat then
    IntKind.u64.wrap
    (↑(BitVec.ofInt IntKind.u64.bits (sf (IntKind.u8.wrap (b.tdiv (64 : Int))).toNat) |||
    BitVec.ofInt IntKind.u64.bits
    (IntKind.u64.wrap ((1 : Int) * (2 : Int) ^ min (b.tmod (64 : Int)).toNat IntKind.u64.bits))).toNat :
    Int)
    else sf i))) ∧
    True) ∧
    True) ∧
    Sub
    (AV.ar (4 : Nat) (1 : Nat) fun (i : Nat) =>
    AV.sc
    (Value.int IntKind.u64
    (bif i.beq (IntKind.u8.wrap (b.tdiv (64 : Int))).toNat then
    IntKind.u64.wrap
    (↑(BitVec.ofInt IntKind.u64.bits (sf (IntKind.u8.wrap (b.tdiv (64 : Int))).toNat) |||
    BitVec.ofInt IntKind.u64.bits
    (IntKind.u64.wrap ((1 : Int) * (2 : Int) ^ min (b.tmod (64 : Int)).toNat IntKind.u64.bits))).toNat :
    Int)
    else sf i)))
    res ∧
    SubOut [] [] from
    ⟨trivial, ⟨trivial, ⟨trivial, ⟨(by decide), (And.elim (fun h4 k4 => ⟨(And.elim (fun h5 k5 => ⟨h5, k5⟩) h4), (And.elim (fun h5 k5 => ⟨⟨rfl, ((fun h7 => ⟨h7, trivial⟩) h5)⟩, ⟨trivial, ⟨(by decide), (And.elim (fun h8 k8 => ⟨h8, ⟨trivial, ⟨(And.elim (fun h11 k11 => ⟨h11, k11⟩) h4), ⟨⟨rfl, ⟨⟨h5, trivial⟩, trivial⟩⟩, ⟨⟨rfl, trivial⟩, ⟨⟨rfl, trivial⟩, ⟨⟨rfl, trivial⟩, ⟨⟨⟨trivial, ⟨Sub.refl _, trivial⟩⟩, trivial⟩, ((fun h16 => ⟨h16, trivial⟩) k8)⟩⟩⟩⟩⟩⟩⟩⟩) k5)⟩⟩⟩) k4)⟩) h)⟩⟩⟩⟩)
theorem hf31 : Go.Proofs.Try.prog.funcs[31]? = some Go.Proofs.Try.f31 := by kernel_rfl
abbrev s31_e (s : ByteArray) (at_ : Int) : List (Nat × AV) := [(0, (.sc (.string s))), (1, (.sc (.int .i64 at_)))]
abbrev m31_e (s : ByteArray) (at_ : Int) : List (Nat × Nat × AV) := []
def L31_e (s : ByteArray) (at_ : Int) (res : AV) : Prop := Goes ⟨Go.Proofs.Try.prog, 31, [], res, []⟩ (place Go.Proofs.Try.f31 []) (s31_e s at_) (m31_e s at_)
theorem a31_e (s : ByteArray) (at_ : Int) (res : AV) (h : (∀ slot, fact (look .undef (s31_e s at_) slot)) → L31_e s at_ res) : L31_e s at_ res :=
  assumeRule 31 [] Go.Proofs.Try.f31 hf31 [] (s31_e s at_) (m31_e s at_) res [] _ (by kernel_rfl) h
theorem o31 (s : ByteArray) (at_ : Int) (res : AV) (hnew : newOnly res) (h : L31_e s at_ res) : Ok Go.Proofs.Try.prog 31 [(.sc (.string s)), (.sc (.int .i64 at_))] [] res [] :=
  okRule2 31 Go.Proofs.Try.f31 hf31 [(.sc (.string s)), (.sc (.int .i64 at_))] [] res [] [] rfl (by kernel_rfl) (by kernel_rfl) (by kernel_rfl) ⟨hnew, by simp⟩ (L31_e s at_ res) (by kernel_rfl) h
theorem r31_e (s : ByteArray) (at_ : Int) (res : AV)
    (h : (decide (at_ ≥ (↑s.size : Int)) = true →
    Sub
    (AV.cons (1 : Nat) (AV.sc (Value.int IntKind.u8 (0 : Int)))
    (AV.cons (1 : Nat) (AV.sc (Value.int IntKind.i64 at_)) (AV.cons (1 : Nat) (AV.sc (Value.bool false)) AV.nil))).tup
    res) ∧
  (decide (at_ ≥ (↑s.size : Int)) = false →
    ((0 : Int) ≤ at_ ∧ at_ < (↑s.size : Int)) ∧
    (((↑(byteAt s at_.toNat).toNat : Int) != (92 : Int)) = true →
    ∃ (r : Bool),
    Ok Proofs.Try.prog (35 : Nat) [AV.sc (Value.int IntKind.u8 (↑(byteAt s at_.toNat).toNat : Int))] [] (AV.sc (Value.bool r)) [] ∧
    (r = true →
    Sub
    (AV.cons (1 : Nat) (AV.sc (Value.int IntKind.u8 (0 : Int)))
    (AV.cons (1 : Nat) (AV.sc (Value.int IntKind.i64 at_)) (AV.cons (1 : Nat) (AV.sc (Value.bool false)) AV.nil))).tup
    res) ∧
    (r = false →
    Sub
    (AV.cons (1 : Nat) (AV.sc (Value.int IntKind.u8 (↑(byteAt s at_.toNat).toNat : Int)))
    (AV.cons (1 : Nat) (AV.sc (Value.int IntKind.i64 (IntKind.i64.wrap (at_ + (1 : Int)))))
    (AV.cons (1 : Nat) (AV.sc (Value.bool true)) AV.nil))).tup
    res)) ∧
    (((↑(byteAt s at_.toNat).toNat : Int) != (92 : Int)) = false →
    (decide (IntKind.i64.wrap (at_ + (1 : Int)) ≥ (↑s.size : Int)) = true →
    Sub
    (AV.cons (1 : Nat) (AV.sc (Value.int IntKind.u8 (0 : Int)))
    (AV.cons (1 : Nat) (AV.sc (Value.int IntKind.i64 (IntKind.i64.wrap (at_ + (1 : Int)))))
    (AV.cons (1 : Nat) (AV.sc (Value.bool false)) AV.nil))).tup
    res) ∧
    (decide (IntKind.i64.wrap (at_ + (1 : Int)) ≥ (↑s.size : Int)) = false →
    ((0 : Int) ≤ IntKind.i64.wrap (at_ + (1 : Int)) ∧ IntKind.i64.wrap (at_ + (1 : Int)) < (↑s.size : Int)) ∧
    ∃ (r : Int × Bool),
    Ok Proofs.Try.prog (36 : Nat) [AV.sc (Value.int IntKind.u8 (↑(byteAt s (IntKind.i64.wrap (at_ + (1 : Int))).toNat).toNat : Int))] []
    (AV.cons (1 : Nat) (AV.sc (Value.int IntKind.u8 r.fst)) (AV.cons (1 : Nat) (AV.sc (Value.bool r.snd)) AV.nil)).tup [] ∧
    (r.snd = true →
    Sub
    (AV.cons (1 : Nat) (AV.sc (Value.int IntKind.u8 r.fst))
    (AV.cons (1 : Nat) (AV.sc (Value.int IntKind.i64 (IntKind.i64.wrap (at_ + (2 : Int)))))
    (AV.cons (1 : Nat) (AV.sc (Value.bool true)) AV.nil))).tup
    res) ∧
    (r.snd = false →
    ∃ (r : Bool),
    Ok Proofs.Try.prog (35 : Nat) [AV.sc (Value.int IntKind.u8 (↑(byteAt s (IntKind.i64.wrap (at_ + (1 : Int))).toNat).toNat : Int))] []
    (AV.sc (Value.bool r)) [] ∧
    (r = true →
    Sub
    (AV.cons (1 : Nat) (AV.sc (Value.int IntKind.u8 (↑(byteAt s (IntKind.i64.wrap (at_ + (1 : Int))).toNat).toNat : Int)))
    (AV.cons (1 : Nat) (AV.sc (Value.int IntKind.i64 (IntKind.i64.wrap (at_ + (2 : Int)))))
    (AV.cons (1 : Nat) (AV.sc (Value.bool true)) AV.nil))).tup
    res) ∧
    (r = false →
    Sub
    (AV.cons (1 : Nat) (AV.sc (Value.int IntKind.u8 (0 : Int)))
    (AV.cons (1 : Nat) (AV.sc (Value.int IntKind.i64 (IntKind.i64.wrap (at_ + (1 : Int)))))
    (AV.cons (1 : Nat) (AV.sc (Value.bool false)) AV.nil))).tup
    res)))))) :
    L31_e s at_ res :=
  rule Go.Am.Seat.tabOk 31 [] Go.Proofs.Try.f31 hf31 [] (s31_e s at_) (m31_e s at_) res [] 400
    ((Orc.fin
    (AV.cons (1 : Nat) (AV.sc (Value.int IntKind.u8 (0 : Int)))
    (AV.cons (1 : Nat) (AV.sc (Value.int IntKind.i64 at_)) (AV.cons (1 : Nat) (AV.sc (Value.bool false)) AV.nil))).tup
    [] []).br
  ((Orc.call [] [] (fun (r35 : Bool) => AV.sc (Value.bool r35)) (fun (r35 : Bool) => []) fun (r35 : Bool) =>
    (Orc.fin
    (AV.cons (1 : Nat) (AV.sc (Value.int IntKind.u8 (0 : Int)))
    (AV.cons (1 : Nat) (AV.sc (Value.int IntKind.i64 at_)) (AV.cons (1 : Nat) (AV.sc (Value.bool false)) AV.nil))).tup
    [] []).br
    (Orc.fin
    (AV.cons (1 : Nat) (AV.sc (Value.int IntKind.u8 (↑(byteAt s at_.toNat).toNat : Int)))
    (AV.cons (1 : Nat) (AV.sc (Value.int IntKind.i64 (IntKind.i64.wrap (at_ + (1 : Int)))))
    (AV.cons (1 : Nat) (AV.sc (Value.bool true)) AV.nil))).tup
    [] [])).br
    ((Orc.fin
    (AV.cons (1 : Nat) (AV.sc (Value.int IntKind.u8 (0 : Int)))
    (AV.cons (1 : Nat) (AV.sc (Value.int IntKind.i64 (IntKind.i64.wrap (at_ + (1 : Int)))))
    (AV.cons (1 : Nat) (AV.sc (Value.bool false)) AV.nil))).tup
    [] []).br
    (Orc.call [] []
    (fun (r36 : Int × Bool) => (AV.cons (1 : Nat) (AV.sc (Value.int IntKind.u8 r36.fst)) (AV.cons (1 : Nat) (AV.sc (Value.bool r36.snd)) AV.nil)).tup)
    (fun (r36 : Int × Bool) => []) fun (r36 : Int × Bool) =>
    (Orc.fin
    (AV.cons (1 : Nat) (AV.sc (Value.int IntKind.u8 r36.fst))
    (AV.cons (1 : Nat) (AV.sc (Value.int IntKind.i64 (IntKind.i64.wrap (at_ + (2 : Int)))))
    (AV.cons (1 : Nat) (AV.sc (Value.bool true)) AV.nil))).tup
    [] []).br
    (Orc.call [] [] (fun (r35 : Bool) => AV.sc (Value.bool r35)) (fun (r35 : Bool) => []) fun (r35 : Bool) =>
    (Orc.fin
    (AV.cons (1 : Nat) (AV.sc (Value.int IntKind.u8 (↑(byteAt s (IntKind.i64.wrap (at_ + (1 : Int))).toNat).toNat : Int)))
    (AV.cons (1 : Nat) (AV.sc (Value.int IntKind.i64 (IntKind.i64.wrap (at_ + (2 : Int)))))
    (AV.cons (1 : Nat) (AV.sc (Value.bool true)) AV.nil))).tup
    [] []).br
    (Orc.fin
    (AV.cons (1 : Nat) (AV.sc (Value.int IntKind.u8 (0 : Int)))
    (AV.cons (1 : Nat) (AV.sc (Value.int IntKind.i64 (IntKind.i64.wrap (at_ + (1 : Int)))))
    (AV.cons (1 : Nat) (AV.sc (Value.bool false)) AV.nil))).tup
    [] [])))))) _ _ (by kernel_rfl) (by kernel_rfl) (show True ∧
  True ∧
    True ∧
    True ∧
    True ∧
    True ∧
    True ∧
    True ∧
    (decide (at_ ≥ (↑s.size : Int)) = true →
    True ∧
    True ∧
    True ∧
    True ∧
    (True ∧ True ∧ True ∧ True) ∧
    (((True ∧ True ∧ True ∧ True) ∧
    Sub
    (AV.cons (1 : Nat) (AV.sc (Value.int IntKind.u8 (0 : Int)))
    (AV.cons (1 : Nat) (AV.sc (Value.int IntKind.i64 at_)) (AV.cons (1 : Nat) (AV.sc (Value.bool false)) AV.nil))).tup
    (AV.cons (1 : Nat) (AV.sc (Value.int IntKind.u8 (0 : Int)))
    (AV.cons (1 : Nat) (AV.sc (Value.int IntKind.i64 at_)) (AV.cons (1 : Nat) (AV.sc (Value.bool false)) AV.nil))).tup ∧
    True) ∧
    True) ∧
    Sub
    (AV.cons (1 : Nat) (AV.sc (Value.int IntKind.u8 (0 : Int)))
    (AV.cons (1 : Nat) (AV.sc (Value.int IntKind.i64 at_)) (AV.cons (1 : Nat) (AV.sc (Value.bool false)) AV.nil))).tup
    res ∧
    SubOut [] []) ∧
    (decide (at_ ≥ (↑s.size : Int)) = false →
    True ∧
    True ∧
    ((0 : Int) ≤ at_ ∧ at_ < (↑s.size : Int)) ∧
    True ∧
    True ∧
    (((↑(byteAt s at_.toNat).toNat : Int) != (92 : Int)) = true →
    True ∧
    True ∧
    ((0 : Int) ≤ at_ ∧ at_ < (↑s.size : Int)) ∧
    ∃ (r : Bool),
    ((True ∧ True) ∧
    True ∧
    Ok Proofs.Try.prog (35 : Nat) [AV.sc (Value.int IntKind.u8 (↑(byteAt s at_.toNat).toNat : Int))] []
    (AV.sc (Value.bool r)) []) ∧
    (r = true →
    True ∧
    True ∧
    True ∧
    True ∧
    (True ∧ True ∧ True ∧ True) ∧
    (((True ∧ True ∧ True ∧ True) ∧
    Sub
    (AV.cons (1 : Nat) (AV.sc (Value.int IntKind.u8 (0 : Int)))
    (AV.cons (1 : Nat) (AV.sc (Value.int IntKind.i64 at_))
    (AV.cons (1 : Nat) (AV.sc (Value.bool false)) AV.nil))).tup
    (AV.cons (1 : Nat) (AV.sc (Value.int IntKind.u8 (0 : Int)))
    (AV.cons (1 : Nat) (AV.sc (Value.int IntKind.i64 at_))
    (AV.cons (1 : Nat) (AV.sc (Value.bool false)) AV.nil))).tup ∧
    True) ∧
    True) ∧
    Sub
    (AV.cons (1 : Nat) (AV.sc (Value.int IntKind.u8 (0 : Int)))
    (AV.cons (1 : Nat) (AV.sc (Value.int IntKind.i64 at_))
    (AV.cons (1 : Nat) (AV.sc (Value.bool false)) AV.nil))).tup
    res ∧
    SubOut [] []) ∧
    (r = false →
    True ∧
    True ∧
    ((0 : Int) ≤ at_ ∧ at_ < (↑s.size : Int)) ∧
    True ∧
    True ∧
    True ∧
    True ∧
    True ∧
    (True ∧ True ∧ True ∧ True) ∧
    (((True ∧ True ∧ True ∧ True) ∧
    Sub
    (AV.cons (1 : Nat)
    (AV.sc (Value.int IntKind.u8 (↑(byteAt s at_.toNat).toNat : Int)))
    (AV.cons (1 : Nat)
    (AV.sc (Value.int IntKind.i64 (IntKind.i64.wrap (at_ + (1 : Int)))))
    (AV.cons (1 : Nat) (AV.sc (Value.bool true)) AV.nil))).tup
    (AV.cons (1 : Nat)
    (AV.sc (Value.int IntKind.u8 (↑(byteAt s at_.toNat).toNat : Int)))
    (AV.cons (1 : Nat)
    (AV.sc (Value.int IntKind.i64 (IntKind.i64.wrap (at_ + (1 : Int)))))
    (AV.cons (1 : Nat) (AV.sc (Value.bool true)) AV.nil))).tup ∧
    True) ∧
    True) ∧
    Sub
    (AV.cons (1 : Nat) (AV.sc (Value.int IntKind.u8 (↑(byteAt s at_.toNat).toNat : Int)))
    (AV.cons (1 : Nat)
    (AV.sc (Value.int IntKind.i64 (IntKind.i64.wrap (at_ + (1 : Int)))))
    (AV.cons (1 : Nat) (AV.sc (Value.bool true)) AV.nil))).tup
    res ∧
    SubOut [] [])) ∧
    (((↑(byteAt s at_.toNat).toNat : Int) != (92 : Int)) = false →
    True ∧
    True ∧
    True ∧
    True ∧
    True ∧
    True ∧
    (decide (IntKind.i64.wrap (at_ + (1 : Int)) ≥ (↑s.size : Int)) = true →
    True ∧
    True ∧
    True ∧
    True ∧
    True ∧
    (True ∧ True ∧ True ∧ True) ∧
    (((True ∧ True ∧ True ∧ True) ∧
    Sub
    (AV.cons (1 : Nat) (AV.sc (Value.int IntKind.u8 (0 : Int)))
    (AV.cons (1 : Nat)
    (AV.sc (Value.int IntKind.i64 (IntKind.i64.wrap (at_ + (1 : Int)))))
    (AV.cons (1 : Nat) (AV.sc (Value.bool false)) AV.nil))).tup
    (AV.cons (1 : Nat) (AV.sc (Value.int IntKind.u8 (0 : Int)))
    (AV.cons (1 : Nat)
    (AV.sc (Value.int IntKind.i64 (IntKind.i64.wrap (at_ + (1 : Int)))))
    (AV.cons (1 : Nat) (AV.sc (Value.bool false)) AV.nil))).tup ∧
    True) ∧
    True) ∧
    Sub
    (AV.cons (1 : Nat) (AV.sc (Value.int IntKind.u8 (0 : Int)))
    (AV.cons (1 : Nat) (AV.sc (Value.int IntKind.i64 (IntKind.i64.wrap (at_ + (1 : Int)))))
    (AV.cons (1 : Nat) (AV.sc (Value.bool false)) AV.nil))).tup
    res ∧
    SubOut [] []) ∧
    (decide (IntKind.i64.wrap (at_ + (1 : Int)) ≥ (↑s.size : Int)) = false →
    True ∧
    True ∧
    True ∧
    ((0 : Int) ≤ IntKind.i64.wrap (at_ + (1 : Int)) ∧
    IntKind.i64.wrap (at_ + (1 : Int)) < (↑s.size : Int)) ∧
    ∃ (r : Int × Bool),
    ((True ∧ True) ∧
    True ∧
    Ok Proofs.Try.prog (36 : Nat)
    [AV.sc
    (Value.int IntKind.u8
    (↑(byteAt s (IntKind.i64.wrap (at_ + (1 : Int))).toNat).toNat : Int))]
    []
    (AV.cons (1 : Nat) (AV.sc (Value.int IntKind.u8 r.fst))
    (AV.cons (1 : Nat) (AV.sc (Value.bool r.snd)) AV.nil)).tup
    []) ∧
    True ∧
    True ∧
    True ∧
    True ∧
    True ∧
    True ∧
    (r.snd = true →
    True ∧
    True ∧
    True ∧
    True ∧
    True ∧
    True ∧
    (True ∧ True ∧ True ∧ True) ∧
    (((True ∧ True ∧ True ∧ True) ∧
    Sub
    (AV.cons (1 : Nat) (AV.sc (Value.int IntKind.u8 r.fst))
    (AV.cons (1 : Nat)
    (AV.sc
    (Value.int IntKind.i64
    (IntKind.i64.wrap (at_ + (2 : Int)))))
    (AV.cons (1 : Nat) (AV.sc (Value.bool true))
    AV.nil))).tup
    (AV.cons (1 : Nat) (AV.sc (Value.int IntKind.u8 r.fst))
    (AV.cons (1 : Nat)
    (AV.sc
    (Value.int IntKind.i64
    (IntKind.i64.wrap (at_ + (2 : Int)))))
    (AV.cons (1 : Nat) (AV.sc (Value.bool true))
    AV.nil))).tup ∧
    True) ∧
    True) ∧
    Sub
    (AV.cons (1 : Nat) (AV.sc (Value.int IntKind.u8 r.fst))
    (AV.cons (1 : Nat)
    (AV.sc
    (Value.int IntKind.i64
    (IntKind.i64.wrap (at_ + (2 : Int)))))
    (AV.cons (1 : Nat) (AV.sc (Value.bool true))
    AV.nil))).tup
    res ∧
    SubOut [] []) ∧
    (r.snd = false →
    True ∧
    True ∧
    True ∧
    ((0 : Int) ≤ IntKind.i64.wrap (at_ + (1 : Int)) ∧
    IntKind.i64.wrap (at_ + (1 : Int)) < (↑s.size : Int)) ∧
    ∃ (r : Bool),
    ((True ∧ True) ∧
    True ∧
    Ok Proofs.Try.prog (35 : Nat)
    [AV.sc
    (Value.int IntKind.u8
    (↑(byteAt s
    (IntKind.i64.wrap
    (at_ + (1 : Int))).toNat).toNat :
    Int))]
    [] (AV.sc (Value.bool r)) []) ∧
    (r = true →
    True ∧
    True ∧
    True ∧
    ((0 : Int) ≤ IntKind.i64.wrap (at_ + (1 : Int)) ∧
    IntKind.i64.wrap (at_ + (1 : Int)) < (↑s.size : Int)) ∧
    True ∧
    True ∧
    True ∧
    True ∧
    True ∧
    (True ∧ True ∧ True ∧ True) ∧
    (((True ∧ True ∧ True ∧ True) ∧
    Sub
    (AV.cons (1 : Nat)
    (AV.sc
    (Value.int IntKind.u8
    (↑(byteAt s
    (IntKind.i64.wrap
    (at_ +
    (1 :
    Int))).toNat).toNat :
    Int)))
    (AV.cons (1 : Nat)
    (AV.sc
    (Value.int IntKind.i64
    (IntKind.i64.wrap
    (at_ + (2 : Int)))))
    (AV.cons (1 : Nat)
    (AV.sc (Value.bool true))
    AV.nil))).tup
    (AV.cons (1 : Nat)
    (AV.sc
    (Value.int IntKind.u8
    (↑(byteAt s
    (IntKind.i64.wrap
    (at_ +
    (1 :
    Int))).toNat).toNat :
    Int)))
    (AV.cons (1 : Nat)
    (AV.sc
    (Value.int IntKind.i64
    (IntKind.i64.wrap
    (at_ + (2 : Int)))))
    (AV.cons (1 : Nat)
    (AV.sc (Value.bool true))
    AV.nil))).tup ∧
    True) ∧
    True) ∧
    Sub
    (AV.cons (1 : Nat)
    (AV.sc
    (Value.int IntKind.u8
    (↑(byteAt s
    (IntKind.i64.wrap
    (at_ +
    (1 :
    Int))).toNat).toNat :
    Int)))
    (AV.cons (1 : Nat)
    (AV.sc
    (Value.int IntKind.i64
    (IntKind.i64.wrap
    (at_ + (2 : Int)))))
    (AV.cons (1 : Nat)
    (AV.sc (Value.bool true))
    AV.nil))).tup
    res ∧
    SubOut [] []) ∧
    (r = false →
    True ∧
    True ∧
    True ∧
    True ∧
    True ∧
    (True ∧ True ∧ True ∧ True) ∧
    (((True ∧ True ∧ True ∧ True) ∧
    Sub
    (AV.cons (1 : Nat)
    (AV.sc (Value.int IntKind.u8 (0 : Int)))
    (AV.cons (1 : Nat)
    (AV.sc
    (Value.int IntKind.i64
    (IntKind.i64.wrap
    (at_ + (1 : Int)))))
    (AV.cons (1 : Nat)
    (AV.sc (Value.bool false))
    AV.nil))).tup
    (AV.cons (1 : Nat)
    (AV.sc (Value.int IntKind.u8 (0 : Int)))
    (AV.cons (1 : Nat)
    (AV.sc
    (Value.int IntKind.i64
    (IntKind.i64.wrap
    (at_ + (1 : Int)))))
    (AV.cons (1 : Nat)
    (AV.sc (Value.bool false))
    AV.nil))).tup ∧
    True) ∧
    True) ∧
    Sub
    (AV.cons (1 : Nat)
    (AV.sc (Value.int IntKind.u8 (0 : Int)))
    (AV.cons (1 : Nat)
    (AV.sc
    (Value.int IntKind.i64
    (IntKind.i64.wrap (at_ + (1 : Int)))))
    (AV.cons (1 : Nat)
    (AV.sc (Value.bool false)) AV.nil))).tup
    res ∧
    SubOut [] []))))) from
    ⟨trivial, ⟨trivial, ⟨trivial, ⟨trivial, ⟨trivial, ⟨trivial, ⟨trivial, ⟨trivial, (And.elim (fun h8 k8 => ⟨(fun x9 => (fun h9 => ⟨trivial, ⟨trivial, ⟨trivial, ⟨trivial, ⟨⟨trivial, ⟨trivial, ⟨trivial, trivial⟩⟩⟩, ⟨⟨⟨⟨trivial, ⟨trivial, ⟨trivial, trivial⟩⟩⟩, ⟨Sub.refl _, trivial⟩⟩, trivial⟩, ((fun h16 => ⟨h16, trivial⟩) h9)⟩⟩⟩⟩⟩⟩) (h8 x9)), (fun x9 => (fun h9 => ⟨trivial, ⟨trivial, (And.elim (fun h12 k12 => ⟨(And.elim (fun h13 k13 => ⟨h13, k13⟩) h12), ⟨trivial, ⟨trivial, (And.elim (fun h15 k15 => ⟨(fun x16 => (fun h16 => ⟨trivial, ⟨trivial, ⟨(And.elim (fun h20 k20 => ⟨h20, k20⟩) h12), (Exists.elim h16 fun x20 h20 => ⟨x20, (And.elim (fun h21 k21 => ⟨⟨⟨trivial, trivial⟩, ⟨trivial, h21⟩⟩, (And.elim (fun h22 k22 => ⟨(fun x23 => (fun h23 => ⟨trivial, ⟨trivial, ⟨trivial, ⟨trivial, ⟨⟨trivial, ⟨trivial, ⟨trivial, trivial⟩⟩⟩, ⟨⟨⟨⟨trivial, ⟨trivial, ⟨trivial, trivial⟩⟩⟩, ⟨Sub.refl _, trivial⟩⟩, trivial⟩, ((fun h30 => ⟨h30, trivial⟩) h23)⟩⟩⟩⟩⟩⟩) (h22 x23)), (fun x23 => (fun h23 => ⟨trivial, ⟨trivial, ⟨(And.elim (fun h27 k27 => ⟨h27, k27⟩) h12), ⟨trivial, ⟨trivial, ⟨trivial, ⟨trivial, ⟨trivial, ⟨⟨trivial, ⟨trivial, ⟨trivial, trivial⟩⟩⟩, ⟨⟨⟨⟨trivial, ⟨trivial, ⟨trivial, trivial⟩⟩⟩, ⟨Sub.refl _, trivial⟩⟩, trivial⟩, ((fun h34 => ⟨h34, trivial⟩) h23)⟩⟩⟩⟩⟩⟩⟩⟩⟩⟩) (k22 x23))⟩) k21)⟩) h20)⟩)⟩⟩⟩) (h15 x16)), (fun x16 => (fun h16 => ⟨trivial, ⟨trivial, ⟨trivial, ⟨trivial, ⟨trivial, ⟨trivial, (And.elim (fun h23 k23 => ⟨(fun x24 => (fun h24 => ⟨trivial, ⟨trivial, ⟨trivial, ⟨trivial, ⟨trivial, ⟨⟨trivial, ⟨trivial, ⟨trivial, trivial⟩⟩⟩, ⟨⟨⟨⟨trivial, ⟨trivial, ⟨trivial, trivial⟩⟩⟩, ⟨Sub.refl _, trivial⟩⟩, trivial⟩, ((fun h32 => ⟨h32, trivial⟩) h24)⟩⟩⟩⟩⟩⟩⟩) (h23 x24)), (fun x24 => (fun h24 => ⟨trivial, ⟨trivial, ⟨trivial, (And.elim (fun h28 k28 => ⟨(And.elim (fun h29 k29 => ⟨h29, k29⟩) h28), (Exists.elim k28 fun x29 h29 => ⟨x29, (And.elim (fun h30 k30 => ⟨⟨⟨trivial, trivial⟩, ⟨trivial, h30⟩⟩, ⟨trivial, ⟨trivial, ⟨trivial, ⟨trivial, ⟨trivial, ⟨trivial, (And.elim (fun h37 k37 => ⟨(fun x38 => (fun h38 => ⟨trivial, ⟨trivial, ⟨trivial, ⟨trivial, ⟨trivial, ⟨trivial, ⟨⟨trivial, ⟨trivial, ⟨trivial, trivial⟩⟩⟩, ⟨⟨⟨⟨trivial, ⟨trivial, ⟨trivial, trivial⟩⟩⟩, ⟨Sub.refl _, trivial⟩⟩, trivial⟩, ((fun h47 => ⟨h47, trivial⟩) h38)⟩⟩⟩⟩⟩⟩⟩⟩) (h37 x38)), (fun x38 => (fun h38 => ⟨trivial, ⟨trivial, ⟨trivial, ⟨(And.elim (fun h43 k43 => ⟨h43, k43⟩) h28), (Exists.elim h38 fun x43 h43 => ⟨x43, (And.elim (fun h44 k44 => ⟨⟨⟨trivial, trivial⟩, ⟨trivial, h44⟩⟩, (And.elim (fun h45 k45 => ⟨(fun x46 => (fun h46 => ⟨trivial, ⟨trivial, ⟨trivial, ⟨(And.elim (fun h51 k51 => ⟨h51, k51⟩) h28), ⟨trivial, ⟨trivial, ⟨trivial, ⟨trivial, ⟨trivial, ⟨⟨trivial, ⟨trivial, ⟨trivial, trivial⟩⟩⟩, ⟨⟨⟨⟨trivial, ⟨trivial, ⟨trivial, trivial⟩⟩⟩, ⟨Sub.refl _, trivial⟩⟩, trivial⟩, ((fun h58 => ⟨h58, trivial⟩) h46)⟩⟩⟩⟩⟩⟩⟩⟩⟩⟩⟩) (h45 x46)), (fun x46 => (fun h46 => ⟨trivial, ⟨trivial, ⟨trivial, ⟨trivial, ⟨trivial, ⟨⟨trivial, ⟨trivial, ⟨trivial, trivial⟩⟩⟩, ⟨⟨⟨⟨trivial, ⟨trivial, ⟨trivial, trivial⟩⟩⟩, ⟨Sub.refl _, trivial⟩⟩, trivial⟩, ((fun h54 => ⟨h54, trivial⟩) h46)⟩⟩⟩⟩⟩⟩⟩) (k45 x46))⟩) k44)⟩) h43)⟩)⟩⟩⟩⟩) (k37 x38))⟩) k30)⟩⟩⟩⟩⟩⟩⟩) h29)⟩)⟩) h24)⟩⟩⟩) (k23 x24))⟩) h16)⟩⟩⟩⟩⟩⟩) (k15 x16))⟩) k12)⟩⟩⟩) h9)⟩⟩) (k8 x9))⟩) h)⟩⟩⟩⟩⟩⟩⟩⟩)
theorem hf34 : Go.Proofs.Try.prog.funcs[34]? = some Go.Proofs.Try.f34 := by kernel_rfl
abbrev s34_e (b : Int) : List (Nat × AV) := [(0, (.sc (.int .u8 b)))]
abbrev m34_e (b : Int) : List (Nat × Nat × AV) := []
def L34_e (b : Int) (res : AV) : Prop := Goes ⟨Go.Proofs.Try.prog, 34, [], res, []⟩ (place Go.Proofs.Try.f34 []) (s34_e b) (m34_e b)
theorem a34_e (b : Int) (res : AV) (h : (∀ slot, fact (look .undef (s34_e b) slot)) → L34_e b res) : L34_e b res :=
  assumeRule 34 [] Go.Proofs.Try.f34 hf34 [] (s34_e b) (m34_e b) res [] _ (by kernel_rfl) h
theorem o34 (b : Int) (res : AV) (hnew : newOnly res) (h : L34_e b res) : Ok Go.Proofs.Try.prog 34 [(.sc (.int .u8 b))] [] res [] :=
  okRule2 34 Go.Proofs.Try.f34 hf34 [(.sc (.int .u8 b))] [] res [] [] rfl (by kernel_rfl) (by kernel_rfl) (by kernel_rfl) ⟨hnew, by simp⟩ (L34_e b res) (by kernel_rfl) h
theorem r34_e (b : Int) (res : AV)
    (h : ((b == (10 : Int)) = true → Sub (AV.cons (1 : Nat) (AV.sc (Value.int IntKind.u8 (110 : Int))) (AV.cons (1 : Nat) (AV.sc (Value.bool true)) AV.nil)).tup res) ∧
  ((b == (10 : Int)) = false →
    ((b == (9 : Int)) = true →
    Sub (AV.cons (1 : Nat) (AV.sc (Value.int IntKind.u8 (116 : Int))) (AV.cons (1 : Nat) (AV.sc (Value.bool true)) AV.nil)).tup res) ∧
    ((b == (9 : Int)) = false →
    ((b == (13 : Int)) = true →
    Sub (AV.cons (1 : Nat) (AV.sc (Value.int IntKind.u8 (114 : Int))) (AV.cons (1 : Nat) (AV.sc (Value.bool true)) AV.nil)).tup res) ∧
    ((b == (13 : Int)) = false →
    Sub (AV.cons (1 : Nat) (AV.sc (Value.int IntKind.u8 (0 : Int))) (AV.cons (1 : Nat) (AV.sc (Value.bool false)) AV.nil)).tup res)))) :
    L34_e b res :=
  rule Go.Am.Seat.tabOk 34 [] Go.Proofs.Try.f34 hf34 [] (s34_e b) (m34_e b) res [] 400
    ((Orc.fin (AV.cons (1 : Nat) (AV.sc (Value.int IntKind.u8 (110 : Int))) (AV.cons (1 : Nat) (AV.sc (Value.bool true)) AV.nil)).tup [] []).br
  ((Orc.fin (AV.cons (1 : Nat) (AV.sc (Value.int IntKind.u8 (116 : Int))) (AV.cons (1 : Nat) (AV.sc (Value.bool true)) AV.nil)).tup [] []).br
    ((Orc.fin (AV.cons (1 : Nat) (AV.sc (Value.int IntKind.u8 (114 : Int))) (AV.cons (1 : Nat) (AV.sc (Value.bool true)) AV.nil)).tup [] []).br
    (Orc.fin (AV.cons (1 : Nat) (AV.sc (Value.int IntKind.u8 (0 : Int))) (AV.cons (1 : Nat) (AV.sc (Value.bool false)) AV.nil)).tup [] [])))) _ _ (by kernel_rfl) (by kernel_rfl) (show True ∧
  True ∧
    True ∧
    True ∧
    True ∧
    ((b == (10 : Int)) = true →
    True ∧
    True ∧
    (True ∧ True ∧ True) ∧
    (((True ∧ True ∧ True) ∧
    Sub (AV.cons (1 : Nat) (AV.sc (Value.int IntKind.u8 (110 : Int))) (AV.cons (1 : Nat) (AV.sc (Value.bool true)) AV.nil)).tup
    (AV.cons (1 : Nat) (AV.sc (Value.int IntKind.u8 (110 : Int))) (AV.cons (1 : Nat) (AV.sc (Value.bool true)) AV.nil)).tup ∧
    True) ∧
    True) ∧
    Sub (AV.cons (1 : Nat) (AV.sc (Value.int IntKind.u8 (110 : Int))) (AV.cons (1 : Nat) (AV.sc (Value.bool true)) AV.nil)).tup res ∧
    SubOut [] []) ∧
    ((b == (10 : Int)) = false →
    True ∧
    True ∧
    ((b == (9 : Int)) = true →
    True ∧
    True ∧
    (True ∧ True ∧ True) ∧
    (((True ∧ True ∧ True) ∧
    Sub (AV.cons (1 : Nat) (AV.sc (Value.int IntKind.u8 (116 : Int))) (AV.cons (1 : Nat) (AV.sc (Value.bool true)) AV.nil)).tup
    (AV.cons (1 : Nat) (AV.sc (Value.int IntKind.u8 (116 : Int))) (AV.cons (1 : Nat) (AV.sc (Value.bool true)) AV.nil)).tup ∧
    True) ∧
    True) ∧
    Sub (AV.cons (1 : Nat) (AV.sc (Value.int IntKind.u8 (116 : Int))) (AV.cons (1 : Nat) (AV.sc (Value.bool true)) AV.nil)).tup res ∧
    SubOut [] []) ∧
    ((b == (9 : Int)) = false →
    True ∧
    True ∧
    ((b == (13 : Int)) = true →
    True ∧
    True ∧
    (True ∧ True ∧ True) ∧
    (((True ∧ True ∧ True) ∧
    Sub
    (AV.cons (1 : Nat) (AV.sc (Value.int IntKind.u8 (114 : Int)))
    (AV.cons (1 : Nat) (AV.sc (Value.bool true)) AV.nil)).tup
    (AV.cons (1 : Nat) (AV.sc (Value.int IntKind.u8 (114 : Int)))
    (AV.cons (1 : Nat) (AV.sc (Value.bool true)) AV.nil)).tup ∧
    True) ∧
    True) ∧
    Sub
    (AV.cons (1 : Nat) (AV.sc (Value.int IntKind.u8 (114 : Int)))
    (AV.cons (1 : Nat) (AV.sc (Value.bool true)) AV.nil)).tup
    res ∧
    SubOut [] []) ∧
    ((b == (13 : Int)) = false →
    True ∧
    True ∧
    (True ∧ True ∧ True) ∧
    (((True ∧ True ∧ True) ∧
    Sub
    (AV.cons (1 : Nat) (AV.sc (Value.int IntKind.u8 (0 : Int)))
    (AV.cons (1 : Nat) (AV.sc (Value.bool false)) AV.nil)).tup
    (AV.cons (1 : Nat) (AV.sc (Value.int IntKind.u8 (0 : Int)))
    (AV.cons (1 : Nat) (AV.sc (Value.bool false)) AV.nil)).tup ∧
    True) ∧
    True) ∧
    Sub (AV.cons (1 : Nat) (AV.sc (Value.int IntKind.u8 (0 : Int))) (AV.cons (1 : Nat) (AV.sc (Value.bool false)) AV.nil)).tup
    res ∧
    SubOut [] []))) from
    ⟨trivial, ⟨trivial, ⟨trivial, ⟨trivial, ⟨trivial, (And.elim (fun h5 k5 => ⟨(fun x6 => (fun h6 => ⟨trivial, ⟨trivial, ⟨⟨trivial, ⟨trivial, trivial⟩⟩, ⟨⟨⟨⟨trivial, ⟨trivial, trivial⟩⟩, ⟨Sub.refl _, trivial⟩⟩, trivial⟩, ((fun h11 => ⟨h11, trivial⟩) h6)⟩⟩⟩⟩) (h5 x6)), (fun x6 => (fun h6 => ⟨trivial, ⟨trivial, (And.elim (fun h9 k9 => ⟨(fun x10 => (fun h10 => ⟨trivial, ⟨trivial, ⟨⟨trivial, ⟨trivial, trivial⟩⟩, ⟨⟨⟨⟨trivial, ⟨trivial, trivial⟩⟩, ⟨Sub.refl _, trivial⟩⟩, trivial⟩, ((fun h15 => ⟨h15, trivial⟩) h10)⟩⟩⟩⟩) (h9 x10)), (fun x10 => (fun h10 => ⟨trivial, ⟨trivial, (And.elim (fun h13 k13 => ⟨(fun x14 => (fun h14 => ⟨trivial, ⟨trivial, ⟨⟨trivial, ⟨trivial, trivial⟩⟩, ⟨⟨⟨⟨trivial, ⟨trivial, trivial⟩⟩, ⟨Sub.refl _, trivial⟩⟩, trivial⟩, ((fun h19 => ⟨h19, trivial⟩) h14)⟩⟩⟩⟩) (h13 x14)), (fun x14 => (fun h14 => ⟨trivial, ⟨trivial, ⟨⟨trivial, ⟨trivial, trivial⟩⟩, ⟨⟨⟨⟨trivial, ⟨trivial, trivial⟩⟩, ⟨Sub.refl _, trivial⟩⟩, trivial⟩, ((fun h19 => ⟨h19, trivial⟩) h14)⟩⟩⟩⟩) (k13 x14))⟩) h10)⟩⟩) (k9 x10))⟩) h6)⟩⟩) (k5 x6))⟩) h)⟩⟩⟩⟩⟩)
theorem hf35 : Go.Proofs.Try.prog.funcs[35]? = some Go.Proofs.Try.f35 := by kernel_rfl
abbrev s35_e (b : Int) : List (Nat × AV) := [(0, (.sc (.int .u8 b)))]
abbrev m35_e (b : Int) : List (Nat × Nat × AV) := []
def L35_e (b : Int) (res : AV) : Prop := Goes ⟨Go.Proofs.Try.prog, 35, [], res, []⟩ (place Go.Proofs.Try.f35 []) (s35_e b) (m35_e b)
theorem a35_e (b : Int) (res : AV) (h : (∀ slot, fact (look .undef (s35_e b) slot)) → L35_e b res) : L35_e b res :=
  assumeRule 35 [] Go.Proofs.Try.f35 hf35 [] (s35_e b) (m35_e b) res [] _ (by kernel_rfl) h
abbrev s35_0 (t4 : Bool) : List (Nat × AV) := [(4, (.sc (.bool t4)))]
abbrev m35_0 (t4 : Bool) : List (Nat × Nat × AV) := []
def L35_0 (t4 : Bool) (res : AV) : Prop := Goes ⟨Go.Proofs.Try.prog, 35, [], res, []⟩ (place Go.Proofs.Try.f35 [1, 0, 1, 0, 1]) (s35_0 t4) (m35_0 t4)
theorem a35_0 (t4 : Bool) (res : AV) (h : (∀ slot, fact (look .undef (s35_0 t4) slot)) → L35_0 t4 res) : L35_0 t4 res :=
  assumeRule 35 [] Go.Proofs.Try.f35 hf35 [1, 0, 1, 0, 1] (s35_0 t4) (m35_0 t4) res [] _ (by kernel_rfl) h
abbrev s35_1 : List (Nat × AV) := []
abbrev m35_1 : List (Nat × Nat × AV) := []
def L35_1 (res : AV) : Prop := Goes ⟨Go.Proofs.Try.prog, 35, [], res, []⟩ (place Go.Proofs.Try.f35 [1, 1]) (s35_1 ) (m35_1 )
theorem a35_1 (res : AV) (h : (∀ slot, fact (look .undef (s35_1 ) slot)) → L35_1  res) : L35_1  res :=
  assumeRule 35 [] Go.Proofs.Try.f35 hf35 [1, 1] (s35_1 ) (m35_1 ) res [] _ (by kernel_rfl) h
theorem o35 (b : Int) (res : AV) (hnew : newOnly res) (h : L35_e b res) : Ok Go.Proofs.Try.prog 35 [(.sc (.int .u8 b))] [] res [] :=
  okRule2 35 Go.Proofs.Try.f35 hf35 [(.sc (.int .u8 b))] [] res [] [] rfl (by kernel_rfl) (by kernel_rfl) (by kernel_rfl) ⟨hnew, by simp⟩ (L35_e b res) (by kernel_rfl) h
theorem r35_e (b : Int) (res : AV)
    (h : ((b == (92 : Int)) = true → L35_0 true res) ∧
  ((b == (92 : Int)) = false →
    ((b == (91 : Int)) = true → L35_0 true res) ∧
    ((b == (91 : Int)) = false →
    ((b == (93 : Int)) = true → L35_0 true res) ∧
    ((b == (93 : Int)) = false → ((b == (94 : Int)) = true → L35_0 true res) ∧ ((b == (94 : Int)) = false → L35_0 (b == (45 : Int)) res))))) :
    L35_e b res :=
  rule Go.Am.Seat.tabOk 35 [] Go.Proofs.Try.f35 hf35 [] (s35_e b) (m35_e b) res [] 400
    ((Orc.cut (nat_lit 1) (s35_0 true) (m35_0 true) []).br
  ((Orc.cut (nat_lit 1) (s35_0 true) (m35_0 true) []).br
    ((Orc.cut (nat_lit 1) (s35_0 true) (m35_0 true) []).br
    ((Orc.cut (nat_lit 1) (s35_0 true) (m35_0 true) []).br (Orc.cut (nat_lit 1) (s35_0 (b == (45 : Int))) (m35_0 (b == (45 : Int))) []))))) _ _ (by kernel_rfl) (by kernel_rfl) (show True ∧
  True ∧
    True ∧
    True ∧
    ((b == (92 : Int)) = true → ((True ∧ Sub (AV.sc (Value.bool true)) (AV.sc (Value.bool true)) ∧ True) ∧ True) ∧ L35_0 true res) ∧
    ((b == (92 : Int)) = false →
    True ∧
    True ∧
    ((b == (91 : Int)) = true → ((True ∧ Sub (AV.sc (Value.bool true)) (AV.sc (Value.bool true)) ∧ True) ∧ True) ∧ L35_0 true res) ∧
    ((b == (91 : Int)) = false →
    True ∧
    True ∧
    ((b == (93 : Int)) = true → ((True ∧ Sub (AV.sc (Value.bool true)) (AV.sc (Value.bool true)) ∧ True) ∧ True) ∧ L35_0 true res) ∧
    ((b == (93 : Int)) = false →
    True ∧
    True ∧
    ((b == (94 : Int)) = true → ((True ∧ Sub (AV.sc (Value.bool true)) (AV.sc (Value.bool true)) ∧ True) ∧ True) ∧ L35_0 true res) ∧
    ((b == (94 : Int)) = false →
    True ∧
    True ∧
    ((True ∧ Sub (AV.sc (Value.bool (b == (45 : Int)))) (AV.sc (Value.bool (b == (45 : Int)))) ∧ True) ∧ True) ∧
    L35_0 (b == (45 : Int)) res)))) from
    ⟨trivial, ⟨trivial, ⟨trivial, ⟨trivial, (And.elim (fun h4 k4 => ⟨(fun x5 => (fun h5 => ⟨⟨⟨trivial, ⟨Sub.refl _, trivial⟩⟩, trivial⟩, h5⟩) (h4 x5)), (fun x5 => (fun h5 => ⟨trivial, ⟨trivial, (And.elim (fun h8 k8 => ⟨(fun x9 => (fun h9 => ⟨⟨⟨trivial, ⟨Sub.refl _, trivial⟩⟩, trivial⟩, h9⟩) (h8 x9)), (fun x9 => (fun h9 => ⟨trivial, ⟨trivial, (And.elim (fun h12 k12 => ⟨(fun x13 => (fun h13 => ⟨⟨⟨trivial, ⟨Sub.refl _, trivial⟩⟩, trivial⟩, h13⟩) (h12 x13)), (fun x13 => (fun h13 => ⟨trivial, ⟨trivial, (And.elim (fun h16 k16 => ⟨(fun x17 => (fun h17 => ⟨⟨⟨trivial, ⟨Sub.refl _, trivial⟩⟩, trivial⟩, h17⟩) (h16 x17)), (fun x17 => (fun h17 => ⟨trivial, ⟨trivial, ⟨⟨⟨trivial, ⟨Sub.refl _, trivial⟩⟩, trivial⟩, h17⟩⟩⟩) (k16 x17))⟩) h13)⟩⟩) (k12 x13))⟩) h9)⟩⟩) (k8 x9))⟩) h5)⟩⟩) (k4 x5))⟩) h)⟩⟩⟩⟩)
theorem r35_0 (t4 : Bool) (res : AV)
    (h : (t4 = true → Sub (AV.sc (Value.bool true)) res) ∧ (t4 = false → L35_1 res)) :
    L35_0 t4 res :=
  rule Go.Am.Seat.tabOk 35 [] Go.Proofs.Try.f35 hf35 [1, 0, 1, 0, 1] (s35_0 t4) (m35_0 t4) res [] 400
    ((Orc.fin (AV.sc (Value.bool true)) [] []).br (Orc.cut (nat_lit 2) s35_1 m35_1 [])) _ _ (by kernel_rfl) (by kernel_rfl) (show (t4 = true →
    True ∧ True ∧ ((True ∧ Sub (AV.sc (Value.bool true)) (AV.sc (Value.bool true)) ∧ True) ∧ True) ∧ Sub (AV.sc (Value.bool true)) res ∧ SubOut [] []) ∧
  (t4 = false → (True ∧ True) ∧ L35_1 res) from
    (And.elim (fun h0 k0 => ⟨(fun x1 => (fun h1 => ⟨trivial, ⟨trivial, ⟨⟨⟨trivial, ⟨Sub.refl _, trivial⟩⟩, trivial⟩, ((fun h5 => ⟨h5, trivial⟩) h1)⟩⟩⟩) (h0 x1)), (fun x1 => (fun h1 => ⟨⟨trivial, trivial⟩, h1⟩) (k0 x1))⟩) h))
theorem r35_1 (res : AV)
    (h : Sub (AV.sc (Value.bool false)) res) :
    L35_1  res :=
  rule Go.Am.Seat.tabOk 35 [] Go.Proofs.Try.f35 hf35 [1, 1] (s35_1 ) (m35_1 ) res [] 400
    (Orc.fin (AV.sc (Value.bool false)) [] []) _ _ (by kernel_rfl) (by kernel_rfl) (show True ∧ True ∧ ((True ∧ Sub (AV.sc (Value.bool false)) (AV.sc (Value.bool false)) ∧ True) ∧ True) ∧ Sub (AV.sc (Value.bool false)) res ∧ SubOut [] [] from
    ⟨trivial, ⟨trivial, ⟨⟨⟨trivial, ⟨Sub.refl _, trivial⟩⟩, trivial⟩, ((fun h3 => ⟨h3, trivial⟩) h)⟩⟩⟩)
theorem hf36 : Go.Proofs.Try.prog.funcs[36]? = some Go.Proofs.Try.f36 := by kernel_rfl
abbrev s36_e (c : Int) : List (Nat × AV) := [(0, (.sc (.int .u8 c)))]
abbrev m36_e (c : Int) : List (Nat × Nat × AV) := []
def L36_e (c : Int) (res : AV) : Prop := Goes ⟨Go.Proofs.Try.prog, 36, [], res, []⟩ (place Go.Proofs.Try.f36 []) (s36_e c) (m36_e c)
theorem a36_e (c : Int) (res : AV) (h : (∀ slot, fact (look .undef (s36_e c) slot)) → L36_e c res) : L36_e c res :=
  assumeRule 36 [] Go.Proofs.Try.f36 hf36 [] (s36_e c) (m36_e c) res [] _ (by kernel_rfl) h
theorem o36 (c : Int) (res : AV) (hnew : newOnly res) (h : L36_e c res) : Ok Go.Proofs.Try.prog 36 [(.sc (.int .u8 c))] [] res [] :=
  okRule2 36 Go.Proofs.Try.f36 hf36 [(.sc (.int .u8 c))] [] res [] [] rfl (by kernel_rfl) (by kernel_rfl) (by kernel_rfl) ⟨hnew, by simp⟩ (L36_e c res) (by kernel_rfl) h
theorem r36_e (c : Int) (res : AV)
    (h : ((c == (110 : Int)) = true → Sub (AV.cons (1 : Nat) (AV.sc (Value.int IntKind.u8 (10 : Int))) (AV.cons (1 : Nat) (AV.sc (Value.bool true)) AV.nil)).tup res) ∧
  ((c == (110 : Int)) = false →
    ((c == (116 : Int)) = true →
    Sub (AV.cons (1 : Nat) (AV.sc (Value.int IntKind.u8 (9 : Int))) (AV.cons (1 : Nat) (AV.sc (Value.bool true)) AV.nil)).tup res) ∧
    ((c == (116 : Int)) = false →
    ((c == (114 : Int)) = true →
    Sub (AV.cons (1 : Nat) (AV.sc (Value.int IntKind.u8 (13 : Int))) (AV.cons (1 : Nat) (AV.sc (Value.bool true)) AV.nil)).tup res) ∧
    ((c == (114 : Int)) = false →
    Sub (AV.cons (1 : Nat) (AV.sc (Value.int IntKind.u8 (0 : Int))) (AV.cons (1 : Nat) (AV.sc (Value.bool false)) AV.nil)).tup res)))) :
    L36_e c res :=
  rule Go.Am.Seat.tabOk 36 [] Go.Proofs.Try.f36 hf36 [] (s36_e c) (m36_e c) res [] 400
    ((Orc.fin (AV.cons (1 : Nat) (AV.sc (Value.int IntKind.u8 (10 : Int))) (AV.cons (1 : Nat) (AV.sc (Value.bool true)) AV.nil)).tup [] []).br
  ((Orc.fin (AV.cons (1 : Nat) (AV.sc (Value.int IntKind.u8 (9 : Int))) (AV.cons (1 : Nat) (AV.sc (Value.bool true)) AV.nil)).tup [] []).br
    ((Orc.fin (AV.cons (1 : Nat) (AV.sc (Value.int IntKind.u8 (13 : Int))) (AV.cons (1 : Nat) (AV.sc (Value.bool true)) AV.nil)).tup [] []).br
    (Orc.fin (AV.cons (1 : Nat) (AV.sc (Value.int IntKind.u8 (0 : Int))) (AV.cons (1 : Nat) (AV.sc (Value.bool false)) AV.nil)).tup [] [])))) _ _ (by kernel_rfl) (by kernel_rfl) (show True ∧
  True ∧
    True ∧
    True ∧
    True ∧
    ((c == (110 : Int)) = true →
    True ∧
    True ∧
    (True ∧ True ∧ True) ∧
    (((True ∧ True ∧ True) ∧
    Sub (AV.cons (1 : Nat) (AV.sc (Value.int IntKind.u8 (10 : Int))) (AV.cons (1 : Nat) (AV.sc (Value.bool true)) AV.nil)).tup
    (AV.cons (1 : Nat) (AV.sc (Value.int IntKind.u8 (10 : Int))) (AV.cons (1 : Nat) (AV.sc (Value.bool true)) AV.nil)).tup ∧
    True) ∧
    True) ∧
    Sub (AV.cons (1 : Nat) (AV.sc (Value.int IntKind.u8 (10 : Int))) (AV.cons (1 : Nat) (AV.sc (Value.bool true)) AV.nil)).tup res ∧
    SubOut [] []) ∧
    ((c == (110 : Int)) = false →
    True ∧
    True ∧
    ((c == (116 : Int)) = true →
    True ∧
    True ∧
    (True ∧ True ∧ True) ∧
    (((True ∧ True ∧ True) ∧
    Sub (AV.cons (1 : Nat) (AV.sc (Value.int IntKind.u8 (9 : Int))) (AV.cons (1 : Nat) (AV.sc (Value.bool true)) AV.nil)).tup
    (AV.cons (1 : Nat) (AV.sc (Value.int IntKind.u8 (9 : Int))) (AV.cons (1 : Nat) (AV.sc (Value.bool true)) AV.nil)).tup ∧
    True) ∧
    True) ∧
    Sub (AV.cons (1 : Nat) (AV.sc (Value.int IntKind.u8 (9 : Int))) (AV.cons (1 : Nat) (AV.sc (Value.bool true)) AV.nil)).tup res ∧
    SubOut [] []) ∧
    ((c == (116 : Int)) = false →
    True ∧
    True ∧
    ((c == (114 : Int)) = true →
    True ∧
    True ∧
    (True ∧ True ∧ True) ∧
    (((True ∧ True ∧ True) ∧
    Sub
    (AV.cons (1 : Nat) (AV.sc (Value.int IntKind.u8 (13 : Int)))
    (AV.cons (1 : Nat) (AV.sc (Value.bool true)) AV.nil)).tup
    (AV.cons (1 : Nat) (AV.sc (Value.int IntKind.u8 (13 : Int)))
    (AV.cons (1 : Nat) (AV.sc (Value.bool true)) AV.nil)).tup ∧
    True) ∧
    True) ∧
    Sub (AV.cons (1 : Nat) (AV.sc (Value.int IntKind.u8 (13 : Int))) (AV.cons (1 : Nat) (AV.sc (Value.bool true)) AV.nil)).tup
    res ∧
    SubOut [] []) ∧
    ((c == (114 : Int)) = false →
    True ∧
    True ∧
    (True ∧ True ∧ True) ∧
    (((True ∧ True ∧ True) ∧
    Sub
    (AV.cons (1 : Nat) (AV.sc (Value.int IntKind.u8 (0 : Int)))
    (AV.cons (1 : Nat) (AV.sc (Value.bool false)) AV.nil)).tup
    (AV.cons (1 : Nat) (AV.sc (Value.int IntKind.u8 (0 : Int)))
    (AV.cons (1 : Nat) (AV.sc (Value.bool false)) AV.nil)).tup ∧
    True) ∧
    True) ∧
    Sub (AV.cons (1 : Nat) (AV.sc (Value.int IntKind.u8 (0 : Int))) (AV.cons (1 : Nat) (AV.sc (Value.bool false)) AV.nil)).tup
    res ∧
    SubOut [] []))) from
    ⟨trivial, ⟨trivial, ⟨trivial, ⟨trivial, ⟨trivial, (And.elim (fun h5 k5 => ⟨(fun x6 => (fun h6 => ⟨trivial, ⟨trivial, ⟨⟨trivial, ⟨trivial, trivial⟩⟩, ⟨⟨⟨⟨trivial, ⟨trivial, trivial⟩⟩, ⟨Sub.refl _, trivial⟩⟩, trivial⟩, ((fun h11 => ⟨h11, trivial⟩) h6)⟩⟩⟩⟩) (h5 x6)), (fun x6 => (fun h6 => ⟨trivial, ⟨trivial, (And.elim (fun h9 k9 => ⟨(fun x10 => (fun h10 => ⟨trivial, ⟨trivial, ⟨⟨trivial, ⟨trivial, trivial⟩⟩, ⟨⟨⟨⟨trivial, ⟨trivial, trivial⟩⟩, ⟨Sub.refl _, trivial⟩⟩, trivial⟩, ((fun h15 => ⟨h15, trivial⟩) h10)⟩⟩⟩⟩) (h9 x10)), (fun x10 => (fun h10 => ⟨trivial, ⟨trivial, (And.elim (fun h13 k13 => ⟨(fun x14 => (fun h14 => ⟨trivial, ⟨trivial, ⟨⟨trivial, ⟨trivial, trivial⟩⟩, ⟨⟨⟨⟨trivial, ⟨trivial, trivial⟩⟩, ⟨Sub.refl _, trivial⟩⟩, trivial⟩, ((fun h19 => ⟨h19, trivial⟩) h14)⟩⟩⟩⟩) (h13 x14)), (fun x14 => (fun h14 => ⟨trivial, ⟨trivial, ⟨⟨trivial, ⟨trivial, trivial⟩⟩, ⟨⟨⟨⟨trivial, ⟨trivial, trivial⟩⟩, ⟨Sub.refl _, trivial⟩⟩, trivial⟩, ((fun h19 => ⟨h19, trivial⟩) h14)⟩⟩⟩⟩) (k13 x14))⟩) h10)⟩⟩) (k9 x10))⟩) h6)⟩⟩) (k5 x6))⟩) h)⟩⟩⟩⟩⟩)
theorem hf37 : Go.Proofs.Try.prog.funcs[37]? = some Go.Proofs.Try.f37 := by kernel_rfl
abbrev s37_e (b : Int) : List (Nat × AV) := [(0, (.sc (.int .u8 b)))]
abbrev m37_e (b : Int) : List (Nat × Nat × AV) := []
def L37_e (b : Int) (res : AV) : Prop := Goes ⟨Go.Proofs.Try.prog, 37, [], res, []⟩ (place Go.Proofs.Try.f37 []) (s37_e b) (m37_e b)
theorem a37_e (b : Int) (res : AV) (h : (∀ slot, fact (look .undef (s37_e b) slot)) → L37_e b res) : L37_e b res :=
  assumeRule 37 [] Go.Proofs.Try.f37 hf37 [] (s37_e b) (m37_e b) res [] _ (by kernel_rfl) h
theorem o37 (b : Int) (res : AV) (hnew : newOnly res) (h : L37_e b res) : Ok Go.Proofs.Try.prog 37 [(.sc (.int .u8 b))] [] res [] :=
  okRule2 37 Go.Proofs.Try.f37 hf37 [(.sc (.int .u8 b))] [] res [] [] rfl (by kernel_rfl) (by kernel_rfl) (by kernel_rfl) ⟨hnew, by simp⟩ (L37_e b res) (by kernel_rfl) h
theorem r37_e (b : Int) (res : AV)
    (h : ((b == (92 : Int)) = false →
    ((b == (91 : Int)) = false →
    ((b == (93 : Int)) = false →
    ((b == (94 : Int)) = false → Sub (AV.sc (Value.bool (b == (45 : Int)))) res) ∧ ((b == (94 : Int)) = !false → Sub (AV.sc (Value.bool true)) res)) ∧
    ((b == (93 : Int)) = !false → Sub (AV.sc (Value.bool true)) res)) ∧
    ((b == (91 : Int)) = !false → Sub (AV.sc (Value.bool true)) res)) ∧
  ((b == (92 : Int)) = !false → Sub (AV.sc (Value.bool true)) res)) :
    L37_e b res :=
  rule Go.Am.Seat.tabOk 37 [] Go.Proofs.Try.f37 hf37 [] (s37_e b) (m37_e b) res [] 400
    (((((Orc.fin (AV.sc (Value.bool (bif false then true else b == (45 : Int)))) [] []).yes.br (Orc.fin (AV.sc (Value.bool true)) [] []).no).yes.br
    (Orc.fin (AV.sc (Value.bool true)) [] []).no.no.no).yes.br
    (Orc.fin (AV.sc (Value.bool true)) [] []).no.no.no.no.no).yes.br
  (Orc.fin (AV.sc (Value.bool true)) [] []).no.no.no.no.no.no.no) _ _ (by kernel_rfl) (by kernel_rfl) (show True ∧
  True ∧
    True ∧
    True ∧
    ((b == (92 : Int)) = false →
    True ∧
    false = false ∧
    True ∧
    True ∧
    True ∧
    ((b == (91 : Int)) = false →
    True ∧
    false = false ∧
    True ∧
    True ∧
    True ∧
    ((b == (93 : Int)) = false →
    True ∧
    false = false ∧
    True ∧
    True ∧
    True ∧
    ((b == (94 : Int)) = false →
    True ∧
    false = false ∧
    True ∧
    True ∧
    True ∧
    True ∧
    ((True ∧
    Sub (AV.sc (Value.bool (b == (45 : Int)))) (AV.sc (Value.bool (b == (45 : Int)))) ∧
    True) ∧
    True) ∧
    Sub (AV.sc (Value.bool (b == (45 : Int)))) res ∧ SubOut [] []) ∧
    ((b == (94 : Int)) = !false →
    true = true ∧
    (!false) = !false ∧
    true = true ∧
    True ∧
    True ∧
    True ∧
    ((True ∧ Sub (AV.sc (Value.bool true)) (AV.sc (Value.bool true)) ∧ True) ∧ True) ∧
    Sub (AV.sc (Value.bool true)) res ∧ SubOut [] [])) ∧
    ((b == (93 : Int)) = !false →
    true = true ∧
    (!false) = !false ∧
    true = true ∧
    True ∧
    True ∧
    true = !false ∧
    true = true ∧
    (!false) = !false ∧
    true = true ∧
    True ∧
    True ∧
    True ∧
    ((True ∧ Sub (AV.sc (Value.bool true)) (AV.sc (Value.bool true)) ∧ True) ∧ True) ∧
    Sub (AV.sc (Value.bool true)) res ∧ SubOut [] [])) ∧
    ((b == (91 : Int)) = !false →
    true = true ∧
    (!false) = !false ∧
    true = true ∧
    True ∧
    True ∧
    true = !false ∧
    true = true ∧
    (!false) = !false ∧
    true = true ∧
    True ∧
    True ∧
    true = !false ∧
    true = true ∧
    (!false) = !false ∧
    true = true ∧
    True ∧
    True ∧
    True ∧
    ((True ∧ Sub (AV.sc (Value.bool true)) (AV.sc (Value.bool true)) ∧ True) ∧ True) ∧
    Sub (AV.sc (Value.bool true)) res ∧ SubOut [] [])) ∧
    ((b == (92 : Int)) = !false →
    true = true ∧
    (!false) = !false ∧
    true = true ∧
    True ∧
    True ∧
    true = !false ∧
    true = true ∧
    (!false) = !false ∧
    true = true ∧
    True ∧
    True ∧
    true = !false ∧
    true = true ∧
    (!false) = !false ∧
    true = true ∧
    True ∧
    True ∧
    true = !false ∧
    true = true ∧
    (!false) = !false ∧
    true = true ∧
    True ∧
    True ∧
    True ∧
    ((True ∧ Sub (AV.sc (Value.bool true)) (AV.sc (Value.bool true)) ∧ True) ∧ True) ∧
    Sub (AV.sc (Value.bool true)) res ∧ SubOut [] []) from
    ⟨trivial, ⟨trivial, ⟨trivial, ⟨trivial, (And.elim (fun h4 k4 => ⟨(fun x5 => (fun h5 => ⟨trivial, ⟨rfl, ⟨trivial, ⟨trivial, ⟨trivial, (And.elim (fun h11 k11 => ⟨(fun x12 => (fun h12 => ⟨trivial, ⟨rfl, ⟨trivial, ⟨trivial, ⟨trivial, (And.elim (fun h18 k18 => ⟨(fun x19 => (fun h19 => ⟨trivial, ⟨rfl, ⟨trivial, ⟨trivial, ⟨trivial, (And.elim (fun h25 k25 => ⟨(fun x26 => (fun h26 => ⟨trivial, ⟨rfl, ⟨trivial, ⟨trivial, ⟨trivial, ⟨trivial, ⟨⟨⟨trivial, ⟨Sub.refl _, trivial⟩⟩, trivial⟩, ((fun h34 => ⟨h34, trivial⟩) h26)⟩⟩⟩⟩⟩⟩⟩) (h25 x26)), (fun x26 => (fun h26 => ⟨rfl, ⟨rfl, ⟨rfl, ⟨trivial, ⟨trivial, ⟨trivial, ⟨⟨⟨trivial, ⟨Sub.refl _, trivial⟩⟩, trivial⟩, ((fun h34 => ⟨h34, trivial⟩) h26)⟩⟩⟩⟩⟩⟩⟩) (k25 x26))⟩) h19)⟩⟩⟩⟩⟩) (h18 x19)), (fun x19 => (fun h19 => ⟨rfl, ⟨rfl, ⟨rfl, ⟨trivial, ⟨trivial, ⟨rfl, ⟨rfl, ⟨rfl, ⟨rfl, ⟨trivial, ⟨trivial, ⟨trivial, ⟨⟨⟨trivial, ⟨Sub.refl _, trivial⟩⟩, trivial⟩, ((fun h33 => ⟨h33, trivial⟩) h19)⟩⟩⟩⟩⟩⟩⟩⟩⟩⟩⟩⟩⟩) (k18 x19))⟩) h12)⟩⟩⟩⟩⟩) (h11 x12)), (fun x12 => (fun h12 => ⟨rfl, ⟨rfl, ⟨rfl, ⟨trivial, ⟨trivial, ⟨rfl, ⟨rfl, ⟨rfl, ⟨rfl, ⟨trivial, ⟨trivial, ⟨rfl, ⟨rfl, ⟨rfl, ⟨rfl, ⟨trivial, ⟨trivial, ⟨trivial, ⟨⟨⟨trivial, ⟨Sub.refl _, trivial⟩⟩, trivial⟩, ((fun h32 => ⟨h32, trivial⟩) h12)⟩⟩⟩⟩⟩⟩⟩⟩⟩⟩⟩⟩⟩⟩⟩⟩⟩⟩⟩) (k11 x12))⟩) h5)⟩⟩⟩⟩⟩) (h4 x5)), (fun x5 => (fun h5 => ⟨rfl, ⟨rfl, ⟨rfl, ⟨trivial, ⟨trivial, ⟨rfl, ⟨rfl, ⟨rfl, ⟨rfl, ⟨trivial, ⟨trivial, ⟨rfl, ⟨rfl, ⟨rfl, ⟨rfl, ⟨trivial, ⟨trivial, ⟨rfl, ⟨rfl, ⟨rfl, ⟨rfl, ⟨trivial, ⟨trivial, ⟨trivial, ⟨⟨⟨trivial, ⟨Sub.refl _, trivial⟩⟩, trivial⟩, ((fun h31 => ⟨h31, trivial⟩) h5)⟩⟩⟩⟩⟩⟩⟩⟩⟩⟩⟩⟩⟩⟩⟩⟩⟩⟩⟩⟩⟩⟩⟩⟩⟩) (k4 x5))⟩) h)⟩⟩⟩⟩)
end Go.Am.Seat
