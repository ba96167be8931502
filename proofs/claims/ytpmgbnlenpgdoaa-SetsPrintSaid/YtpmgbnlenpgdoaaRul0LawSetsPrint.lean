/- The rules of 14 functions: from what is owed at each place of a function the function goes on as it is told there. Printed by a program of this seat; Lean checks each. -/
import Derived.Test.YtpmgbnlenpgdoaaAmZ2
import Derived.Test.YtpmgbnlenpgdoaaTab
open Go Go.Am Go.Am.Seat
namespace Go.Am.Seat
set_option linter.unusedVariables false
set_option maxRecDepth 100000
theorem hf14 : Go.Proofs.Try.prog.funcs[14]? = some Go.Proofs.Try.f14 := by kernel_rfl
abbrev s14_e (sf : Nat → Int) : List (Nat × AV) := [(0, (.ar 4 1 (fun i0 => (.sc (.int .u64 (sf i0))))))]
abbrev m14_e (sf : Nat → Int) : List (Nat × Nat × AV) := []
def L14_e (sf : Nat → Int) (res : AV) : Prop := Goes ⟨Go.Proofs.Try.prog, 14, [], res, []⟩ (place Go.Proofs.Try.f14 []) (s14_e sf) (m14_e sf)
theorem a14_e (sf : Nat → Int) (res : AV) (h : (∀ slot, fact (look .undef (s14_e sf) slot)) → L14_e sf res) : L14_e sf res :=
  assumeRule 14 [] Go.Proofs.Try.f14 hf14 [] (s14_e sf) (m14_e sf) res [] _ (by kernel_rfl) h
theorem o14 (sf : Nat → Int) (res : AV) (hnew : newOnly res) (h : L14_e sf res) : Ok Go.Proofs.Try.prog 14 [(.ar 4 1 (fun i0 => (.sc (.int .u64 (sf i0)))))] [] res [] :=
  okRule2 14 Go.Proofs.Try.f14 hf14 [(.ar 4 1 (fun i0 => (.sc (.int .u64 (sf i0)))))] [] res [] [] rfl (by kernel_rfl) (by kernel_rfl) (by kernel_rfl) ⟨hnew, by simp⟩ (L14_e sf res) (by kernel_rfl) h
theorem r14_e (sf : Nat → Int) (res : AV)
    (h : ∃ (r : ByteArray),
  Ok Proofs.Try.prog (49 : Nat) [AV.ar (4 : Nat) (1 : Nat) fun (i : Nat) => AV.sc (Value.int IntKind.u64 (sf i))] [] (AV.sc (Value.string r)) [] ∧
    ∃ (r_1 : Nat → Bool),
      Ok Proofs.Try.prog (51 : Nat) [AV.ar (4 : Nat) (1 : Nat) fun (i : Nat) => AV.sc (Value.int IntKind.u64 (sf i))] []
          (AV.ar (256 : Nat) (1 : Nat) fun (i0 : Nat) => AV.sc (Value.bool (r_1 i0))) [] ∧
        ∃ (r_2 : ByteArray),
          Ok Proofs.Try.prog (50 : Nat) [AV.ar (256 : Nat) (1 : Nat) fun (i : Nat) => AV.sc (Value.bool (r_1 i))] [] (AV.sc (Value.string r_2)) [] ∧
            ((r.toList == r_2.toList) = true →
                ∃ (r_3 : Bool),
                  Ok Proofs.Try.prog (52 : Nat) [] [] (AV.sc (Value.bool r_3)) [] ∧ (r.toList == r_2.toList) = true ∧ Sub (AV.sc (Value.bool r_3)) res) ∧
              ((r.toList == r_2.toList) = !true → (r.toList == r_2.toList) = false ∧ Sub (AV.sc (Value.bool false)) res)) :
    L14_e sf res :=
  rule Go.Am.Seat.tabOk 14 [] Go.Proofs.Try.f14 hf14 [] (s14_e sf) (m14_e sf) res [] 400
    (Orc.call [] [] (fun (r49 : ByteArray) => AV.sc (Value.string r49)) (fun (r49 : ByteArray) => []) fun (r49 : ByteArray) =>
  Orc.call [] [] (fun (r51 : Nat → Bool) => AV.ar (256 : Nat) (1 : Nat) fun (i0 : Nat) => AV.sc (Value.bool (r51 i0))) (fun (r51 : Nat → Bool) => [])
    fun (r51 : Nat → Bool) =>
    Orc.call [] [] (fun (r50 : ByteArray) => AV.sc (Value.string r50)) (fun (r50 : ByteArray) => []) fun (r50 : ByteArray) =>
      (Orc.call [] [] (fun (r52 : Bool) => AV.sc (Value.bool r52)) (fun (r52 : Bool) => []) fun (r52 : Bool) =>
            Orc.ch (Ch.p true) (Orc.fin (AV.sc (Value.bool r52)) [] [])).br
        (Orc.ch (Ch.p false) (Orc.fin (AV.sc (Value.bool false)) [] []))) _ _ (by kernel_rfl) (by kernel_rfl) (show True ∧
  True ∧
    ((0 : Nat) = (0 : Nat) ∧ True) ∧
      ∃ (r : ByteArray),
        ((True ∧ True) ∧
            True ∧
              Ok Proofs.Try.prog (49 : Nat) [AV.ar (4 : Nat) (1 : Nat) fun (i : Nat) => AV.sc (Value.int IntKind.u64 (sf i))] [] (AV.sc (Value.string r)) []) ∧
          ((0 : Nat) = (0 : Nat) ∧ True) ∧
            ∃ (r_1 : Nat → Bool),
              ((True ∧ True) ∧
                  True ∧
                    Ok Proofs.Try.prog (51 : Nat) [AV.ar (4 : Nat) (1 : Nat) fun (i : Nat) => AV.sc (Value.int IntKind.u64 (sf i))] []
                      (AV.ar (256 : Nat) (1 : Nat) fun (i0 : Nat) => AV.sc (Value.bool (r_1 i0))) []) ∧
                ∃ (r_2 : ByteArray),
                  ((True ∧ True) ∧
                      True ∧
                        Ok Proofs.Try.prog (50 : Nat) [AV.ar (256 : Nat) (1 : Nat) fun (i : Nat) => AV.sc (Value.bool (r_1 i))] [] (AV.sc (Value.string r_2))
                          []) ∧
                    True ∧
                      True ∧
                        ((r.toList == r_2.toList) = true →
                            ∃ (r_3 : Bool),
                              (True ∧ True ∧ Ok Proofs.Try.prog (52 : Nat) [] [] (AV.sc (Value.bool r_3)) []) ∧
                                (r.toList == r_2.toList) = true ∧
                                  True ∧
                                    True ∧
                                      ((True ∧ Sub (AV.sc (Value.bool r_3)) (AV.sc (Value.bool r_3)) ∧ True) ∧ True) ∧
                                        Sub (AV.sc (Value.bool r_3)) res ∧ SubOut [] []) ∧
                          ((r.toList == r_2.toList) = !true →
                            true = true ∧
                              (r.toList == r_2.toList) = false ∧
                                True ∧
                                  True ∧
                                    ((True ∧ Sub (AV.sc (Value.bool false)) (AV.sc (Value.bool false)) ∧ True) ∧ True) ∧
                                      Sub (AV.sc (Value.bool false)) res ∧ SubOut [] []) from
    ⟨trivial, ⟨trivial, ⟨⟨rfl, trivial⟩, (Exists.elim h fun x3 h3 => ⟨x3, (And.elim (fun h4 k4 => ⟨⟨⟨trivial, trivial⟩, ⟨trivial, h4⟩⟩, ⟨⟨rfl, trivial⟩, (Exists.elim k4 fun x6 h6 => ⟨x6, (And.elim (fun h7 k7 => ⟨⟨⟨trivial, trivial⟩, ⟨trivial, h7⟩⟩, (Exists.elim k7 fun x8 h8 => ⟨x8, (And.elim (fun h9 k9 => ⟨⟨⟨trivial, trivial⟩, ⟨trivial, h9⟩⟩, ⟨trivial, ⟨trivial, (And.elim (fun h12 k12 => ⟨(fun x13 => (fun h13 => (Exists.elim h13 fun x14 h14 => ⟨x14, (And.elim (fun h15 k15 => ⟨⟨trivial, ⟨trivial, h15⟩⟩, (And.elim (fun h16 k16 => ⟨h16, ⟨trivial, ⟨trivial, ⟨⟨⟨trivial, ⟨Sub.refl _, trivial⟩⟩, trivial⟩, ⟨k16, trivial⟩⟩⟩⟩⟩) k15)⟩) h14)⟩)) (h12 x13)), (fun x13 => (fun h13 => ⟨rfl, (And.elim (fun h15 k15 => ⟨h15, ⟨trivial, ⟨trivial, ⟨⟨⟨trivial, ⟨Sub.refl _, trivial⟩⟩, trivial⟩, ⟨k15, trivial⟩⟩⟩⟩⟩) h13)⟩) (k12 x13))⟩) k9)⟩⟩⟩) h8)⟩)⟩) h6)⟩)⟩⟩) h3)⟩)⟩⟩⟩)
theorem hf49 : Go.Proofs.Try.prog.funcs[49]? = some Go.Proofs.Try.f49 := by kernel_rfl
abbrev s49_e (sf : Nat → Int) : List (Nat × AV) := [(0, (.ar 4 1 (fun i0 => (.sc (.int .u64 (sf i0))))))]
abbrev m49_e (sf : Nat → Int) : List (Nat × Nat × AV) := []
def L49_e (sf : Nat → Int) (res : AV) : Prop := Goes ⟨Go.Proofs.Try.prog, 49, [], res, []⟩ (place Go.Proofs.Try.f49 []) (s49_e sf) (m49_e sf)
theorem a49_e (sf : Nat → Int) (res : AV) (h : (∀ slot, fact (look .undef (s49_e sf) slot)) → L49_e sf res) : L49_e sf res :=
  assumeRule 49 [] Go.Proofs.Try.f49 hf49 [] (s49_e sf) (m49_e sf) res [] _ (by kernel_rfl) h
abbrev s49_0 (out_n : Nat) (b0f : Nat → Int) (b1n : Nat) (b1f : Nat → Int) : List (Nat × AV) := [(1, (.pt 1000 [] 0)), (3, (.rf 1001 1 0 out_n))]
abbrev m49_0 (out_n : Nat) (b0f : Nat → Int) (b1n : Nat) (b1f : Nat → Int) : List (Nat × Nat × AV) := [(1000, 50, (.ar 4 1 (fun i0 => (.sc (.int .u64 (b0f i0)))))), (1001, 5, (.ar b1n 1 (fun i0 => (.sc (.int .u8 (b1f i0))))))]
def L49_0 (out_n : Nat) (b0f : Nat → Int) (b1n : Nat) (b1f : Nat → Int) (res : AV) : Prop := Goes ⟨Go.Proofs.Try.prog, 49, [], res, []⟩ (place Go.Proofs.Try.f49 [1, 1, 1]) (s49_0 out_n b0f b1n b1f) (m49_0 out_n b0f b1n b1f)
theorem a49_0 (out_n : Nat) (b0f : Nat → Int) (b1n : Nat) (b1f : Nat → Int) (res : AV) (h : (∀ slot, fact (look .undef (s49_0 out_n b0f b1n b1f) slot)) → L49_0 out_n b0f b1n b1f res) : L49_0 out_n b0f b1n b1f res :=
  assumeRule 49 [] Go.Proofs.Try.f49 hf49 [1, 1, 1] (s49_0 out_n b0f b1n b1f) (m49_0 out_n b0f b1n b1f) res [] _ (by kernel_rfl) h
abbrev s49_1 (out_n : Nat) (b : Int) (b0f : Nat → Int) (b1n : Nat) (b1f : Nat → Int) : List (Nat × AV) := [(1, (.pt 1000 [] 0)), (3, (.rf 1001 1 0 out_n)), (4, (.sc (.int .i64 b)))]
abbrev m49_1 (out_n : Nat) (b : Int) (b0f : Nat → Int) (b1n : Nat) (b1f : Nat → Int) : List (Nat × Nat × AV) := [(1000, 50, (.ar 4 1 (fun i0 => (.sc (.int .u64 (b0f i0)))))), (1001, 5, (.ar b1n 1 (fun i0 => (.sc (.int .u8 (b1f i0))))))]
def L49_1 (out_n : Nat) (b : Int) (b0f : Nat → Int) (b1n : Nat) (b1f : Nat → Int) (res : AV) : Prop := Goes ⟨Go.Proofs.Try.prog, 49, [], res, []⟩ (place Go.Proofs.Try.f49 [1, 1, 1, 0, 1, 0, 0]) (s49_1 out_n b b0f b1n b1f) (m49_1 out_n b b0f b1n b1f)
theorem a49_1 (out_n : Nat) (b : Int) (b0f : Nat → Int) (b1n : Nat) (b1f : Nat → Int) (res : AV) (h : (∀ slot, fact (look .undef (s49_1 out_n b b0f b1n b1f) slot)) → L49_1 out_n b b0f b1n b1f res) : L49_1 out_n b b0f b1n b1f res :=
  assumeRule 49 [] Go.Proofs.Try.f49 hf49 [1, 1, 1, 0, 1, 0, 0] (s49_1 out_n b b0f b1n b1f) (m49_1 out_n b b0f b1n b1f) res [] _ (by kernel_rfl) h
abbrev s49_2 (out_n : Nat) (b : Int) (to : Int) (b0f : Nat → Int) (b1n : Nat) (b1f : Nat → Int) : List (Nat × AV) := [(1, (.pt 1000 [] 0)), (3, (.rf 1001 1 0 out_n)), (4, (.sc (.int .i64 b))), (5, (.sc (.int .i64 to)))]
abbrev m49_2 (out_n : Nat) (b : Int) (to : Int) (b0f : Nat → Int) (b1n : Nat) (b1f : Nat → Int) : List (Nat × Nat × AV) := [(1000, 50, (.ar 4 1 (fun i0 => (.sc (.int .u64 (b0f i0)))))), (1001, 5, (.ar b1n 1 (fun i0 => (.sc (.int .u8 (b1f i0))))))]
def L49_2 (out_n : Nat) (b : Int) (to : Int) (b0f : Nat → Int) (b1n : Nat) (b1f : Nat → Int) (res : AV) : Prop := Goes ⟨Go.Proofs.Try.prog, 49, [], res, []⟩ (place Go.Proofs.Try.f49 [1, 1, 1, 0, 1, 0, 0, 1, 0, 0, 1, 1, 0, 0, 0]) (s49_2 out_n b to b0f b1n b1f) (m49_2 out_n b to b0f b1n b1f)
theorem a49_2 (out_n : Nat) (b : Int) (to : Int) (b0f : Nat → Int) (b1n : Nat) (b1f : Nat → Int) (res : AV) (h : (∀ slot, fact (look .undef (s49_2 out_n b to b0f b1n b1f) slot)) → L49_2 out_n b to b0f b1n b1f res) : L49_2 out_n b to b0f b1n b1f res :=
  assumeRule 49 [] Go.Proofs.Try.f49 hf49 [1, 1, 1, 0, 1, 0, 0, 1, 0, 0, 1, 1, 0, 0, 0] (s49_2 out_n b to b0f b1n b1f) (m49_2 out_n b to b0f b1n b1f) res [] _ (by kernel_rfl) h
abbrev s49_3 (out_n : Nat) (b : Int) (b0f : Nat → Int) (b1n : Nat) (b1f : Nat → Int) : List (Nat × AV) := [(1, (.pt 1000 [] 0)), (3, (.rf 1001 1 0 out_n)), (4, (.sc (.int .i64 b)))]
abbrev m49_3 (out_n : Nat) (b : Int) (b0f : Nat → Int) (b1n : Nat) (b1f : Nat → Int) : List (Nat × Nat × AV) := [(1000, 50, (.ar 4 1 (fun i0 => (.sc (.int .u64 (b0f i0)))))), (1001, 5, (.ar b1n 1 (fun i0 => (.sc (.int .u8 (b1f i0))))))]
def L49_3 (out_n : Nat) (b : Int) (b0f : Nat → Int) (b1n : Nat) (b1f : Nat → Int) (res : AV) : Prop := Goes ⟨Go.Proofs.Try.prog, 49, [], res, []⟩ (place Go.Proofs.Try.f49 [1, 1, 1, 0, 1, 0, 0, 1, 1]) (s49_3 out_n b b0f b1n b1f) (m49_3 out_n b b0f b1n b1f)
theorem a49_3 (out_n : Nat) (b : Int) (b0f : Nat → Int) (b1n : Nat) (b1f : Nat → Int) (res : AV) (h : (∀ slot, fact (look .undef (s49_3 out_n b b0f b1n b1f) slot)) → L49_3 out_n b b0f b1n b1f res) : L49_3 out_n b b0f b1n b1f res :=
  assumeRule 49 [] Go.Proofs.Try.f49 hf49 [1, 1, 1, 0, 1, 0, 0, 1, 1] (s49_3 out_n b b0f b1n b1f) (m49_3 out_n b b0f b1n b1f) res [] _ (by kernel_rfl) h
theorem o49 (sf : Nat → Int) (res : AV) (hnew : newOnly res) (h : L49_e sf res) : Ok Go.Proofs.Try.prog 49 [(.ar 4 1 (fun i0 => (.sc (.int .u64 (sf i0)))))] [] res [] :=
  okRule2 49 Go.Proofs.Try.f49 hf49 [(.ar 4 1 (fun i0 => (.sc (.int .u64 (sf i0)))))] [] res [] [] rfl (by kernel_rfl) (by kernel_rfl) (by kernel_rfl) ⟨hnew, by simp⟩ (L49_e sf res) (by kernel_rfl) h
theorem r49_e (sf : Nat → Int) (res : AV)
    (h : ∃ (r : Int),
  Ok Proofs.Try.prog (81 : Nat) [AV.ar (4 : Nat) (1 : Nat) fun (i : Nat) => AV.sc (Value.int IntKind.u64 (sf i))] [] (AV.sc (Value.int IntKind.i64 r)) [] ∧
    (decide (r > (128 : Int)) = true →
        ((1 : Nat) ≤ (1 : Nat) ∧
            (0 : Nat) + (1 : Nat) ≤ (1 : Nat) ∧ ((1 : Nat) + (1 : Nat)) * (1 : Nat) ≤ (140737488355328 : Nat) ∧ (1 : Nat) + (1 : Nat) ≤ maxLen) ∧
          ∃ (r : Nat → Int),
            Ok Proofs.Try.prog (82 : Nat) [AV.ar (4 : Nat) (1 : Nat) fun (i : Nat) => AV.sc (Value.int IntKind.u64 (sf i))] []
                (AV.ar (4 : Nat) (1 : Nat) fun (i0 : Nat) => AV.sc (Value.int IntKind.u64 (r i0))) [] ∧
              L49_0 (2 : Nat) r (2 : Nat)
                (fun (i : Nat) =>
                  bif i.blt (1 : Nat) then bif i.beq (0 : Nat) then (91 : Int) else (0 : Int)
                  else bif ((0 : Nat) + (i - (1 : Nat))).beq (0 : Nat) then (94 : Int) else (0 : Int))
                res) ∧
      (decide (r > (128 : Int)) = false → L49_0 (1 : Nat) sf (1 : Nat) (fun (i : Nat) => bif i.beq (0 : Nat) then (91 : Int) else (0 : Int)) res)) :
    L49_e sf res :=
  rule Go.Am.Seat.tabOk 49 [] Go.Proofs.Try.f49 hf49 [] (s49_e sf) (m49_e sf) res [] 400
    (Orc.call [] [] (fun (r81 : Int) => AV.sc (Value.int IntKind.i64 r81)) (fun (r81 : Int) => []) fun (r81 : Int) =>
  (Orc.call [] [] (fun (r82 : Nat → Int) => AV.ar (4 : Nat) (1 : Nat) fun (i0 : Nat) => AV.sc (Value.int IntKind.u64 (r82 i0))) (fun (r82 : Nat → Int) => [])
        fun (r82 : Nat → Int) =>
        Orc.cut (nat_lit 0)
          (s49_0 (2 : Nat) r82 (2 : Nat) fun (i : Nat) =>
            bif i.blt (1 : Nat) then bif i.beq ((0 : Nat), Operand.const (Value.int IntKind.u8 (91 : Int))).fst then (91 : Int) else (0 : Int)
            else bif ((0 : Nat) + (i - (1 : Nat))).beq ((0 : Nat), Operand.const (Value.int IntKind.u8 (94 : Int))).fst then (94 : Int) else (0 : Int))
          (m49_0 (2 : Nat) r82 (2 : Nat) fun (i : Nat) =>
            bif i.blt (1 : Nat) then bif i.beq ((0 : Nat), Operand.const (Value.int IntKind.u8 (91 : Int))).fst then (91 : Int) else (0 : Int)
            else bif ((0 : Nat) + (i - (1 : Nat))).beq ((0 : Nat), Operand.const (Value.int IntKind.u8 (94 : Int))).fst then (94 : Int) else (0 : Int))
          [((1000 : Nat), some (1 : Nat)), ((1001 : Nat), some (12 : Nat))]).br
    (Orc.cut (nat_lit 1)
      (s49_0 (1 : Nat) sf (1 : Nat) fun (i : Nat) => bif i.beq ((0 : Nat), Operand.const (Value.int IntKind.u8 (91 : Int))).fst then (91 : Int) else (0 : Int))
      (m49_0 (1 : Nat) sf (1 : Nat) fun (i : Nat) => bif i.beq ((0 : Nat), Operand.const (Value.int IntKind.u8 (91 : Int))).fst then (91 : Int) else (0 : Int))
      [((1000 : Nat), some (1 : Nat)), ((1001 : Nat), some (6 : Nat))])) _ _ (by kernel_rfl) (by kernel_rfl) (show True ∧
  True ∧
    ((True ∧ True) ∧ True) ∧
      True ∧
        ((0 : Nat) = (0 : Nat) ∧ True) ∧
          ∃ (r : Int),
            ((True ∧ True) ∧
                True ∧
                  Ok Proofs.Try.prog (81 : Nat) [AV.ar (4 : Nat) (1 : Nat) fun (i : Nat) => AV.sc (Value.int IntKind.u64 (sf i))] []
                    (AV.sc (Value.int IntKind.i64 r)) []) ∧
              True ∧
                (decide (r > (128 : Int)) = true →
                    True ∧
                      ((True ∧ True) ∧ True) ∧
                        ((1 : Nat) ≤ (1 : Nat) ∧
                            ((0 : Nat) + (1 : Nat) ≤ (1 : Nat) ∧ (1 : Nat) = (1 : Nat)) ∧
                              ((1 : Nat) + (1 : Nat)) * (1 : Nat) ≤ (140737488355328 : Nat) ∧ (1 : Nat) + (1 : Nat) ≤ maxLen) ∧
                          True ∧
                            ((0 : Nat) = (0 : Nat) ∧ True) ∧
                              ∃ (r : Nat → Int),
                                ((True ∧ True) ∧
                                    True ∧
                                      Ok Proofs.Try.prog (82 : Nat) [AV.ar (4 : Nat) (1 : Nat) fun (i : Nat) => AV.sc (Value.int IntKind.u64 (sf i))] []
                                        (AV.ar (4 : Nat) (1 : Nat) fun (i0 : Nat) => AV.sc (Value.int IntKind.u64 (r i0))) []) ∧
                                  ((0 : Nat) = (0 : Nat) ∧ True) ∧
                                    ((True ∧
                                          Sub (AV.pt (1000 : Nat) [] (0 : Nat)) (AV.pt (1000 : Nat) [] (0 : Nat)) ∧
                                            True ∧
                                              Sub (AV.rf (1001 : Nat) (1 : Nat) (0 : Nat) (2 : Nat)) (AV.rf (1001 : Nat) (1 : Nat) (0 : Nat) (2 : Nat)) ∧
                                                True) ∧
                                        True ∧
                                          SubB (AV.ar (4 : Nat) (1 : Nat) fun (i0 : Nat) => AV.sc (Value.int IntKind.u64 (r i0)))
                                              (AV.ar (4 : Nat) (1 : Nat) fun (i0 : Nat) => AV.sc (Value.int IntKind.u64 (r i0))) ∧
                                            True ∧
                                              SubB
                                                  (AV.ar (2 : Nat) (1 : Nat) fun (i : Nat) =>
                                                    AV.sc
                                                      (Value.int IntKind.u8
                                                        (bif i.blt (1 : Nat) then bif i.beq (0 : Nat) then (91 : Int) else (0 : Int)
                                                        else bif ((0 : Nat) + (i - (1 : Nat))).beq (0 : Nat) then (94 : Int) else (0 : Int))))
                                                  (AV.ar (2 : Nat) (1 : Nat) fun (i0 : Nat) =>
                                                    AV.sc
                                                      (Value.int IntKind.u8
                                                        (bif i0.blt (1 : Nat) then bif i0.beq (0 : Nat) then (91 : Int) else (0 : Int)
                                                        else bif ((0 : Nat) + (i0 - (1 : Nat))).beq (0 : Nat) then (94 : Int) else (0 : Int)))) ∧
                                                True) ∧
                                      L49_0 (2 : Nat) r (2 : Nat)
                                        (fun (i : Nat) =>
                                          bif i.blt (1 : Nat) then bif i.beq (0 : Nat) then (91 : Int) else (0 : Int)
                                          else bif ((0 : Nat) + (i - (1 : Nat))).beq (0 : Nat) then (94 : Int) else (0 : Int))
                                        res) ∧
                  (decide (r > (128 : Int)) = false →
                    ((True ∧
                          Sub (AV.pt (1000 : Nat) [] (0 : Nat)) (AV.pt (1000 : Nat) [] (0 : Nat)) ∧
                            True ∧ Sub (AV.rf (1001 : Nat) (1 : Nat) (0 : Nat) (1 : Nat)) (AV.rf (1001 : Nat) (1 : Nat) (0 : Nat) (1 : Nat)) ∧ True) ∧
                        True ∧
                          SubB (AV.ar (4 : Nat) (1 : Nat) fun (i0 : Nat) => AV.sc (Value.int IntKind.u64 (sf i0)))
                              (AV.ar (4 : Nat) (1 : Nat) fun (i0 : Nat) => AV.sc (Value.int IntKind.u64 (sf i0))) ∧
                            True ∧
                              SubB
                                  (AV.ar (1 : Nat) (1 : Nat) fun (i : Nat) => AV.sc (Value.int IntKind.u8 (bif i.beq (0 : Nat) then (91 : Int) else (0 : Int))))
                                  (AV.ar (1 : Nat) (1 : Nat) fun (i0 : Nat) =>
                                    AV.sc (Value.int IntKind.u8 (bif i0.beq (0 : Nat) then (91 : Int) else (0 : Int)))) ∧
                                True) ∧
                      L49_0 (1 : Nat) sf (1 : Nat) (fun (i : Nat) => bif i.beq (0 : Nat) then (91 : Int) else (0 : Int)) res) from
    ⟨trivial, ⟨trivial, ⟨⟨⟨trivial, trivial⟩, trivial⟩, ⟨trivial, ⟨⟨rfl, trivial⟩, (Exists.elim h fun x5 h5 => ⟨x5, (And.elim (fun h6 k6 => ⟨⟨⟨trivial, trivial⟩, ⟨trivial, h6⟩⟩, ⟨trivial, (And.elim (fun h8 k8 => ⟨(fun x9 => (fun h9 => ⟨trivial, ⟨⟨⟨trivial, trivial⟩, trivial⟩, (And.elim (fun h12 k12 => ⟨(And.elim (fun h13 k13 => ⟨h13, (And.elim (fun h14 k14 => ⟨⟨h14, rfl⟩, (And.elim (fun h15 k15 => ⟨h15, k15⟩) k14)⟩) k13)⟩) h12), ⟨trivial, ⟨⟨rfl, trivial⟩, (Exists.elim k12 fun x15 h15 => ⟨x15, (And.elim (fun h16 k16 => ⟨⟨⟨trivial, trivial⟩, ⟨trivial, h16⟩⟩, ⟨⟨rfl, trivial⟩, ⟨⟨⟨trivial, ⟨Sub.refl _, ⟨trivial, ⟨Sub.refl _, trivial⟩⟩⟩⟩, ⟨trivial, ⟨SubB.refl _, ⟨trivial, ⟨SubB.refl _, trivial⟩⟩⟩⟩⟩, k16⟩⟩⟩) h15)⟩)⟩⟩⟩) h9)⟩⟩) (h8 x9)), (fun x9 => (fun h9 => ⟨⟨⟨trivial, ⟨Sub.refl _, ⟨trivial, ⟨Sub.refl _, trivial⟩⟩⟩⟩, ⟨trivial, ⟨SubB.refl _, ⟨trivial, ⟨SubB.refl _, trivial⟩⟩⟩⟩⟩, h9⟩) (k8 x9))⟩) k6)⟩⟩) h5)⟩)⟩⟩⟩⟩⟩)
theorem r49_0 (out_n : Nat) (b0f : Nat → Int) (b1n : Nat) (b1f : Nat → Int) (res : AV)
    (h : L49_1 out_n (0 : Int) b0f b1n b1f res) :
    L49_0 out_n b0f b1n b1f res :=
  rule Go.Am.Seat.tabOk 49 [] Go.Proofs.Try.f49 hf49 [1, 1, 1] (s49_0 out_n b0f b1n b1f) (m49_0 out_n b0f b1n b1f) res [] 400
    (Orc.cut (nat_lit 5) (s49_1 out_n (0 : Int) b0f b1n b1f) (m49_1 out_n (0 : Int) b0f b1n b1f)
  [((1000 : Nat), some (1000 : Nat)), ((1001 : Nat), some (1001 : Nat))]) _ _ (by kernel_rfl) (by kernel_rfl) (show True ∧
  ((True ∧
        Sub (AV.pt (1000 : Nat) [] (0 : Nat)) (AV.pt (1000 : Nat) [] (0 : Nat)) ∧
          True ∧
            Sub (AV.rf (1001 : Nat) (1 : Nat) (0 : Nat) out_n) (AV.rf (1001 : Nat) (1 : Nat) (0 : Nat) out_n) ∧
              True ∧ Sub (AV.sc (Value.int IntKind.i64 (0 : Int))) (AV.sc (Value.int IntKind.i64 (0 : Int))) ∧ True) ∧
      True ∧
        SubB (AV.ar (4 : Nat) (1 : Nat) fun (i0 : Nat) => AV.sc (Value.int IntKind.u64 (b0f i0)))
            (AV.ar (4 : Nat) (1 : Nat) fun (i0 : Nat) => AV.sc (Value.int IntKind.u64 (b0f i0))) ∧
          True ∧
            SubB (AV.ar b1n (1 : Nat) fun (i0 : Nat) => AV.sc (Value.int IntKind.u8 (b1f i0)))
                (AV.ar b1n (1 : Nat) fun (i0 : Nat) => AV.sc (Value.int IntKind.u8 (b1f i0))) ∧
              True) ∧
    L49_1 out_n (0 : Int) b0f b1n b1f res from
    ⟨trivial, ⟨⟨⟨trivial, ⟨Sub.refl _, ⟨trivial, ⟨Sub.refl _, ⟨trivial, ⟨Sub.refl _, trivial⟩⟩⟩⟩⟩⟩, ⟨trivial, ⟨SubB.refl _, ⟨trivial, ⟨SubB.refl _, trivial⟩⟩⟩⟩⟩, h⟩⟩)
theorem r49_1 (out_n : Nat) (b : Int) (b0f : Nat → Int) (b1n : Nat) (b1f : Nat → Int) (res : AV)
    (h : (decide (b < (256 : Int)) = true →
    ∃ (r : Bool),
      Ok Proofs.Try.prog (83 : Nat)
          [AV.ar (4 : Nat) (1 : Nat) fun (i : Nat) => AV.sc (Value.int IntKind.u64 (b0f i)), AV.sc (Value.int IntKind.u8 (IntKind.u8.wrap b))] []
          (AV.sc (Value.bool r)) [] ∧
        ((!r) = true → L49_3 out_n b b0f b1n b1f res) ∧ ((!r) = false → L49_2 out_n b b b0f b1n b1f res)) ∧
  (decide (b < (256 : Int)) = false →
    (out_n ≤ b1n ∧ (0 : Nat) + (1 : Nat) ≤ (1 : Nat) ∧ (out_n + (1 : Nat)) * (1 : Nat) ≤ (140737488355328 : Nat) ∧ out_n + (1 : Nat) ≤ maxLen) ∧
      ((0 : Nat) + (out_n + (1 : Nat)) ≤ out_n + (1 : Nat) ∧
          (strOf (out_n + (1 : Nat)) fun (i : Nat) =>
                  bif ((0 : Nat) + i).blt out_n then b1f ((0 : Nat) + i)
                  else bif ((0 : Nat) + ((0 : Nat) + i - out_n)).beq (0 : Nat) then (93 : Int) else (0 : Int)).size =
              out_n + (1 : Nat) ∧
            ∀ (i : Nat),
              i < out_n + (1 : Nat) →
                AV.sc
                    (Value.int IntKind.u8
                      (bif ((0 : Nat) + i).blt out_n then b1f ((0 : Nat) + i)
                      else bif ((0 : Nat) + ((0 : Nat) + i - out_n)).beq (0 : Nat) then (93 : Int) else (0 : Int))) =
                  AV.sc
                    (Value.int IntKind.u8
                      (↑(byteAt
                              (strOf (out_n + (1 : Nat)) fun (i : Nat) =>
                                bif ((0 : Nat) + i).blt out_n then b1f ((0 : Nat) + i)
                                else bif ((0 : Nat) + ((0 : Nat) + i - out_n)).beq (0 : Nat) then (93 : Int) else (0 : Int))
                              i).toNat :
                        Int))) ∧
        Sub
          (AV.sc
            (Value.string
              (strOf (out_n + (1 : Nat)) fun (i : Nat) =>
                bif ((0 : Nat) + i).blt out_n then b1f ((0 : Nat) + i)
                else bif ((0 : Nat) + ((0 : Nat) + i - out_n)).beq (0 : Nat) then (93 : Int) else (0 : Int))))
          res)) :
    L49_1 out_n b b0f b1n b1f res :=
  rule Go.Am.Seat.tabOk 49 [] Go.Proofs.Try.f49 hf49 [1, 1, 1, 0, 1, 0, 0] (s49_1 out_n b b0f b1n b1f) (m49_1 out_n b b0f b1n b1f) res [] 400
    ((Orc.call [] [] (fun (r83 : Bool) => AV.sc (Value.bool r83)) (fun (r83 : Bool) => []) fun (r83 : Bool) =>
      (Orc.cut (nat_lit 1) (s49_3 out_n b b0f b1n b1f) (m49_3 out_n b b0f b1n b1f) [((1000 : Nat), some (1000 : Nat)), ((1001 : Nat), some (1001 : Nat))]).br
        (Orc.cut (nat_lit 6) (s49_2 out_n b b b0f b1n b1f) (m49_2 out_n b b b0f b1n b1f)
          [((1000 : Nat), some (1000 : Nat)), ((1001 : Nat), some (1001 : Nat))])).br
  (Orc.ch Ch.none
    (Orc.ch Ch.none
      (Orc.ch Ch.none
        (Orc.ch
          (Ch.s
            (strOf (out_n + (1 : Nat)) fun (i : Nat) =>
              bif ((0 : Nat) + i).blt out_n then b1f ((0 : Nat) + i)
              else
                bif ((0 : Nat) + ((0 : Nat) + i - out_n)).beq ((0 : Nat), Operand.const (Value.int IntKind.u8 (93 : Int))).fst then (93 : Int) else (0 : Int)))
          (Orc.fin
            (AV.sc
              (Value.string
                (strOf (out_n + (1 : Nat)) fun (i : Nat) =>
                  bif ((0 : Nat) + i).blt out_n then b1f ((0 : Nat) + i)
                  else
                    bif ((0 : Nat) + ((0 : Nat) + i - out_n)).beq ((0 : Nat), Operand.const (Value.int IntKind.u8 (93 : Int))).fst then (93 : Int)
                    else (0 : Int))))
            [] [])))))) _ _ (by kernel_rfl) (by kernel_rfl) (show True ∧
  True ∧
    (decide (b < (256 : Int)) = true →
        ((0 : Nat) = (0 : Nat) ∧ True) ∧
          True ∧
            True ∧
              ∃ (r : Bool),
                ((True ∧ True ∧ True) ∧
                    True ∧
                      Ok Proofs.Try.prog (83 : Nat)
                        [AV.ar (4 : Nat) (1 : Nat) fun (i : Nat) => AV.sc (Value.int IntKind.u64 (b0f i)), AV.sc (Value.int IntKind.u8 (IntKind.u8.wrap b))] []
                        (AV.sc (Value.bool r)) []) ∧
                  True ∧
                    ((!r) = true →
                        ((True ∧
                              Sub (AV.pt (1000 : Nat) [] (0 : Nat)) (AV.pt (1000 : Nat) [] (0 : Nat)) ∧
                                True ∧
                                  Sub (AV.rf (1001 : Nat) (1 : Nat) (0 : Nat) out_n) (AV.rf (1001 : Nat) (1 : Nat) (0 : Nat) out_n) ∧
                                    True ∧ Sub (AV.sc (Value.int IntKind.i64 b)) (AV.sc (Value.int IntKind.i64 b)) ∧ True) ∧
                            True ∧
                              SubB (AV.ar (4 : Nat) (1 : Nat) fun (i0 : Nat) => AV.sc (Value.int IntKind.u64 (b0f i0)))
                                  (AV.ar (4 : Nat) (1 : Nat) fun (i0 : Nat) => AV.sc (Value.int IntKind.u64 (b0f i0))) ∧
                                True ∧
                                  SubB (AV.ar b1n (1 : Nat) fun (i0 : Nat) => AV.sc (Value.int IntKind.u8 (b1f i0)))
                                      (AV.ar b1n (1 : Nat) fun (i0 : Nat) => AV.sc (Value.int IntKind.u8 (b1f i0))) ∧
                                    True) ∧
                          L49_3 out_n b b0f b1n b1f res) ∧
                      ((!r) = false →
                        True ∧
                          True ∧
                            ((True ∧
                                  Sub (AV.pt (1000 : Nat) [] (0 : Nat)) (AV.pt (1000 : Nat) [] (0 : Nat)) ∧
                                    True ∧
                                      Sub (AV.rf (1001 : Nat) (1 : Nat) (0 : Nat) out_n) (AV.rf (1001 : Nat) (1 : Nat) (0 : Nat) out_n) ∧
                                        True ∧
                                          Sub (AV.sc (Value.int IntKind.i64 b)) (AV.sc (Value.int IntKind.i64 b)) ∧
                                            True ∧ Sub (AV.sc (Value.int IntKind.i64 b)) (AV.sc (Value.int IntKind.i64 b)) ∧ True) ∧
                                True ∧
                                  SubB (AV.ar (4 : Nat) (1 : Nat) fun (i0 : Nat) => AV.sc (Value.int IntKind.u64 (b0f i0)))
                                      (AV.ar (4 : Nat) (1 : Nat) fun (i0 : Nat) => AV.sc (Value.int IntKind.u64 (b0f i0))) ∧
                                    True ∧
                                      SubB (AV.ar b1n (1 : Nat) fun (i0 : Nat) => AV.sc (Value.int IntKind.u8 (b1f i0)))
                                          (AV.ar b1n (1 : Nat) fun (i0 : Nat) => AV.sc (Value.int IntKind.u8 (b1f i0))) ∧
                                        True) ∧
                              L49_2 out_n b b b0f b1n b1f res)) ∧
      (decide (b < (256 : Int)) = false →
        True ∧
          ((True ∧ True) ∧ True) ∧
            (out_n ≤ b1n ∧
                ((0 : Nat) + (1 : Nat) ≤ (1 : Nat) ∧ (1 : Nat) = (1 : Nat)) ∧
                  (out_n + (1 : Nat)) * (1 : Nat) ≤ (140737488355328 : Nat) ∧ out_n + (1 : Nat) ≤ maxLen) ∧
              (((0 : Nat) + (out_n + (1 : Nat)) ≤ out_n + (1 : Nat) ∧ (1 : Nat) = (1 : Nat)) ∧
                  (strOf (out_n + (1 : Nat)) fun (i : Nat) =>
                          bif ((0 : Nat) + i).blt out_n then b1f ((0 : Nat) + i)
                          else bif ((0 : Nat) + ((0 : Nat) + i - out_n)).beq (0 : Nat) then (93 : Int) else (0 : Int)).size =
                      out_n + (1 : Nat) ∧
                    ∀ (i : Nat),
                      i < out_n + (1 : Nat) →
                        AV.sc
                            (Value.int IntKind.u8
                              (bif ((0 : Nat) + i).blt out_n then b1f ((0 : Nat) + i)
                              else bif ((0 : Nat) + ((0 : Nat) + i - out_n)).beq (0 : Nat) then (93 : Int) else (0 : Int))) =
                          AV.sc
                            (Value.int IntKind.u8
                              (↑(byteAt
                                      (strOf (out_n + (1 : Nat)) fun (i : Nat) =>
                                        bif ((0 : Nat) + i).blt out_n then b1f ((0 : Nat) + i)
                                        else bif ((0 : Nat) + ((0 : Nat) + i - out_n)).beq (0 : Nat) then (93 : Int) else (0 : Int))
                                      i).toNat :
                                Int))) ∧
                True ∧
                  True ∧
                    ((True ∧
                          Sub
                              (AV.sc
                                (Value.string
                                  (strOf (out_n + (1 : Nat)) fun (i : Nat) =>
                                    bif ((0 : Nat) + i).blt out_n then b1f ((0 : Nat) + i)
                                    else bif ((0 : Nat) + ((0 : Nat) + i - out_n)).beq (0 : Nat) then (93 : Int) else (0 : Int))))
                              (AV.sc
                                (Value.string
                                  (strOf (out_n + (1 : Nat)) fun (i : Nat) =>
                                    bif ((0 : Nat) + i).blt out_n then b1f ((0 : Nat) + i)
                                    else bif ((0 : Nat) + ((0 : Nat) + i - out_n)).beq (0 : Nat) then (93 : Int) else (0 : Int)))) ∧
                            True) ∧
                        True) ∧
                      Sub
                          (AV.sc
                            (Value.string
                              (strOf (out_n + (1 : Nat)) fun (i : Nat) =>
                                bif ((0 : Nat) + i).blt out_n then b1f ((0 : Nat) + i)
                                else bif ((0 : Nat) + ((0 : Nat) + i - out_n)).beq (0 : Nat) then (93 : Int) else (0 : Int))))
                          res ∧
                        SubOut [] []) from
    ⟨trivial, ⟨trivial, (And.elim (fun h2 k2 => ⟨(fun x3 => (fun h3 => ⟨⟨rfl, trivial⟩, ⟨trivial, ⟨trivial, (Exists.elim h3 fun x7 h7 => ⟨x7, (And.elim (fun h8 k8 => ⟨⟨⟨trivial, ⟨trivial, trivial⟩⟩, ⟨trivial, h8⟩⟩, ⟨trivial, (And.elim (fun h10 k10 => ⟨(fun x11 => (fun h11 => ⟨⟨⟨trivial, ⟨Sub.refl _, ⟨trivial, ⟨Sub.refl _, ⟨trivial, ⟨Sub.refl _, trivial⟩⟩⟩⟩⟩⟩, ⟨trivial, ⟨SubB.refl _, ⟨trivial, ⟨SubB.refl _, trivial⟩⟩⟩⟩⟩, h11⟩) (h10 x11)), (fun x11 => (fun h11 => ⟨trivial, ⟨trivial, ⟨⟨⟨trivial, ⟨Sub.refl _, ⟨trivial, ⟨Sub.refl _, ⟨trivial, ⟨Sub.refl _, ⟨trivial, ⟨Sub.refl _, trivial⟩⟩⟩⟩⟩⟩⟩⟩, ⟨trivial, ⟨SubB.refl _, ⟨trivial, ⟨SubB.refl _, trivial⟩⟩⟩⟩⟩, h11⟩⟩⟩) (k10 x11))⟩) k8)⟩⟩) h7)⟩)⟩⟩⟩) (h2 x3)), (fun x3 => (fun h3 => ⟨trivial, ⟨⟨⟨trivial, trivial⟩, trivial⟩, (And.elim (fun h6 k6 => ⟨(And.elim (fun h7 k7 => ⟨h7, (And.elim (fun h8 k8 => ⟨⟨h8, rfl⟩, (And.elim (fun h9 k9 => ⟨h9, k9⟩) k8)⟩) k7)⟩) h6), (And.elim (fun h7 k7 => ⟨(And.elim (fun h8 k8 => ⟨⟨h8, rfl⟩, (And.elim (fun h9 k9 => ⟨h9, (fun x10 => (fun h10 => (fun x11 => (fun h11 => h11) (h10 x11))) (k9 x10))⟩) k8)⟩) h7), ⟨trivial, ⟨trivial, ⟨⟨⟨trivial, ⟨Sub.refl _, trivial⟩⟩, trivial⟩, ⟨k7, trivial⟩⟩⟩⟩⟩) k6)⟩) h3)⟩⟩) (k2 x3))⟩) h)⟩⟩)
theorem r49_2 (out_n : Nat) (b : Int) (to : Int) (b0f : Nat → Int) (b1n : Nat) (b1f : Nat → Int) (res : AV)
    (h : (decide (to < (255 : Int)) = true →
    ∃ (r : Bool),
      Ok Proofs.Try.prog (83 : Nat)
          [AV.ar (4 : Nat) (1 : Nat) fun (i : Nat) => AV.sc (Value.int IntKind.u64 (b0f i)),
            AV.sc (Value.int IntKind.u8 (IntKind.u8.wrap (IntKind.i64.wrap (to + (1 : Int)))))]
          [] (AV.sc (Value.bool r)) [] ∧
        (r = true → L49_2 out_n b (IntKind.i64.wrap (to + (1 : Int))) b0f b1n b1f res) ∧
          (r = false →
            ∃ (r : Nat × Nat × (Nat → Int)),
              Ok Proofs.Try.prog (84 : Nat) [AV.rf (2000 : Nat) (1 : Nat) (0 : Nat) out_n, AV.sc (Value.int IntKind.u8 (IntKind.u8.wrap b))]
                  [((2000 : Nat), (5 : Nat), AV.ar b1n (1 : Nat) fun (i : Nat) => AV.sc (Value.int IntKind.u8 (b1f i)))]
                  (AV.rf (1000 : Nat) (1 : Nat) (0 : Nat) r.fst)
                  [((1000 : Nat), (5 : Nat), AV.ar r.snd.fst (1 : Nat) fun (i0 : Nat) => AV.sc (Value.int IntKind.u8 (r.snd.snd i0)))] ∧
                (decide (to ≥ IntKind.i64.wrap (b + (2 : Int))) = true →
                    (r.fst ≤ r.snd.fst ∧
                        (0 : Nat) + (1 : Nat) ≤ (1 : Nat) ∧ (r.fst + (1 : Nat)) * (1 : Nat) ≤ (140737488355328 : Nat) ∧ r.fst + (1 : Nat) ≤ maxLen) ∧
                      ∃ (r_1 : Nat × Nat × (Nat → Int)),
                        Ok Proofs.Try.prog (84 : Nat)
                            [AV.rf (2000 : Nat) (1 : Nat) (0 : Nat) (r.fst + (1 : Nat)), AV.sc (Value.int IntKind.u8 (IntKind.u8.wrap to))]
                            [((2000 : Nat), (5 : Nat),
                                AV.ar (r.fst + (1 : Nat)) (1 : Nat) fun (i : Nat) =>
                                  AV.sc
                                    (Value.int IntKind.u8
                                      (bif i.blt r.fst then r.snd.snd i else bif ((0 : Nat) + (i - r.fst)).beq (0 : Nat) then (45 : Int) else (0 : Int))))]
                            (AV.rf (1000 : Nat) (1 : Nat) (0 : Nat) r_1.fst)
                            [((1000 : Nat), (5 : Nat), AV.ar r_1.snd.fst (1 : Nat) fun (i0 : Nat) => AV.sc (Value.int IntKind.u8 (r_1.snd.snd i0)))] ∧
                          L49_3 r_1.fst to b0f r_1.snd.fst r_1.snd.snd res) ∧
                  (decide (to ≥ IntKind.i64.wrap (b + (2 : Int))) = false → L49_3 r.fst b b0f r.snd.fst r.snd.snd res))) ∧
  (decide (to < (255 : Int)) = !true →
    ∃ (r : Nat × Nat × (Nat → Int)),
      Ok Proofs.Try.prog (84 : Nat) [AV.rf (2000 : Nat) (1 : Nat) (0 : Nat) out_n, AV.sc (Value.int IntKind.u8 (IntKind.u8.wrap b))]
          [((2000 : Nat), (5 : Nat), AV.ar b1n (1 : Nat) fun (i : Nat) => AV.sc (Value.int IntKind.u8 (b1f i)))] (AV.rf (1000 : Nat) (1 : Nat) (0 : Nat) r.fst)
          [((1000 : Nat), (5 : Nat), AV.ar r.snd.fst (1 : Nat) fun (i0 : Nat) => AV.sc (Value.int IntKind.u8 (r.snd.snd i0)))] ∧
        (decide (to ≥ IntKind.i64.wrap (b + (2 : Int))) = true →
            (r.fst ≤ r.snd.fst ∧ (0 : Nat) + (1 : Nat) ≤ (1 : Nat) ∧ (r.fst + (1 : Nat)) * (1 : Nat) ≤ (140737488355328 : Nat) ∧ r.fst + (1 : Nat) ≤ maxLen) ∧
              ∃ (r_1 : Nat × Nat × (Nat → Int)),
                Ok Proofs.Try.prog (84 : Nat) [AV.rf (2000 : Nat) (1 : Nat) (0 : Nat) (r.fst + (1 : Nat)), AV.sc (Value.int IntKind.u8 (IntKind.u8.wrap to))]
                    [((2000 : Nat), (5 : Nat),
                        AV.ar (r.fst + (1 : Nat)) (1 : Nat) fun (i : Nat) =>
                          AV.sc
                            (Value.int IntKind.u8
                              (bif i.blt r.fst then r.snd.snd i else bif ((0 : Nat) + (i - r.fst)).beq (0 : Nat) then (45 : Int) else (0 : Int))))]
                    (AV.rf (1000 : Nat) (1 : Nat) (0 : Nat) r_1.fst)
                    [((1000 : Nat), (5 : Nat), AV.ar r_1.snd.fst (1 : Nat) fun (i0 : Nat) => AV.sc (Value.int IntKind.u8 (r_1.snd.snd i0)))] ∧
                  L49_3 r_1.fst to b0f r_1.snd.fst r_1.snd.snd res) ∧
          (decide (to ≥ IntKind.i64.wrap (b + (2 : Int))) = false → L49_3 r.fst b b0f r.snd.fst r.snd.snd res))) :
    L49_2 out_n b to b0f b1n b1f res :=
  rule Go.Am.Seat.tabOk 49 [] Go.Proofs.Try.f49 hf49 [1, 1, 1, 0, 1, 0, 0, 1, 0, 0, 1, 1, 0, 0, 0] (s49_2 out_n b to b0f b1n b1f) (m49_2 out_n b to b0f b1n b1f) res [] 400
    ((Orc.call [] [] (fun (r83 : Bool) => AV.sc (Value.bool r83)) (fun (r83 : Bool) => []) fun (r83 : Bool) =>
              (Orc.cut (nat_lit 5) (s49_2 out_n b (IntKind.i64.wrap (to + (1 : Int))) b0f b1n b1f)
                    (m49_2 out_n b (IntKind.i64.wrap (to + (1 : Int))) b0f b1n b1f) [((1000 : Nat), some (1000 : Nat)), ((1001 : Nat), some (1001 : Nat))]).br
                (Orc.call [((1001 : Nat), (2000 : Nat))] [((100390 : Nat), (1000 : Nat))]
                  (fun (r84 : Nat × Nat × (Nat → Int)) => AV.rf (1000 : Nat) (1 : Nat) (0 : Nat) r84.fst)
                  (fun (r84 : Nat × Nat × (Nat → Int)) =>
                    [((1000 : Nat), (5 : Nat), AV.ar r84.snd.fst (1 : Nat) fun (i0 : Nat) => AV.sc (Value.int IntKind.u8 (r84.snd.snd i0)))])
                  fun (r84 : Nat × Nat × (Nat → Int)) =>
                  (Orc.call [((46 : Nat), (2000 : Nat))] [((100490 : Nat), (1000 : Nat))]
                        (fun (r84 : Nat × Nat × (Nat → Int)) => AV.rf (1000 : Nat) (1 : Nat) (0 : Nat) r84.fst)
                        (fun (r84 : Nat × Nat × (Nat → Int)) =>
                          [((1000 : Nat), (5 : Nat), AV.ar r84.snd.fst (1 : Nat) fun (i0 : Nat) => AV.sc (Value.int IntKind.u8 (r84.snd.snd i0)))])
                        fun (r84 : Nat × Nat × (Nat → Int)) =>
                        Orc.cut (nat_lit 2) (s49_3 r84.fst to b0f r84.snd.fst r84.snd.snd) (m49_3 r84.fst to b0f r84.snd.fst r84.snd.snd)
                          [((1000 : Nat), some (1000 : Nat)), ((1001 : Nat), some (100490 : Nat))]).br
                    (Orc.cut (nat_lit 2) (s49_3 r84.fst b b0f r84.snd.fst r84.snd.snd) (m49_3 r84.fst b b0f r84.snd.fst r84.snd.snd)
                      [((1000 : Nat), some (1000 : Nat)), ((1001 : Nat), some (100390 : Nat))]))).yes.yes.yes.yes.br
  (Orc.call [((1001 : Nat), (2000 : Nat))] [((100390 : Nat), (1000 : Nat))]
              (fun (r84 : Nat × Nat × (Nat → Int)) => AV.rf (1000 : Nat) (1 : Nat) (0 : Nat) r84.fst)
              (fun (r84 : Nat × Nat × (Nat → Int)) =>
                [((1000 : Nat), (5 : Nat), AV.ar r84.snd.fst (1 : Nat) fun (i0 : Nat) => AV.sc (Value.int IntKind.u8 (r84.snd.snd i0)))])
              fun (r84 : Nat × Nat × (Nat → Int)) =>
              (Orc.call [((46 : Nat), (2000 : Nat))] [((100490 : Nat), (1000 : Nat))]
                    (fun (r84 : Nat × Nat × (Nat → Int)) => AV.rf (1000 : Nat) (1 : Nat) (0 : Nat) r84.fst)
                    (fun (r84 : Nat × Nat × (Nat → Int)) =>
                      [((1000 : Nat), (5 : Nat), AV.ar r84.snd.fst (1 : Nat) fun (i0 : Nat) => AV.sc (Value.int IntKind.u8 (r84.snd.snd i0)))])
                    fun (r84 : Nat × Nat × (Nat → Int)) =>
                    Orc.cut (nat_lit 2) (s49_3 r84.fst to b0f r84.snd.fst r84.snd.snd) (m49_3 r84.fst to b0f r84.snd.fst r84.snd.snd)
                      [((1000 : Nat), some (1000 : Nat)), ((1001 : Nat), some (100490 : Nat))]).br
                (Orc.cut (nat_lit 2) (s49_3 r84.fst b b0f r84.snd.fst r84.snd.snd) (m49_3 r84.fst b b0f r84.snd.fst r84.snd.snd)
                  [((1000 : Nat), some (1000 : Nat)), ((1001 : Nat), some (100390 : Nat))])).no.no.no.no.no) _ _ (by kernel_rfl) (by kernel_rfl) (show True ∧
  True ∧
    True ∧
      (decide (to < (255 : Int)) = true →
          ((0 : Nat) = (0 : Nat) ∧ True) ∧
            true = true ∧
              True ∧
                true = true ∧
                  True ∧
                    true = true ∧
                      True ∧
                        true = true ∧
                          ∃ (r : Bool),
                            ((True ∧ True ∧ True) ∧
                                True ∧
                                  Ok Proofs.Try.prog (83 : Nat)
                                    [AV.ar (4 : Nat) (1 : Nat) fun (i : Nat) => AV.sc (Value.int IntKind.u64 (b0f i)),
                                      AV.sc (Value.int IntKind.u8 (IntKind.u8.wrap (IntKind.i64.wrap (to + (1 : Int)))))]
                                    [] (AV.sc (Value.bool r)) []) ∧
                              True ∧
                                (r = true →
                                    True ∧
                                      True ∧
                                        True ∧
                                          ((True ∧
                                                Sub (AV.pt (1000 : Nat) [] (0 : Nat)) (AV.pt (1000 : Nat) [] (0 : Nat)) ∧
                                                  True ∧
                                                    Sub (AV.rf (1001 : Nat) (1 : Nat) (0 : Nat) out_n) (AV.rf (1001 : Nat) (1 : Nat) (0 : Nat) out_n) ∧
                                                      True ∧
                                                        Sub (AV.sc (Value.int IntKind.i64 b)) (AV.sc (Value.int IntKind.i64 b)) ∧
                                                          True ∧
                                                            Sub (AV.sc (Value.int IntKind.i64 (IntKind.i64.wrap (to + (1 : Int)))))
                                                                (AV.sc (Value.int IntKind.i64 (IntKind.i64.wrap (to + (1 : Int))))) ∧
                                                              True) ∧
                                              True ∧
                                                SubB (AV.ar (4 : Nat) (1 : Nat) fun (i0 : Nat) => AV.sc (Value.int IntKind.u64 (b0f i0)))
                                                    (AV.ar (4 : Nat) (1 : Nat) fun (i0 : Nat) => AV.sc (Value.int IntKind.u64 (b0f i0))) ∧
                                                  True ∧
                                                    SubB (AV.ar b1n (1 : Nat) fun (i0 : Nat) => AV.sc (Value.int IntKind.u8 (b1f i0)))
                                                        (AV.ar b1n (1 : Nat) fun (i0 : Nat) => AV.sc (Value.int IntKind.u8 (b1f i0))) ∧
                                                      True) ∧
                                            L49_2 out_n b (IntKind.i64.wrap (to + (1 : Int))) b0f b1n b1f res) ∧
                                  (r = false →
                                    True ∧
                                      True ∧
                                        True ∧
                                          ∃ (r : Nat × Nat × (Nat → Int)),
                                            ((True ∧ True ∧ True) ∧
                                                (True ∧ True) ∧
                                                  Ok Proofs.Try.prog (84 : Nat)
                                                    [AV.rf (2000 : Nat) (1 : Nat) (0 : Nat) out_n, AV.sc (Value.int IntKind.u8 (IntKind.u8.wrap b))]
                                                    [((2000 : Nat), (5 : Nat), AV.ar b1n (1 : Nat) fun (i : Nat) => AV.sc (Value.int IntKind.u8 (b1f i)))]
                                                    (AV.rf (1000 : Nat) (1 : Nat) (0 : Nat) r.fst)
                                                    [((1000 : Nat), (5 : Nat),
                                                        AV.ar r.snd.fst (1 : Nat) fun (i0 : Nat) => AV.sc (Value.int IntKind.u8 (r.snd.snd i0)))]) ∧
                                              True ∧
                                                True ∧
                                                  True ∧
                                                    True ∧
                                                      True ∧
                                                        (decide (to ≥ IntKind.i64.wrap (b + (2 : Int))) = true →
                                                            True ∧
                                                              ((True ∧ True) ∧ True) ∧
                                                                (r.fst ≤ r.snd.fst ∧
                                                                    ((0 : Nat) + (1 : Nat) ≤ (1 : Nat) ∧ (1 : Nat) = (1 : Nat)) ∧
                                                                      (r.fst + (1 : Nat)) * (1 : Nat) ≤ (140737488355328 : Nat) ∧ r.fst + (1 : Nat) ≤ maxLen) ∧
                                                                  True ∧
                                                                    True ∧
                                                                      ∃ (r_1 : Nat × Nat × (Nat → Int)),
                                                                        ((True ∧ True ∧ True) ∧
                                                                            (True ∧ True) ∧
                                                                              Ok Proofs.Try.prog (84 : Nat)
                                                                                [AV.rf (2000 : Nat) (1 : Nat) (0 : Nat) (r.fst + (1 : Nat)),
                                                                                  AV.sc (Value.int IntKind.u8 (IntKind.u8.wrap to))]
                                                                                [((2000 : Nat), (5 : Nat),
                                                                                    AV.ar (r.fst + (1 : Nat)) (1 : Nat) fun (i : Nat) =>
                                                                                      AV.sc
                                                                                        (Value.int IntKind.u8
                                                                                          (bif i.blt r.fst then r.snd.snd i
                                                                                          else
                                                                                            bif ((0 : Nat) + (i - r.fst)).beq (0 : Nat) then (45 : Int)
                                                                                            else (0 : Int))))]
                                                                                (AV.rf (1000 : Nat) (1 : Nat) (0 : Nat) r_1.fst)
                                                                                [((1000 : Nat), (5 : Nat),
                                                                                    AV.ar r_1.snd.fst (1 : Nat) fun (i0 : Nat) =>
                                                                                      AV.sc (Value.int IntKind.u8 (r_1.snd.snd i0)))]) ∧
                                                                          True ∧
                                                                            True ∧
                                                                              True ∧
                                                                                ((True ∧
                                                                                      Sub (AV.pt (1000 : Nat) [] (0 : Nat)) (AV.pt (1000 : Nat) [] (0 : Nat)) ∧
                                                                                        True ∧
                                                                                          Sub (AV.rf (1001 : Nat) (1 : Nat) (0 : Nat) r_1.fst)
                                                                                              (AV.rf (1001 : Nat) (1 : Nat) (0 : Nat) r_1.fst) ∧
                                                                                            True ∧
                                                                                              Sub (AV.sc (Value.int IntKind.i64 to))
                                                                                                  (AV.sc (Value.int IntKind.i64 to)) ∧
                                                                                                True) ∧
                                                                                    True ∧
                                                                                      SubB
                                                                                          (AV.ar (4 : Nat) (1 : Nat) fun (i0 : Nat) =>
                                                                                            AV.sc (Value.int IntKind.u64 (b0f i0)))
                                                                                          (AV.ar (4 : Nat) (1 : Nat) fun (i0 : Nat) =>
                                                                                            AV.sc (Value.int IntKind.u64 (b0f i0))) ∧
                                                                                        True ∧
                                                                                          SubB
                                                                                              (AV.ar r_1.snd.fst (1 : Nat) fun (i0 : Nat) =>
                                                                                                AV.sc (Value.int IntKind.u8 (r_1.snd.snd i0)))
                                                                                              (AV.ar r_1.snd.fst (1 : Nat) fun (i0 : Nat) =>
                                                                                                AV.sc (Value.int IntKind.u8 (r_1.snd.snd i0))) ∧
                                                                                            True) ∧
                                                                                  L49_3 r_1.fst to b0f r_1.snd.fst r_1.snd.snd res) ∧
                                                          (decide (to ≥ IntKind.i64.wrap (b + (2 : Int))) = false →
                                                            ((True ∧
                                                                  Sub (AV.pt (1000 : Nat) [] (0 : Nat)) (AV.pt (1000 : Nat) [] (0 : Nat)) ∧
                                                                    True ∧
                                                                      Sub (AV.rf (1001 : Nat) (1 : Nat) (0 : Nat) r.fst)
                                                                          (AV.rf (1001 : Nat) (1 : Nat) (0 : Nat) r.fst) ∧
                                                                        True ∧ Sub (AV.sc (Value.int IntKind.i64 b)) (AV.sc (Value.int IntKind.i64 b)) ∧ True) ∧
                                                                True ∧
                                                                  SubB (AV.ar (4 : Nat) (1 : Nat) fun (i0 : Nat) => AV.sc (Value.int IntKind.u64 (b0f i0)))
                                                                      (AV.ar (4 : Nat) (1 : Nat) fun (i0 : Nat) => AV.sc (Value.int IntKind.u64 (b0f i0))) ∧
                                                                    True ∧
                                                                      SubB
                                                                          (AV.ar r.snd.fst (1 : Nat) fun (i0 : Nat) =>
                                                                            AV.sc (Value.int IntKind.u8 (r.snd.snd i0)))
                                                                          (AV.ar r.snd.fst (1 : Nat) fun (i0 : Nat) =>
                                                                            AV.sc (Value.int IntKind.u8 (r.snd.snd i0))) ∧
                                                                        True) ∧
                                                              L49_3 r.fst b b0f r.snd.fst r.snd.snd res))) ∧
        (decide (to < (255 : Int)) = !true →
          true = true ∧
            (!true) = !true ∧
              true = true ∧
                (!true) = !true ∧
                  true = true ∧
                    (!true) = !true ∧
                      true = true ∧
                        (!true) = !true ∧
                          true = true ∧
                            True ∧
                              false = false ∧
                                True ∧
                                  True ∧
                                    True ∧
                                      ∃ (r : Nat × Nat × (Nat → Int)),
                                        ((True ∧ True ∧ True) ∧
                                            (True ∧ True) ∧
                                              Ok Proofs.Try.prog (84 : Nat)
                                                [AV.rf (2000 : Nat) (1 : Nat) (0 : Nat) out_n, AV.sc (Value.int IntKind.u8 (IntKind.u8.wrap b))]
                                                [((2000 : Nat), (5 : Nat), AV.ar b1n (1 : Nat) fun (i : Nat) => AV.sc (Value.int IntKind.u8 (b1f i)))]
                                                (AV.rf (1000 : Nat) (1 : Nat) (0 : Nat) r.fst)
                                                [((1000 : Nat), (5 : Nat),
                                                    AV.ar r.snd.fst (1 : Nat) fun (i0 : Nat) => AV.sc (Value.int IntKind.u8 (r.snd.snd i0)))]) ∧
                                          True ∧
                                            True ∧
                                              True ∧
                                                True ∧
                                                  True ∧
                                                    (decide (to ≥ IntKind.i64.wrap (b + (2 : Int))) = true →
                                                        True ∧
                                                          ((True ∧ True) ∧ True) ∧
                                                            (r.fst ≤ r.snd.fst ∧
                                                                ((0 : Nat) + (1 : Nat) ≤ (1 : Nat) ∧ (1 : Nat) = (1 : Nat)) ∧
                                                                  (r.fst + (1 : Nat)) * (1 : Nat) ≤ (140737488355328 : Nat) ∧ r.fst + (1 : Nat) ≤ maxLen) ∧
                                                              True ∧
                                                                True ∧
                                                                  ∃ (r_1 : Nat × Nat × (Nat → Int)),
                                                                    ((True ∧ True ∧ True) ∧
                                                                        (True ∧ True) ∧
                                                                          Ok Proofs.Try.prog (84 : Nat)
                                                                            [AV.rf (2000 : Nat) (1 : Nat) (0 : Nat) (r.fst + (1 : Nat)),
                                                                              AV.sc (Value.int IntKind.u8 (IntKind.u8.wrap to))]
                                                                            [((2000 : Nat), (5 : Nat),
                                                                                AV.ar (r.fst + (1 : Nat)) (1 : Nat) fun (i : Nat) =>
                                                                                  AV.sc
                                                                                    (Value.int IntKind.u8
                                                                                      (bif i.blt r.fst then r.snd.snd i
                                                                                      else
                                                                                        bif ((0 : Nat) + (i - r.fst)).beq (0 : Nat) then (45 : Int)
                                                                                        else (0 : Int))))]
                                                                            (AV.rf (1000 : Nat) (1 : Nat) (0 : Nat) r_1.fst)
                                                                            [((1000 : Nat), (5 : Nat),
                                                                                AV.ar r_1.snd.fst (1 : Nat) fun (i0 : Nat) =>
                                                                                  AV.sc (Value.int IntKind.u8 (r_1.snd.snd i0)))]) ∧
                                                                      True ∧
                                                                        True ∧
                                                                          True ∧
                                                                            ((True ∧
                                                                                  Sub (AV.pt (1000 : Nat) [] (0 : Nat)) (AV.pt (1000 : Nat) [] (0 : Nat)) ∧
                                                                                    True ∧
                                                                                      Sub (AV.rf (1001 : Nat) (1 : Nat) (0 : Nat) r_1.fst)
                                                                                          (AV.rf (1001 : Nat) (1 : Nat) (0 : Nat) r_1.fst) ∧
                                                                                        True ∧
                                                                                          Sub (AV.sc (Value.int IntKind.i64 to))
                                                                                              (AV.sc (Value.int IntKind.i64 to)) ∧
                                                                                            True) ∧
                                                                                True ∧
                                                                                  SubB
                                                                                      (AV.ar (4 : Nat) (1 : Nat) fun (i0 : Nat) =>
                                                                                        AV.sc (Value.int IntKind.u64 (b0f i0)))
                                                                                      (AV.ar (4 : Nat) (1 : Nat) fun (i0 : Nat) =>
                                                                                        AV.sc (Value.int IntKind.u64 (b0f i0))) ∧
                                                                                    True ∧
                                                                                      SubB
                                                                                          (AV.ar r_1.snd.fst (1 : Nat) fun (i0 : Nat) =>
                                                                                            AV.sc (Value.int IntKind.u8 (r_1.snd.snd i0)))
                                                                                          (AV.ar r_1.snd.fst (1 : Nat) fun (i0 : Nat) =>
                                                                                            AV.sc (Value.int IntKind.u8 (r_1.snd.snd i0))) ∧
                                                                                        True) ∧
                                                                              L49_3 r_1.fst to b0f r_1.snd.fst r_1.snd.snd res) ∧
                                                      (decide (to ≥ IntKind.i64.wrap (b + (2 : Int))) = false →
                                                        ((True ∧
                                                              Sub (AV.pt (1000 : Nat) [] (0 : Nat)) (AV.pt (1000 : Nat) [] (0 : Nat)) ∧
                                                                True ∧
                                                                  Sub (AV.rf (1001 : Nat) (1 : Nat) (0 : Nat) r.fst)
                                                                      (AV.rf (1001 : Nat) (1 : Nat) (0 : Nat) r.fst) ∧
                                                                    True ∧ Sub (AV.sc (Value.int IntKind.i64 b)) (AV.sc (Value.int IntKind.i64 b)) ∧ True) ∧
                                                            True ∧
                                                              SubB (AV.ar (4 : Nat) (1 : Nat) fun (i0 : Nat) => AV.sc (Value.int IntKind.u64 (b0f i0)))
                                                                  (AV.ar (4 : Nat) (1 : Nat) fun (i0 : Nat) => AV.sc (Value.int IntKind.u64 (b0f i0))) ∧
                                                                True ∧
                                                                  SubB (AV.ar r.snd.fst (1 : Nat) fun (i0 : Nat) => AV.sc (Value.int IntKind.u8 (r.snd.snd i0)))
                                                                      (AV.ar r.snd.fst (1 : Nat) fun (i0 : Nat) =>
                                                                        AV.sc (Value.int IntKind.u8 (r.snd.snd i0))) ∧
                                                                    True) ∧
                                                          L49_3 r.fst b b0f r.snd.fst r.snd.snd res)) from
    ⟨trivial, ⟨trivial, ⟨trivial, (And.elim (fun h3 k3 => ⟨(fun x4 => (fun h4 => ⟨⟨rfl, trivial⟩, ⟨rfl, ⟨trivial, ⟨rfl, ⟨trivial, ⟨rfl, ⟨trivial, ⟨rfl, (Exists.elim h4 fun x13 h13 => ⟨x13, (And.elim (fun h14 k14 => ⟨⟨⟨trivial, ⟨trivial, trivial⟩⟩, ⟨trivial, h14⟩⟩, ⟨trivial, (And.elim (fun h16 k16 => ⟨(fun x17 => (fun h17 => ⟨trivial, ⟨trivial, ⟨trivial, ⟨⟨⟨trivial, ⟨Sub.refl _, ⟨trivial, ⟨Sub.refl _, ⟨trivial, ⟨Sub.refl _, ⟨trivial, ⟨Sub.refl _, trivial⟩⟩⟩⟩⟩⟩⟩⟩, ⟨trivial, ⟨SubB.refl _, ⟨trivial, ⟨SubB.refl _, trivial⟩⟩⟩⟩⟩, h17⟩⟩⟩⟩) (h16 x17)), (fun x17 => (fun h17 => ⟨trivial, ⟨trivial, ⟨trivial, (Exists.elim h17 fun x21 h21 => ⟨x21, (And.elim (fun h22 k22 => ⟨⟨⟨trivial, ⟨trivial, trivial⟩⟩, ⟨⟨trivial, trivial⟩, h22⟩⟩, ⟨trivial, ⟨trivial, ⟨trivial, ⟨trivial, ⟨trivial, (And.elim (fun h28 k28 => ⟨(fun x29 => (fun h29 => ⟨trivial, ⟨⟨⟨trivial, trivial⟩, trivial⟩, (And.elim (fun h32 k32 => ⟨(And.elim (fun h33 k33 => ⟨h33, (And.elim (fun h34 k34 => ⟨⟨h34, rfl⟩, (And.elim (fun h35 k35 => ⟨h35, k35⟩) k34)⟩) k33)⟩) h32), ⟨trivial, ⟨trivial, (Exists.elim k32 fun x35 h35 => ⟨x35, (And.elim (fun h36 k36 => ⟨⟨⟨trivial, ⟨trivial, trivial⟩⟩, ⟨⟨trivial, trivial⟩, h36⟩⟩, ⟨trivial, ⟨trivial, ⟨trivial, ⟨⟨⟨trivial, ⟨Sub.refl _, ⟨trivial, ⟨Sub.refl _, ⟨trivial, ⟨Sub.refl _, trivial⟩⟩⟩⟩⟩⟩, ⟨trivial, ⟨SubB.refl _, ⟨trivial, ⟨SubB.refl _, trivial⟩⟩⟩⟩⟩, k36⟩⟩⟩⟩⟩) h35)⟩)⟩⟩⟩) h29)⟩⟩) (h28 x29)), (fun x29 => (fun h29 => ⟨⟨⟨trivial, ⟨Sub.refl _, ⟨trivial, ⟨Sub.refl _, ⟨trivial, ⟨Sub.refl _, trivial⟩⟩⟩⟩⟩⟩, ⟨trivial, ⟨SubB.refl _, ⟨trivial, ⟨SubB.refl _, trivial⟩⟩⟩⟩⟩, h29⟩) (k28 x29))⟩) k22)⟩⟩⟩⟩⟩⟩) h21)⟩)⟩⟩⟩) (k16 x17))⟩) k14)⟩⟩) h13)⟩)⟩⟩⟩⟩⟩⟩⟩⟩) (h3 x4)), (fun x4 => (fun h4 => ⟨rfl, ⟨rfl, ⟨rfl, ⟨rfl, ⟨rfl, ⟨rfl, ⟨rfl, ⟨rfl, ⟨rfl, ⟨trivial, ⟨rfl, ⟨trivial, ⟨trivial, ⟨trivial, (Exists.elim h4 fun x19 h19 => ⟨x19, (And.elim (fun h20 k20 => ⟨⟨⟨trivial, ⟨trivial, trivial⟩⟩, ⟨⟨trivial, trivial⟩, h20⟩⟩, ⟨trivial, ⟨trivial, ⟨trivial, ⟨trivial, ⟨trivial, (And.elim (fun h26 k26 => ⟨(fun x27 => (fun h27 => ⟨trivial, ⟨⟨⟨trivial, trivial⟩, trivial⟩, (And.elim (fun h30 k30 => ⟨(And.elim (fun h31 k31 => ⟨h31, (And.elim (fun h32 k32 => ⟨⟨h32, rfl⟩, (And.elim (fun h33 k33 => ⟨h33, k33⟩) k32)⟩) k31)⟩) h30), ⟨trivial, ⟨trivial, (Exists.elim k30 fun x33 h33 => ⟨x33, (And.elim (fun h34 k34 => ⟨⟨⟨trivial, ⟨trivial, trivial⟩⟩, ⟨⟨trivial, trivial⟩, h34⟩⟩, ⟨trivial, ⟨trivial, ⟨trivial, ⟨⟨⟨trivial, ⟨Sub.refl _, ⟨trivial, ⟨Sub.refl _, ⟨trivial, ⟨Sub.refl _, trivial⟩⟩⟩⟩⟩⟩, ⟨trivial, ⟨SubB.refl _, ⟨trivial, ⟨SubB.refl _, trivial⟩⟩⟩⟩⟩, k34⟩⟩⟩⟩⟩) h33)⟩)⟩⟩⟩) h27)⟩⟩) (h26 x27)), (fun x27 => (fun h27 => ⟨⟨⟨trivial, ⟨Sub.refl _, ⟨trivial, ⟨Sub.refl _, ⟨trivial, ⟨Sub.refl _, trivial⟩⟩⟩⟩⟩⟩, ⟨trivial, ⟨SubB.refl _, ⟨trivial, ⟨SubB.refl _, trivial⟩⟩⟩⟩⟩, h27⟩) (k26 x27))⟩) k20)⟩⟩⟩⟩⟩⟩) h19)⟩)⟩⟩⟩⟩⟩⟩⟩⟩⟩⟩⟩⟩⟩⟩) (k3 x4))⟩) h)⟩⟩⟩)
theorem r49_3 (out_n : Nat) (b : Int) (b0f : Nat → Int) (b1n : Nat) (b1f : Nat → Int) (res : AV)
    (h : L49_1 out_n (IntKind.i64.wrap (b + (1 : Int))) b0f b1n b1f res) :
    L49_3 out_n b b0f b1n b1f res :=
  rule Go.Am.Seat.tabOk 49 [] Go.Proofs.Try.f49 hf49 [1, 1, 1, 0, 1, 0, 0, 1, 1] (s49_3 out_n b b0f b1n b1f) (m49_3 out_n b b0f b1n b1f) res [] 400
    (Orc.cut (nat_lit 2) (s49_1 out_n (IntKind.i64.wrap (b + (1 : Int))) b0f b1n b1f) (m49_1 out_n (IntKind.i64.wrap (b + (1 : Int))) b0f b1n b1f)
  [((1000 : Nat), some (1000 : Nat)), ((1001 : Nat), some (1001 : Nat))]) _ _ (by kernel_rfl) (by kernel_rfl) (show True ∧
  True ∧
    True ∧
      ((True ∧
            Sub (AV.pt (1000 : Nat) [] (0 : Nat)) (AV.pt (1000 : Nat) [] (0 : Nat)) ∧
              True ∧
                Sub (AV.rf (1001 : Nat) (1 : Nat) (0 : Nat) out_n) (AV.rf (1001 : Nat) (1 : Nat) (0 : Nat) out_n) ∧
                  True ∧
                    Sub (AV.sc (Value.int IntKind.i64 (IntKind.i64.wrap (b + (1 : Int))))) (AV.sc (Value.int IntKind.i64 (IntKind.i64.wrap (b + (1 : Int))))) ∧
                      True) ∧
          True ∧
            SubB (AV.ar (4 : Nat) (1 : Nat) fun (i0 : Nat) => AV.sc (Value.int IntKind.u64 (b0f i0)))
                (AV.ar (4 : Nat) (1 : Nat) fun (i0 : Nat) => AV.sc (Value.int IntKind.u64 (b0f i0))) ∧
              True ∧
                SubB (AV.ar b1n (1 : Nat) fun (i0 : Nat) => AV.sc (Value.int IntKind.u8 (b1f i0)))
                    (AV.ar b1n (1 : Nat) fun (i0 : Nat) => AV.sc (Value.int IntKind.u8 (b1f i0))) ∧
                  True) ∧
        L49_1 out_n (IntKind.i64.wrap (b + (1 : Int))) b0f b1n b1f res from
    ⟨trivial, ⟨trivial, ⟨trivial, ⟨⟨⟨trivial, ⟨Sub.refl _, ⟨trivial, ⟨Sub.refl _, ⟨trivial, ⟨Sub.refl _, trivial⟩⟩⟩⟩⟩⟩, ⟨trivial, ⟨SubB.refl _, ⟨trivial, ⟨SubB.refl _, trivial⟩⟩⟩⟩⟩, h⟩⟩⟩⟩)
theorem hf50 : Go.Proofs.Try.prog.funcs[50]? = some Go.Proofs.Try.f50 := by kernel_rfl
abbrev s50_e (ff : Nat → Bool) : List (Nat × AV) := [(0, (.ar 256 1 (fun i0 => (.sc (.bool (ff i0))))))]
abbrev m50_e (ff : Nat → Bool) : List (Nat × Nat × AV) := []
def L50_e (ff : Nat → Bool) (res : AV) : Prop := Goes ⟨Go.Proofs.Try.prog, 50, [], res, []⟩ (place Go.Proofs.Try.f50 []) (s50_e ff) (m50_e ff)
theorem a50_e (ff : Nat → Bool) (res : AV) (h : (∀ slot, fact (look .undef (s50_e ff) slot)) → L50_e ff res) : L50_e ff res :=
  assumeRule 50 [] Go.Proofs.Try.f50 hf50 [] (s50_e ff) (m50_e ff) res [] _ (by kernel_rfl) h
abbrev s50_0 (b : Int) (b0f : Nat → Bool) (b1f : Nat → Bool) : List (Nat × AV) := [(1, (.pt 1000 [] 0)), (3, (.pt 1001 [] 0)), (4, (.sc (.int .i64 b)))]
abbrev m50_0 (b : Int) (b0f : Nat → Bool) (b1f : Nat → Bool) : List (Nat × Nat × AV) := [(1000, 89, (.ar 256 1 (fun i0 => (.sc (.bool (b0f i0)))))), (1001, 89, (.ar 256 1 (fun i0 => (.sc (.bool (b1f i0))))))]
def L50_0 (b : Int) (b0f : Nat → Bool) (b1f : Nat → Bool) (res : AV) : Prop := Goes ⟨Go.Proofs.Try.prog, 50, [], res, []⟩ (place Go.Proofs.Try.f50 [1, 1, 1, 0, 1, 0, 0]) (s50_0 b b0f b1f) (m50_0 b b0f b1f)
theorem a50_0 (b : Int) (b0f : Nat → Bool) (b1f : Nat → Bool) (res : AV) (h : (∀ slot, fact (look .undef (s50_0 b b0f b1f) slot)) → L50_0 b b0f b1f res) : L50_0 b b0f b1f res :=
  assumeRule 50 [] Go.Proofs.Try.f50 hf50 [1, 1, 1, 0, 1, 0, 0] (s50_0 b b0f b1f) (m50_0 b b0f b1f) res [] _ (by kernel_rfl) h
theorem o50 (ff : Nat → Bool) (res : AV) (hnew : newOnly res) (h : L50_e ff res) : Ok Go.Proofs.Try.prog 50 [(.ar 256 1 (fun i0 => (.sc (.bool (ff i0)))))] [] res [] :=
  okRule2 50 Go.Proofs.Try.f50 hf50 [(.ar 256 1 (fun i0 => (.sc (.bool (ff i0)))))] [] res [] [] rfl (by kernel_rfl) (by kernel_rfl) (by kernel_rfl) ⟨hnew, by simp⟩ (L50_e ff res) (by kernel_rfl) h
theorem r50_e (ff : Nat → Bool) (res : AV)
    (h : ∃ (r : Int),
  Ok Proofs.Try.prog (85 : Nat) [AV.ar (256 : Nat) (1 : Nat) fun (i : Nat) => AV.sc (Value.bool (ff i))] [] (AV.sc (Value.int IntKind.i64 r)) [] ∧
    (decide (r ≤ (128 : Int)) = true →
        ∃ (r : ByteArray),
          Ok Proofs.Try.prog (86 : Nat) [AV.ar (256 : Nat) (1 : Nat) fun (i : Nat) => AV.sc (Value.bool (ff i))] [] (AV.sc (Value.string r)) [] ∧
            (ByteArray.mk #[(91 : UInt8)]).size + r.size ≤ (9223372036854775807 : Nat) ∧
              (ByteArray.mk #[(91 : UInt8)] ++ r).size + (ByteArray.mk #[(93 : UInt8)]).size ≤ (9223372036854775807 : Nat) ∧
                Sub (AV.sc (Value.string (ByteArray.mk #[(91 : UInt8)] ++ r ++ ByteArray.mk #[(93 : UInt8)]))) res) ∧
      (decide (r ≤ (128 : Int)) = false → L50_0 (0 : Int) ff (fun (x : Nat) => false) res)) :
    L50_e ff res :=
  rule Go.Am.Seat.tabOk 50 [] Go.Proofs.Try.f50 hf50 [] (s50_e ff) (m50_e ff) res [] 400
    (Orc.call [] [] (fun (r85 : Int) => AV.sc (Value.int IntKind.i64 r85)) (fun (r85 : Int) => []) fun (r85 : Int) =>
  (Orc.call [] [] (fun (r86 : ByteArray) => AV.sc (Value.string r86)) (fun (r86 : ByteArray) => []) fun (r86 : ByteArray) =>
        Orc.fin (AV.sc (Value.string (ByteArray.mk #[(91 : UInt8)] ++ r86 ++ ByteArray.mk #[(93 : UInt8)]))) [] []).br
    (Orc.cut (nat_lit 8) (s50_0 (0 : Int) ff fun (x : Nat) => false) (m50_0 (0 : Int) ff fun (x : Nat) => false)
      [((1000 : Nat), some (1 : Nat)), ((1001 : Nat), some (3 : Nat))])) _ _ (by kernel_rfl) (by kernel_rfl) (show True ∧
  True ∧
    ((0 : Nat) = (0 : Nat) ∧ True) ∧
      ∃ (r : Int),
        ((True ∧ True) ∧
            True ∧
              Ok Proofs.Try.prog (85 : Nat) [AV.ar (256 : Nat) (1 : Nat) fun (i : Nat) => AV.sc (Value.bool (ff i))] [] (AV.sc (Value.int IntKind.i64 r)) []) ∧
          True ∧
            (decide (r ≤ (128 : Int)) = true →
                ((0 : Nat) = (0 : Nat) ∧ True) ∧
                  ∃ (r : ByteArray),
                    ((True ∧ True) ∧
                        True ∧
                          Ok Proofs.Try.prog (86 : Nat) [AV.ar (256 : Nat) (1 : Nat) fun (i : Nat) => AV.sc (Value.bool (ff i))] [] (AV.sc (Value.string r))
                            []) ∧
                      (ByteArray.mk #[(91 : UInt8)]).size + r.size ≤ (9223372036854775807 : Nat) ∧
                        (ByteArray.mk #[(91 : UInt8)] ++ r).size + (ByteArray.mk #[(93 : UInt8)]).size ≤ (9223372036854775807 : Nat) ∧
                          True ∧
                            True ∧
                              ((True ∧
                                    Sub (AV.sc (Value.string (ByteArray.mk #[(91 : UInt8)] ++ r ++ ByteArray.mk #[(93 : UInt8)])))
                                        (AV.sc (Value.string (ByteArray.mk #[(91 : UInt8)] ++ r ++ ByteArray.mk #[(93 : UInt8)]))) ∧
                                      True) ∧
                                  True) ∧
                                Sub (AV.sc (Value.string (ByteArray.mk #[(91 : UInt8)] ++ r ++ ByteArray.mk #[(93 : UInt8)]))) res ∧ SubOut [] []) ∧
              (decide (r ≤ (128 : Int)) = false →
                True ∧
                  True ∧
                    ((True ∧
                          Sub (AV.pt (1000 : Nat) [] (0 : Nat)) (AV.pt (1000 : Nat) [] (0 : Nat)) ∧
                            True ∧
                              Sub (AV.pt (1001 : Nat) [] (0 : Nat)) (AV.pt (1001 : Nat) [] (0 : Nat)) ∧
                                True ∧ Sub (AV.sc (Value.int IntKind.i64 (0 : Int))) (AV.sc (Value.int IntKind.i64 (0 : Int))) ∧ True) ∧
                        True ∧
                          SubB (AV.ar (256 : Nat) (1 : Nat) fun (i0 : Nat) => AV.sc (Value.bool (ff i0)))
                              (AV.ar (256 : Nat) (1 : Nat) fun (i0 : Nat) => AV.sc (Value.bool (ff i0))) ∧
                            True ∧
                              SubB (AV.ar (256 : Nat) (1 : Nat) fun (x : Nat) => AV.sc (Value.bool false))
                                  (AV.ar (256 : Nat) (1 : Nat) fun (i0 : Nat) => AV.sc (Value.bool false)) ∧
                                True) ∧
                      L50_0 (0 : Int) ff (fun (x : Nat) => false) res) from
    ⟨trivial, ⟨trivial, ⟨⟨rfl, trivial⟩, (Exists.elim h fun x3 h3 => ⟨x3, (And.elim (fun h4 k4 => ⟨⟨⟨trivial, trivial⟩, ⟨trivial, h4⟩⟩, ⟨trivial, (And.elim (fun h6 k6 => ⟨(fun x7 => (fun h7 => ⟨⟨rfl, trivial⟩, (Exists.elim h7 fun x9 h9 => ⟨x9, (And.elim (fun h10 k10 => ⟨⟨⟨trivial, trivial⟩, ⟨trivial, h10⟩⟩, (And.elim (fun h11 k11 => ⟨h11, (And.elim (fun h12 k12 => ⟨h12, ⟨trivial, ⟨trivial, ⟨⟨⟨trivial, ⟨Sub.refl _, trivial⟩⟩, trivial⟩, ⟨k12, trivial⟩⟩⟩⟩⟩) k11)⟩) k10)⟩) h9)⟩)⟩) (h6 x7)), (fun x7 => (fun h7 => ⟨trivial, ⟨trivial, ⟨⟨⟨trivial, ⟨Sub.refl _, ⟨trivial, ⟨Sub.refl _, ⟨trivial, ⟨Sub.refl _, trivial⟩⟩⟩⟩⟩⟩, ⟨trivial, ⟨SubB.refl _, ⟨trivial, ⟨SubB.refl _, trivial⟩⟩⟩⟩⟩, h7⟩⟩⟩) (k6 x7))⟩) k4)⟩⟩) h3)⟩)⟩⟩⟩)
theorem r50_0 (b : Int) (b0f : Nat → Bool) (b1f : Nat → Bool) (res : AV)
    (h : (decide (b < (256 : Int)) = true →
    ((0 : Int) ≤ b ∧ b < (↑(256 : Nat) : Int)) ∧
      b.toNat < (256 : Nat) ∧
        ((0 : Int) ≤ b ∧ b < (↑(256 : Nat) : Int)) ∧
          b.toNat < (256 : Nat) ∧ L50_0 (IntKind.i64.wrap (b + (1 : Int))) b0f (fun (i : Nat) => bif i.beq b.toNat then !b0f b.toNat else b1f i) res) ∧
  (decide (b < (256 : Int)) = false →
    ∃ (r : ByteArray),
      Ok Proofs.Try.prog (86 : Nat) [AV.ar (256 : Nat) (1 : Nat) fun (i : Nat) => AV.sc (Value.bool (b1f i))] [] (AV.sc (Value.string r)) [] ∧
        (ByteArray.mk #[(91 : UInt8), (94 : UInt8)]).size + r.size ≤ (9223372036854775807 : Nat) ∧
          (ByteArray.mk #[(91 : UInt8), (94 : UInt8)] ++ r).size + (ByteArray.mk #[(93 : UInt8)]).size ≤ (9223372036854775807 : Nat) ∧
            Sub (AV.sc (Value.string (ByteArray.mk #[(91 : UInt8), (94 : UInt8)] ++ r ++ ByteArray.mk #[(93 : UInt8)]))) res)) :
    L50_0 b b0f b1f res :=
  rule Go.Am.Seat.tabOk 50 [] Go.Proofs.Try.f50 hf50 [1, 1, 1, 0, 1, 0, 0] (s50_0 b b0f b1f) (m50_0 b b0f b1f) res [] 400
    ((Orc.cut (nat_lit 7) (s50_0 (IntKind.i64.wrap (b + (1 : Int))) b0f fun (i : Nat) => bif i.beq b.toNat then !b0f b.toNat else b1f i)
      (m50_0 (IntKind.i64.wrap (b + (1 : Int))) b0f fun (i : Nat) => bif i.beq b.toNat then !b0f b.toNat else b1f i)
      [((1000 : Nat), some (1000 : Nat)), ((1001 : Nat), some (1001 : Nat))]).br
  (Orc.call [] [] (fun (r86 : ByteArray) => AV.sc (Value.string r86)) (fun (r86 : ByteArray) => []) fun (r86 : ByteArray) =>
    Orc.fin (AV.sc (Value.string (ByteArray.mk #[(91 : UInt8), (94 : UInt8)] ++ r86 ++ ByteArray.mk #[(93 : UInt8)]))) [] [])) _ _ (by kernel_rfl) (by kernel_rfl) (show True ∧
  True ∧
    (decide (b < (256 : Int)) = true →
        True ∧
          True ∧
            ((0 : Int) ≤ b ∧ b < (↑(256 : Nat) : Int)) ∧
              (b.toNat * (1 : Nat) + (0 : Nat) = plus (0 : Nat) (b.toNat * (1 : Nat)) ∧ b.toNat < (256 : Nat) ∧ True) ∧
                True ∧
                  ((0 : Int) ≤ b ∧ b < (↑(256 : Nat) : Int)) ∧
                    (b.toNat * (1 : Nat) + (0 : Nat) = plus (0 : Nat) (b.toNat * (1 : Nat)) ∧ (b.toNat < (256 : Nat) ∧ True) ∧ True) ∧
                      True ∧
                        True ∧
                          True ∧
                            ((True ∧
                                  Sub (AV.pt (1000 : Nat) [] (0 : Nat)) (AV.pt (1000 : Nat) [] (0 : Nat)) ∧
                                    True ∧
                                      Sub (AV.pt (1001 : Nat) [] (0 : Nat)) (AV.pt (1001 : Nat) [] (0 : Nat)) ∧
                                        True ∧
                                          Sub (AV.sc (Value.int IntKind.i64 (IntKind.i64.wrap (b + (1 : Int)))))
                                              (AV.sc (Value.int IntKind.i64 (IntKind.i64.wrap (b + (1 : Int))))) ∧
                                            True) ∧
                                True ∧
                                  SubB (AV.ar (256 : Nat) (1 : Nat) fun (i0 : Nat) => AV.sc (Value.bool (b0f i0)))
                                      (AV.ar (256 : Nat) (1 : Nat) fun (i0 : Nat) => AV.sc (Value.bool (b0f i0))) ∧
                                    True ∧
                                      SubB (AV.ar (256 : Nat) (1 : Nat) fun (i : Nat) => AV.sc (Value.bool (bif i.beq b.toNat then !b0f b.toNat else b1f i)))
                                          (AV.ar (256 : Nat) (1 : Nat) fun (i0 : Nat) =>
                                            AV.sc (Value.bool (bif i0.beq b.toNat then !b0f b.toNat else b1f i0))) ∧
                                        True) ∧
                              L50_0 (IntKind.i64.wrap (b + (1 : Int))) b0f (fun (i : Nat) => bif i.beq b.toNat then !b0f b.toNat else b1f i) res) ∧
      (decide (b < (256 : Int)) = false →
        ((0 : Nat) = (0 : Nat) ∧ True) ∧
          ∃ (r : ByteArray),
            ((True ∧ True) ∧
                True ∧ Ok Proofs.Try.prog (86 : Nat) [AV.ar (256 : Nat) (1 : Nat) fun (i : Nat) => AV.sc (Value.bool (b1f i))] [] (AV.sc (Value.string r)) []) ∧
              (ByteArray.mk #[(91 : UInt8), (94 : UInt8)]).size + r.size ≤ (9223372036854775807 : Nat) ∧
                (ByteArray.mk #[(91 : UInt8), (94 : UInt8)] ++ r).size + (ByteArray.mk #[(93 : UInt8)]).size ≤ (9223372036854775807 : Nat) ∧
                  True ∧
                    True ∧
                      ((True ∧
                            Sub (AV.sc (Value.string (ByteArray.mk #[(91 : UInt8), (94 : UInt8)] ++ r ++ ByteArray.mk #[(93 : UInt8)])))
                                (AV.sc (Value.string (ByteArray.mk #[(91 : UInt8), (94 : UInt8)] ++ r ++ ByteArray.mk #[(93 : UInt8)]))) ∧
                              True) ∧
                          True) ∧
                        Sub (AV.sc (Value.string (ByteArray.mk #[(91 : UInt8), (94 : UInt8)] ++ r ++ ByteArray.mk #[(93 : UInt8)]))) res ∧ SubOut [] []) from
    ⟨trivial, ⟨trivial, (And.elim (fun h2 k2 => ⟨(fun x3 => (fun h3 => ⟨trivial, ⟨trivial, (And.elim (fun h6 k6 => ⟨(And.elim (fun h7 k7 => ⟨h7, k7⟩) h6), (And.elim (fun h7 k7 => ⟨⟨rfl, ⟨h7, trivial⟩⟩, ⟨trivial, (And.elim (fun h9 k9 => ⟨(And.elim (fun h10 k10 => ⟨h10, k10⟩) h9), (And.elim (fun h10 k10 => ⟨⟨rfl, ⟨⟨h10, trivial⟩, trivial⟩⟩, ⟨trivial, ⟨trivial, ⟨trivial, ⟨⟨⟨trivial, ⟨Sub.refl _, ⟨trivial, ⟨Sub.refl _, ⟨trivial, ⟨Sub.refl _, trivial⟩⟩⟩⟩⟩⟩, ⟨trivial, ⟨SubB.refl _, ⟨trivial, ⟨SubB.refl _, trivial⟩⟩⟩⟩⟩, k10⟩⟩⟩⟩⟩) k9)⟩) k7)⟩⟩) k6)⟩) h3)⟩⟩) (h2 x3)), (fun x3 => (fun h3 => ⟨⟨rfl, trivial⟩, (Exists.elim h3 fun x5 h5 => ⟨x5, (And.elim (fun h6 k6 => ⟨⟨⟨trivial, trivial⟩, ⟨trivial, h6⟩⟩, (And.elim (fun h7 k7 => ⟨h7, (And.elim (fun h8 k8 => ⟨h8, ⟨trivial, ⟨trivial, ⟨⟨⟨trivial, ⟨Sub.refl _, trivial⟩⟩, trivial⟩, ⟨k8, trivial⟩⟩⟩⟩⟩) k7)⟩) k6)⟩) h5)⟩)⟩) (k2 x3))⟩) h)⟩⟩)
theorem hf51 : Go.Proofs.Try.prog.funcs[51]? = some Go.Proofs.Try.f51 := by kernel_rfl
abbrev s51_e (sf : Nat → Int) : List (Nat × AV) := [(0, (.ar 4 1 (fun i0 => (.sc (.int .u64 (sf i0))))))]
abbrev m51_e (sf : Nat → Int) : List (Nat × Nat × AV) := []
def L51_e (sf : Nat → Int) (res : AV) : Prop := Goes ⟨Go.Proofs.Try.prog, 51, [], res, []⟩ (place Go.Proofs.Try.f51 []) (s51_e sf) (m51_e sf)
theorem a51_e (sf : Nat → Int) (res : AV) (h : (∀ slot, fact (look .undef (s51_e sf) slot)) → L51_e sf res) : L51_e sf res :=
  assumeRule 51 [] Go.Proofs.Try.f51 hf51 [] (s51_e sf) (m51_e sf) res [] _ (by kernel_rfl) h
abbrev s51_0 (b : Int) (b0f : Nat → Int) (b1f : Nat → Bool) (b2f : Nat → Bool) : List (Nat × AV) := [(1, (.pt 1000 [] 0)), (2, (.pt 1001 [] 0)), (3, (.pt 1002 [] 0)), (4, (.sc (.int .i64 b)))]
abbrev m51_0 (b : Int) (b0f : Nat → Int) (b1f : Nat → Bool) (b2f : Nat → Bool) : List (Nat × Nat × AV) := [(1000, 50, (.ar 4 1 (fun i0 => (.sc (.int .u64 (b0f i0)))))), (1001, 89, (.ar 256 1 (fun i0 => (.sc (.bool (b1f i0)))))), (1002, 89, (.ar 256 1 (fun i0 => (.sc (.bool (b2f i0))))))]
def L51_0 (b : Int) (b0f : Nat → Int) (b1f : Nat → Bool) (b2f : Nat → Bool) (res : AV) : Prop := Goes ⟨Go.Proofs.Try.prog, 51, [], res, []⟩ (place Go.Proofs.Try.f51 [1, 1, 0, 1, 0, 0]) (s51_0 b b0f b1f b2f) (m51_0 b b0f b1f b2f)
theorem a51_0 (b : Int) (b0f : Nat → Int) (b1f : Nat → Bool) (b2f : Nat → Bool) (res : AV) (h : (∀ slot, fact (look .undef (s51_0 b b0f b1f b2f) slot)) → L51_0 b b0f b1f b2f res) : L51_0 b b0f b1f b2f res :=
  assumeRule 51 [] Go.Proofs.Try.f51 hf51 [1, 1, 0, 1, 0, 0] (s51_0 b b0f b1f b2f) (m51_0 b b0f b1f b2f) res [] _ (by kernel_rfl) h
abbrev s51_1 (b : Int) (w : Int) (i : Int) (b0f : Nat → Int) (b1f : Nat → Bool) (b2f : Nat → Bool) : List (Nat × AV) := [(1, (.pt 1000 [] 0)), (2, (.pt 1001 [] 0)), (3, (.pt 1002 [] 0)), (4, (.sc (.int .i64 b))), (5, (.sc (.int .u64 w))), (6, (.sc (.int .i64 i)))]
abbrev m51_1 (b : Int) (w : Int) (i : Int) (b0f : Nat → Int) (b1f : Nat → Bool) (b2f : Nat → Bool) : List (Nat × Nat × AV) := [(1000, 50, (.ar 4 1 (fun i0 => (.sc (.int .u64 (b0f i0)))))), (1001, 89, (.ar 256 1 (fun i0 => (.sc (.bool (b1f i0)))))), (1002, 89, (.ar 256 1 (fun i0 => (.sc (.bool (b2f i0))))))]
def L51_1 (b : Int) (w : Int) (i : Int) (b0f : Nat → Int) (b1f : Nat → Bool) (b2f : Nat → Bool) (res : AV) : Prop := Goes ⟨Go.Proofs.Try.prog, 51, [], res, []⟩ (place Go.Proofs.Try.f51 [1, 1, 0, 1, 0, 0, 1, 0, 0, 1, 0, 1, 0, 0]) (s51_1 b w i b0f b1f b2f) (m51_1 b w i b0f b1f b2f)
theorem a51_1 (b : Int) (w : Int) (i : Int) (b0f : Nat → Int) (b1f : Nat → Bool) (b2f : Nat → Bool) (res : AV) (h : (∀ slot, fact (look .undef (s51_1 b w i b0f b1f b2f) slot)) → L51_1 b w i b0f b1f b2f res) : L51_1 b w i b0f b1f b2f res :=
  assumeRule 51 [] Go.Proofs.Try.f51 hf51 [1, 1, 0, 1, 0, 0, 1, 0, 0, 1, 0, 1, 0, 0] (s51_1 b w i b0f b1f b2f) (m51_1 b w i b0f b1f b2f) res [] _ (by kernel_rfl) h
theorem o51 (sf : Nat → Int) (res : AV) (hnew : newOnly res) (h : L51_e sf res) : Ok Go.Proofs.Try.prog 51 [(.ar 4 1 (fun i0 => (.sc (.int .u64 (sf i0)))))] [] res [] :=
  okRule2 51 Go.Proofs.Try.f51 hf51 [(.ar 4 1 (fun i0 => (.sc (.int .u64 (sf i0)))))] [] res [] [] rfl (by kernel_rfl) (by kernel_rfl) (by kernel_rfl) ⟨hnew, by simp⟩ (L51_e sf res) (by kernel_rfl) h
theorem r51_e (sf : Nat → Int) (res : AV)
    (h : L51_0 (0 : Int) sf (fun (x : Nat) => false) (fun (x : Nat) => false) res) :
    L51_e sf res :=
  rule Go.Am.Seat.tabOk 51 [] Go.Proofs.Try.f51 hf51 [] (s51_e sf) (m51_e sf) res [] 400
    (Orc.cut (nat_lit 9) (s51_0 (0 : Int) sf (fun (x : Nat) => false) fun (x : Nat) => false) (m51_0 (0 : Int) sf (fun (x : Nat) => false) fun (x : Nat) => false)
  [((1000 : Nat), some (1 : Nat)), ((1001 : Nat), some (2 : Nat)), ((1002 : Nat), some (3 : Nat))]) _ _ (by kernel_rfl) (by kernel_rfl) (show True ∧
  True ∧
    True ∧
      True ∧
        ((True ∧
              Sub (AV.pt (1000 : Nat) [] (0 : Nat)) (AV.pt (1000 : Nat) [] (0 : Nat)) ∧
                True ∧
                  Sub (AV.pt (1001 : Nat) [] (0 : Nat)) (AV.pt (1001 : Nat) [] (0 : Nat)) ∧
                    True ∧
                      Sub (AV.pt (1002 : Nat) [] (0 : Nat)) (AV.pt (1002 : Nat) [] (0 : Nat)) ∧
                        True ∧ Sub (AV.sc (Value.int IntKind.i64 (0 : Int))) (AV.sc (Value.int IntKind.i64 (0 : Int))) ∧ True) ∧
            True ∧
              SubB (AV.ar (4 : Nat) (1 : Nat) fun (i0 : Nat) => AV.sc (Value.int IntKind.u64 (sf i0)))
                  (AV.ar (4 : Nat) (1 : Nat) fun (i0 : Nat) => AV.sc (Value.int IntKind.u64 (sf i0))) ∧
                True ∧
                  SubB (AV.ar (256 : Nat) (1 : Nat) fun (x : Nat) => AV.sc (Value.bool false))
                      (AV.ar (256 : Nat) (1 : Nat) fun (i0 : Nat) => AV.sc (Value.bool false)) ∧
                    True ∧
                      SubB (AV.ar (256 : Nat) (1 : Nat) fun (x : Nat) => AV.sc (Value.bool false))
                          (AV.ar (256 : Nat) (1 : Nat) fun (i0 : Nat) => AV.sc (Value.bool false)) ∧
                        True) ∧
          L51_0 (0 : Int) sf (fun (x : Nat) => false) (fun (x : Nat) => false) res from
    ⟨trivial, ⟨trivial, ⟨trivial, ⟨trivial, ⟨⟨⟨trivial, ⟨Sub.refl _, ⟨trivial, ⟨Sub.refl _, ⟨trivial, ⟨Sub.refl _, ⟨trivial, ⟨Sub.refl _, trivial⟩⟩⟩⟩⟩⟩⟩⟩, ⟨trivial, ⟨SubB.refl _, ⟨trivial, ⟨SubB.refl _, ⟨trivial, ⟨SubB.refl _, trivial⟩⟩⟩⟩⟩⟩⟩, h⟩⟩⟩⟩⟩)
theorem r51_0 (b : Int) (b0f : Nat → Int) (b1f : Nat → Bool) (b2f : Nat → Bool) (res : AV)
    (h : (decide (b < (256 : Int)) = true →
    ((0 : Int) ≤ IntKind.i64.wrap (b.tdiv (64 : Int)) ∧ IntKind.i64.wrap (b.tdiv (64 : Int)) < (↑(4 : Nat) : Int)) ∧
      (IntKind.i64.wrap (b.tdiv (64 : Int))).toNat < (4 : Nat) ∧ L51_1 b (b0f (IntKind.i64.wrap (b.tdiv (64 : Int))).toNat) (0 : Int) b0f b1f b2f res) ∧
  (decide (b < (256 : Int)) = false → Sub (AV.ar (256 : Nat) (1 : Nat) fun (i0 : Nat) => AV.sc (Value.bool (b2f i0))) res)) :
    L51_0 b b0f b1f b2f res :=
  rule Go.Am.Seat.tabOk 51 [] Go.Proofs.Try.f51 hf51 [1, 1, 0, 1, 0, 0] (s51_0 b b0f b1f b2f) (m51_0 b b0f b1f b2f) res [] 400
    ((Orc.cut (nat_lit 10) (s51_1 b (b0f (IntKind.i64.wrap (b.tdiv (64 : Int))).toNat) (0 : Int) b0f b1f b2f)
      (m51_1 b (b0f (IntKind.i64.wrap (b.tdiv (64 : Int))).toNat) (0 : Int) b0f b1f b2f)
      [((1000 : Nat), some (1000 : Nat)), ((1001 : Nat), some (1001 : Nat)), ((1002 : Nat), some (1002 : Nat))]).br
  (Orc.fin (AV.ar (256 : Nat) (1 : Nat) fun (i0 : Nat) => AV.sc (Value.bool (b2f i0))) [] [])) _ _ (by kernel_rfl) (by kernel_rfl) (show True ∧
  True ∧
    (decide (b < (256 : Int)) = true →
        True ∧
          (64 : Int) ≠ (0 : Int) ∧
            ((0 : Int) ≤ IntKind.i64.wrap (b.tdiv (64 : Int)) ∧ IntKind.i64.wrap (b.tdiv (64 : Int)) < (↑(4 : Nat) : Int)) ∧
              ((IntKind.i64.wrap (b.tdiv (64 : Int))).toNat * (1 : Nat) + (0 : Nat) =
                    plus (0 : Nat) ((IntKind.i64.wrap (b.tdiv (64 : Int))).toNat * (1 : Nat)) ∧
                  (IntKind.i64.wrap (b.tdiv (64 : Int))).toNat < (4 : Nat) ∧ True) ∧
                True ∧
                  True ∧
                    ((True ∧
                          Sub (AV.pt (1000 : Nat) [] (0 : Nat)) (AV.pt (1000 : Nat) [] (0 : Nat)) ∧
                            True ∧
                              Sub (AV.pt (1001 : Nat) [] (0 : Nat)) (AV.pt (1001 : Nat) [] (0 : Nat)) ∧
                                True ∧
                                  Sub (AV.pt (1002 : Nat) [] (0 : Nat)) (AV.pt (1002 : Nat) [] (0 : Nat)) ∧
                                    True ∧
                                      Sub (AV.sc (Value.int IntKind.i64 b)) (AV.sc (Value.int IntKind.i64 b)) ∧
                                        True ∧
                                          Sub (AV.sc (Value.int IntKind.u64 (b0f (IntKind.i64.wrap (b.tdiv (64 : Int))).toNat)))
                                              (AV.sc (Value.int IntKind.u64 (b0f (IntKind.i64.wrap (b.tdiv (64 : Int))).toNat))) ∧
                                            True ∧ Sub (AV.sc (Value.int IntKind.i64 (0 : Int))) (AV.sc (Value.int IntKind.i64 (0 : Int))) ∧ True) ∧
                        True ∧
                          SubB (AV.ar (4 : Nat) (1 : Nat) fun (i0 : Nat) => AV.sc (Value.int IntKind.u64 (b0f i0)))
                              (AV.ar (4 : Nat) (1 : Nat) fun (i0 : Nat) => AV.sc (Value.int IntKind.u64 (b0f i0))) ∧
                            True ∧
                              SubB (AV.ar (256 : Nat) (1 : Nat) fun (i0 : Nat) => AV.sc (Value.bool (b1f i0)))
                                  (AV.ar (256 : Nat) (1 : Nat) fun (i0 : Nat) => AV.sc (Value.bool (b1f i0))) ∧
                                True ∧
                                  SubB (AV.ar (256 : Nat) (1 : Nat) fun (i0 : Nat) => AV.sc (Value.bool (b2f i0)))
                                      (AV.ar (256 : Nat) (1 : Nat) fun (i0 : Nat) => AV.sc (Value.bool (b2f i0))) ∧
                                    True) ∧
                      L51_1 b (b0f (IntKind.i64.wrap (b.tdiv (64 : Int))).toNat) (0 : Int) b0f b1f b2f res) ∧
      (decide (b < (256 : Int)) = false →
        ((0 : Nat) = (0 : Nat) ∧ True) ∧
          ((0 : Nat) = (0 : Nat) ∧ True) ∧
            ((0 : Nat) = (0 : Nat) ∧ True) ∧
              ((True ∧
                    Sub (AV.ar (256 : Nat) (1 : Nat) fun (i0 : Nat) => AV.sc (Value.bool (b2f i0)))
                        (AV.ar (256 : Nat) (1 : Nat) fun (i0 : Nat) => AV.sc (Value.bool (b2f i0))) ∧
                      True) ∧
                  True) ∧
                Sub (AV.ar (256 : Nat) (1 : Nat) fun (i0 : Nat) => AV.sc (Value.bool (b2f i0))) res ∧ SubOut [] []) from
    ⟨trivial, ⟨trivial, (And.elim (fun h2 k2 => ⟨(fun x3 => (fun h3 => ⟨trivial, ⟨(by decide), (And.elim (fun h6 k6 => ⟨(And.elim (fun h7 k7 => ⟨h7, k7⟩) h6), (And.elim (fun h7 k7 => ⟨⟨rfl, ⟨h7, trivial⟩⟩, ⟨trivial, ⟨trivial, ⟨⟨⟨trivial, ⟨Sub.refl _, ⟨trivial, ⟨Sub.refl _, ⟨trivial, ⟨Sub.refl _, ⟨trivial, ⟨Sub.refl _, ⟨trivial, ⟨Sub.refl _, ⟨trivial, ⟨Sub.refl _, trivial⟩⟩⟩⟩⟩⟩⟩⟩⟩⟩⟩⟩, ⟨trivial, ⟨SubB.refl _, ⟨trivial, ⟨SubB.refl _, ⟨trivial, ⟨SubB.refl _, trivial⟩⟩⟩⟩⟩⟩⟩, k7⟩⟩⟩⟩) k6)⟩) h3)⟩⟩) (h2 x3)), (fun x3 => (fun h3 => ⟨⟨rfl, trivial⟩, ⟨⟨rfl, trivial⟩, ⟨⟨rfl, trivial⟩, ⟨⟨⟨trivial, ⟨Sub.refl _, trivial⟩⟩, trivial⟩, ⟨h3, trivial⟩⟩⟩⟩⟩) (k2 x3))⟩) h)⟩⟩)
theorem r51_1 (b : Int) (w : Int) (i : Int) (b0f : Nat → Int) (b1f : Nat → Bool) (b2f : Nat → Bool) (res : AV)
    (h : (decide (i < b.tmod (64 : Int)) = true → L51_1 b (IntKind.u64.wrap (w.tdiv (2 : Int))) (IntKind.i64.wrap (i + (1 : Int))) b0f b1f b2f res) ∧
  (decide (i < b.tmod (64 : Int)) = false →
    ((0 : Int) ≤ b ∧ b < (↑(256 : Nat) : Int)) ∧
      b.toNat < (256 : Nat) ∧
        L51_0 (IntKind.i64.wrap (b + (1 : Int))) b0f b1f (fun (i : Nat) => bif i.beq b.toNat then w.tmod (2 : Int) == (1 : Int) else b2f i) res)) :
    L51_1 b w i b0f b1f b2f res :=
  rule Go.Am.Seat.tabOk 51 [] Go.Proofs.Try.f51 hf51 [1, 1, 0, 1, 0, 0, 1, 0, 0, 1, 0, 1, 0, 0] (s51_1 b w i b0f b1f b2f) (m51_1 b w i b0f b1f b2f) res [] 400
    ((Orc.cut (nat_lit 7) (s51_1 b (IntKind.u64.wrap (w.tdiv (2 : Int))) (IntKind.i64.wrap (i + (1 : Int))) b0f b1f b2f)
      (m51_1 b (IntKind.u64.wrap (w.tdiv (2 : Int))) (IntKind.i64.wrap (i + (1 : Int))) b0f b1f b2f)
      [((1000 : Nat), some (1000 : Nat)), ((1001 : Nat), some (1001 : Nat)), ((1002 : Nat), some (1002 : Nat))]).br
  (Orc.cut (nat_lit 5) (s51_0 (IntKind.i64.wrap (b + (1 : Int))) b0f b1f fun (i : Nat) => bif i.beq b.toNat then w.tmod (2 : Int) == (1 : Int) else b2f i)
    (m51_0 (IntKind.i64.wrap (b + (1 : Int))) b0f b1f fun (i : Nat) => bif i.beq b.toNat then w.tmod (2 : Int) == (1 : Int) else b2f i)
    [((1000 : Nat), some (1000 : Nat)), ((1001 : Nat), some (1001 : Nat)), ((1002 : Nat), some (1002 : Nat))])) _ _ (by kernel_rfl) (by kernel_rfl) (show True ∧
  True ∧
    (64 : Int) ≠ (0 : Int) ∧
      True ∧
        (decide (i < b.tmod (64 : Int)) = true →
            True ∧
              (2 : Int) ≠ (0 : Int) ∧
                True ∧
                  True ∧
                    True ∧
                      True ∧
                        ((True ∧
                              Sub (AV.pt (1000 : Nat) [] (0 : Nat)) (AV.pt (1000 : Nat) [] (0 : Nat)) ∧
                                True ∧
                                  Sub (AV.pt (1001 : Nat) [] (0 : Nat)) (AV.pt (1001 : Nat) [] (0 : Nat)) ∧
                                    True ∧
                                      Sub (AV.pt (1002 : Nat) [] (0 : Nat)) (AV.pt (1002 : Nat) [] (0 : Nat)) ∧
                                        True ∧
                                          Sub (AV.sc (Value.int IntKind.i64 b)) (AV.sc (Value.int IntKind.i64 b)) ∧
                                            True ∧
                                              Sub (AV.sc (Value.int IntKind.u64 (IntKind.u64.wrap (w.tdiv (2 : Int)))))
                                                  (AV.sc (Value.int IntKind.u64 (IntKind.u64.wrap (w.tdiv (2 : Int))))) ∧
                                                True ∧
                                                  Sub (AV.sc (Value.int IntKind.i64 (IntKind.i64.wrap (i + (1 : Int)))))
                                                      (AV.sc (Value.int IntKind.i64 (IntKind.i64.wrap (i + (1 : Int))))) ∧
                                                    True) ∧
                            True ∧
                              SubB (AV.ar (4 : Nat) (1 : Nat) fun (i0 : Nat) => AV.sc (Value.int IntKind.u64 (b0f i0)))
                                  (AV.ar (4 : Nat) (1 : Nat) fun (i0 : Nat) => AV.sc (Value.int IntKind.u64 (b0f i0))) ∧
                                True ∧
                                  SubB (AV.ar (256 : Nat) (1 : Nat) fun (i0 : Nat) => AV.sc (Value.bool (b1f i0)))
                                      (AV.ar (256 : Nat) (1 : Nat) fun (i0 : Nat) => AV.sc (Value.bool (b1f i0))) ∧
                                    True ∧
                                      SubB (AV.ar (256 : Nat) (1 : Nat) fun (i0 : Nat) => AV.sc (Value.bool (b2f i0)))
                                          (AV.ar (256 : Nat) (1 : Nat) fun (i0 : Nat) => AV.sc (Value.bool (b2f i0))) ∧
                                        True) ∧
                          L51_1 b (IntKind.u64.wrap (w.tdiv (2 : Int))) (IntKind.i64.wrap (i + (1 : Int))) b0f b1f b2f res) ∧
          (decide (i < b.tmod (64 : Int)) = false →
            True ∧
              True ∧
                (2 : Int) ≠ (0 : Int) ∧
                  True ∧
                    ((0 : Int) ≤ b ∧ b < (↑(256 : Nat) : Int)) ∧
                      (b.toNat * (1 : Nat) + (0 : Nat) = plus (0 : Nat) (b.toNat * (1 : Nat)) ∧ (b.toNat < (256 : Nat) ∧ True) ∧ True) ∧
                        True ∧
                          True ∧
                            True ∧
                              ((True ∧
                                    Sub (AV.pt (1000 : Nat) [] (0 : Nat)) (AV.pt (1000 : Nat) [] (0 : Nat)) ∧
                                      True ∧
                                        Sub (AV.pt (1001 : Nat) [] (0 : Nat)) (AV.pt (1001 : Nat) [] (0 : Nat)) ∧
                                          True ∧
                                            Sub (AV.pt (1002 : Nat) [] (0 : Nat)) (AV.pt (1002 : Nat) [] (0 : Nat)) ∧
                                              True ∧
                                                Sub (AV.sc (Value.int IntKind.i64 (IntKind.i64.wrap (b + (1 : Int)))))
                                                    (AV.sc (Value.int IntKind.i64 (IntKind.i64.wrap (b + (1 : Int))))) ∧
                                                  True) ∧
                                  True ∧
                                    SubB (AV.ar (4 : Nat) (1 : Nat) fun (i0 : Nat) => AV.sc (Value.int IntKind.u64 (b0f i0)))
                                        (AV.ar (4 : Nat) (1 : Nat) fun (i0 : Nat) => AV.sc (Value.int IntKind.u64 (b0f i0))) ∧
                                      True ∧
                                        SubB (AV.ar (256 : Nat) (1 : Nat) fun (i0 : Nat) => AV.sc (Value.bool (b1f i0)))
                                            (AV.ar (256 : Nat) (1 : Nat) fun (i0 : Nat) => AV.sc (Value.bool (b1f i0))) ∧
                                          True ∧
                                            SubB
                                                (AV.ar (256 : Nat) (1 : Nat) fun (i : Nat) =>
                                                  AV.sc (Value.bool (bif i.beq b.toNat then w.tmod (2 : Int) == (1 : Int) else b2f i)))
                                                (AV.ar (256 : Nat) (1 : Nat) fun (i0 : Nat) =>
                                                  AV.sc (Value.bool (bif i0.beq b.toNat then w.tmod (2 : Int) == (1 : Int) else b2f i0))) ∧
                                              True) ∧
                                L51_0 (IntKind.i64.wrap (b + (1 : Int))) b0f b1f
                                  (fun (i : Nat) => bif i.beq b.toNat then w.tmod (2 : Int) == (1 : Int) else b2f i) res) from
    ⟨trivial, ⟨trivial, ⟨(by decide), ⟨trivial, (And.elim (fun h4 k4 => ⟨(fun x5 => (fun h5 => ⟨trivial, ⟨(by decide), ⟨trivial, ⟨trivial, ⟨trivial, ⟨trivial, ⟨⟨⟨trivial, ⟨Sub.refl _, ⟨trivial, ⟨Sub.refl _, ⟨trivial, ⟨Sub.refl _, ⟨trivial, ⟨Sub.refl _, ⟨trivial, ⟨Sub.refl _, ⟨trivial, ⟨Sub.refl _, trivial⟩⟩⟩⟩⟩⟩⟩⟩⟩⟩⟩⟩, ⟨trivial, ⟨SubB.refl _, ⟨trivial, ⟨SubB.refl _, ⟨trivial, ⟨SubB.refl _, trivial⟩⟩⟩⟩⟩⟩⟩, h5⟩⟩⟩⟩⟩⟩⟩) (h4 x5)), (fun x5 => (fun h5 => ⟨trivial, ⟨trivial, ⟨(by decide), ⟨trivial, (And.elim (fun h10 k10 => ⟨(And.elim (fun h11 k11 => ⟨h11, k11⟩) h10), (And.elim (fun h11 k11 => ⟨⟨rfl, ⟨⟨h11, trivial⟩, trivial⟩⟩, ⟨trivial, ⟨trivial, ⟨trivial, ⟨⟨⟨trivial, ⟨Sub.refl _, ⟨trivial, ⟨Sub.refl _, ⟨trivial, ⟨Sub.refl _, ⟨trivial, ⟨Sub.refl _, trivial⟩⟩⟩⟩⟩⟩⟩⟩, ⟨trivial, ⟨SubB.refl _, ⟨trivial, ⟨SubB.refl _, ⟨trivial, ⟨SubB.refl _, trivial⟩⟩⟩⟩⟩⟩⟩, k11⟩⟩⟩⟩⟩) k10)⟩) h5)⟩⟩⟩⟩) (k4 x5))⟩) h)⟩⟩⟩⟩)
theorem hf52 : Go.Proofs.Try.prog.funcs[52]? = some Go.Proofs.Try.f52 := by kernel_rfl
abbrev s52_e : List (Nat × AV) := []
abbrev m52_e : List (Nat × Nat × AV) := []
def L52_e (res : AV) : Prop := Goes ⟨Go.Proofs.Try.prog, 52, [], res, []⟩ (place Go.Proofs.Try.f52 []) (s52_e ) (m52_e )
theorem a52_e (res : AV) (h : (∀ slot, fact (look .undef (s52_e ) slot)) → L52_e  res) : L52_e  res :=
  assumeRule 52 [] Go.Proofs.Try.f52 hf52 [] (s52_e ) (m52_e ) res [] _ (by kernel_rfl) h
theorem o52 (res : AV) (hnew : newOnly res) (h : L52_e  res) : Ok Go.Proofs.Try.prog 52 [] [] res [] :=
  okRule2 52 Go.Proofs.Try.f52 hf52 [] [] res [] [] rfl (by kernel_rfl) (by kernel_rfl) (by kernel_rfl) ⟨hnew, by simp⟩ (L52_e  res) (by kernel_rfl) h
theorem r52_e (res : AV)
    (h : ∃ (r : Nat → Int),
  Ok Proofs.Try.prog (87 : Nat) [AV.sc (Value.string (ByteArray.mk #[(99 : UInt8), (97 : UInt8), (98 : UInt8)]))] []
      (AV.ar (4 : Nat) (1 : Nat) fun (i0 : Nat) => AV.sc (Value.int IntKind.u64 (r i0))) [] ∧
    ∃ (r_1 : (Nat → Int) × Int),
      Ok Proofs.Try.prog (88 : Nat) [AV.sc (Value.string (ByteArray.mk #[(91 : UInt8), (97 : UInt8), (45 : UInt8), (99 : UInt8), (93 : UInt8)]))] []
          (AV.cons (1 : Nat) (AV.ar (4 : Nat) (1 : Nat) fun (i0 : Nat) => AV.sc (Value.int IntKind.u64 (r_1.fst i0)))
              (AV.cons (1 : Nat) (AV.sc (Value.int IntKind.i64 r_1.snd)) AV.nil)).tup
          [] ∧
        ∃ (r_2 : Bool),
          Ok Proofs.Try.prog (83 : Nat)
              [AV.ar (4 : Nat) (1 : Nat) fun (i : Nat) => AV.sc (Value.int IntKind.u64 (r i)), AV.sc (Value.int IntKind.u8 (98 : Int))] []
              (AV.sc (Value.bool r_2)) [] ∧
            (r_2 = true →
                ∃ (r_3 : Bool),
                  Ok Proofs.Try.prog (83 : Nat)
                      [AV.ar (4 : Nat) (1 : Nat) fun (i : Nat) => AV.sc (Value.int IntKind.u64 (r i)), AV.sc (Value.int IntKind.u8 (100 : Int))] []
                      (AV.sc (Value.bool r_3)) [] ∧
                    ((!r_3) = true →
                        ∃ (r_4 : ByteArray),
                          Ok Proofs.Try.prog (89 : Nat) [AV.ar (4 : Nat) (1 : Nat) fun (i : Nat) => AV.sc (Value.int IntKind.u64 (r i))] []
                              (AV.sc (Value.string r_4)) [] ∧
                            ((r_4.toList == (ByteArray.mk #[(97 : UInt8), (98 : UInt8), (99 : UInt8)]).toList) = true →
                                ∃ (r_5 : ByteArray),
                                  Ok Proofs.Try.prog (49 : Nat) [AV.ar (4 : Nat) (1 : Nat) fun (i : Nat) => AV.sc (Value.int IntKind.u64 (r i))] []
                                      (AV.sc (Value.string r_5)) [] ∧
                                    ((r_5.toList == (ByteArray.mk #[(91 : UInt8), (97 : UInt8), (45 : UInt8), (99 : UInt8), (93 : UInt8)]).toList) = true →
                                        (∀ (i : Nat),
                                            i < (4 : Nat) →
                                              (AV.sc (Value.int IntKind.u64 (r_1.fst i))).sz = (1 : Nat) ∧
                                                (AV.sc (Value.int IntKind.u64 (r i))).sz = (1 : Nat)) ∧
                                          (cdec (∀ (i : Nat), i < (4 : Nat) → r_1.fst i = r i) = true → Sub (AV.sc (Value.bool (r_1.snd == (0 : Int)))) res) ∧
                                            (cdec (∀ (i : Nat), i < (4 : Nat) → r_1.fst i = r i) = !true → Sub (AV.sc (Value.bool false)) res)) ∧
                                      ((r_5.toList == (ByteArray.mk #[(91 : UInt8), (97 : UInt8), (45 : UInt8), (99 : UInt8), (93 : UInt8)]).toList) = !true →
                                        Sub (AV.sc (Value.bool false)) res)) ∧
                              ((r_4.toList == (ByteArray.mk #[(97 : UInt8), (98 : UInt8), (99 : UInt8)]).toList) = !true →
                                Sub (AV.sc (Value.bool false)) res)) ∧
                      ((!r_3) = !true → Sub (AV.sc (Value.bool false)) res)) ∧
              (r_2 = !true → Sub (AV.sc (Value.bool false)) res)) :
    L52_e  res :=
  rule Go.Am.Seat.tabOk 52 [] Go.Proofs.Try.f52 hf52 [] (s52_e ) (m52_e ) res [] 400
    (Orc.call [] [] (fun (r87 : Nat → Int) => AV.ar (4 : Nat) (1 : Nat) fun (i0 : Nat) => AV.sc (Value.int IntKind.u64 (r87 i0))) (fun (r87 : Nat → Int) => [])
  fun (r87 : Nat → Int) =>
  Orc.call [] []
    (fun (r88 : (Nat → Int) × Int) =>
      (AV.cons (1 : Nat) (AV.ar (4 : Nat) (1 : Nat) fun (i0 : Nat) => AV.sc (Value.int IntKind.u64 (r88.fst i0)))
          (AV.cons (1 : Nat) (AV.sc (Value.int IntKind.i64 r88.snd)) AV.nil)).tup)
    (fun (r88 : (Nat → Int) × Int) => []) fun (r88 : (Nat → Int) × Int) =>
    Orc.call [] [] (fun (r83 : Bool) => AV.sc (Value.bool r83)) (fun (r83 : Bool) => []) fun (r83 : Bool) =>
      (Orc.call [] [] (fun (r83 : Bool) => AV.sc (Value.bool r83)) (fun (r83 : Bool) => []) fun (r83 : Bool) =>
              ((Orc.call [] [] (fun (r89 : ByteArray) => AV.sc (Value.string r89)) (fun (r89 : ByteArray) => []) fun (r89 : ByteArray) =>
                        ((Orc.call [] [] (fun (r49 : ByteArray) => AV.sc (Value.string r49)) (fun (r49 : ByteArray) => []) fun (r49 : ByteArray) =>
                                  (((Orc.fin (AV.sc (Value.bool (bif true then r88.snd == (0 : Int) else false))) [] []).yes.br
                                              (Orc.fin (AV.sc (Value.bool false)) [] []).no).yes.yes.br
                                      (Orc.fin (AV.sc (Value.bool false)) [] []).no.no.no.no).yes).yes.br
                            (Orc.fin (AV.sc (Value.bool false)) [] []).no.no.no.no.no.no.no).yes).yes.br
                  (Orc.fin (AV.sc (Value.bool false)) [] []).no.no.no.no.no.no.no.no.no.no).yes).yes.br
        (Orc.fin (AV.sc (Value.bool false)) [] []).no.no.no.no.no.no.no.no.no.no.no.no.no) _ _ (by kernel_rfl) (by kernel_rfl) (show True ∧
  ∃ (r : Nat → Int),
    ((True ∧ True) ∧
        True ∧
          Ok Proofs.Try.prog (87 : Nat) [AV.sc (Value.string (ByteArray.mk #[(99 : UInt8), (97 : UInt8), (98 : UInt8)]))] []
            (AV.ar (4 : Nat) (1 : Nat) fun (i0 : Nat) => AV.sc (Value.int IntKind.u64 (r i0))) []) ∧
      True ∧
        ((0 : Nat) = (0 : Nat) ∧ True) ∧
          ∃ (r_1 : (Nat → Int) × Int),
            ((True ∧ True) ∧
                True ∧
                  Ok Proofs.Try.prog (88 : Nat) [AV.sc (Value.string (ByteArray.mk #[(91 : UInt8), (97 : UInt8), (45 : UInt8), (99 : UInt8), (93 : UInt8)]))] []
                    (AV.cons (1 : Nat) (AV.ar (4 : Nat) (1 : Nat) fun (i0 : Nat) => AV.sc (Value.int IntKind.u64 (r_1.fst i0)))
                        (AV.cons (1 : Nat) (AV.sc (Value.int IntKind.i64 r_1.snd)) AV.nil)).tup
                    []) ∧
              True ∧
                True ∧
                  True ∧
                    True ∧
                      ((0 : Nat) = (0 : Nat) ∧ True) ∧
                        True ∧
                          ((0 : Nat) = (0 : Nat) ∧ True) ∧
                            ∃ (r_2 : Bool),
                              ((True ∧ True ∧ True) ∧
                                  True ∧
                                    Ok Proofs.Try.prog (83 : Nat)
                                      [AV.ar (4 : Nat) (1 : Nat) fun (i : Nat) => AV.sc (Value.int IntKind.u64 (r i)), AV.sc (Value.int IntKind.u8 (98 : Int))]
                                      [] (AV.sc (Value.bool r_2)) []) ∧
                                True ∧
                                  (r_2 = true →
                                      ((0 : Nat) = (0 : Nat) ∧ True) ∧
                                        true = true ∧
                                          ∃ (r_3 : Bool),
                                            ((True ∧ True ∧ True) ∧
                                                True ∧
                                                  Ok Proofs.Try.prog (83 : Nat)
                                                    [AV.ar (4 : Nat) (1 : Nat) fun (i : Nat) => AV.sc (Value.int IntKind.u64 (r i)),
                                                      AV.sc (Value.int IntKind.u8 (100 : Int))]
                                                    [] (AV.sc (Value.bool r_3)) []) ∧
                                              true = true ∧
                                                True ∧
                                                  True ∧
                                                    True ∧
                                                      ((!r_3) = true →
                                                          ((0 : Nat) = (0 : Nat) ∧ True) ∧
                                                            true = true ∧
                                                              ∃ (r_4 : ByteArray),
                                                                ((True ∧ True) ∧
                                                                    True ∧
                                                                      Ok Proofs.Try.prog (89 : Nat)
                                                                        [AV.ar (4 : Nat) (1 : Nat) fun (i : Nat) => AV.sc (Value.int IntKind.u64 (r i))] []
                                                                        (AV.sc (Value.string r_4)) []) ∧
                                                                  true = true ∧
                                                                    True ∧
                                                                      True ∧
                                                                        True ∧
                                                                          ((r_4.toList == (ByteArray.mk #[(97 : UInt8), (98 : UInt8), (99 : UInt8)]).toList) =
                                                                                true →
                                                                              ((0 : Nat) = (0 : Nat) ∧ True) ∧
                                                                                true = true ∧
                                                                                  ∃ (r_5 : ByteArray),
                                                                                    ((True ∧ True) ∧
                                                                                        True ∧
                                                                                          Ok Proofs.Try.prog (49 : Nat)
                                                                                            [AV.ar (4 : Nat) (1 : Nat) fun (i : Nat) =>
                                                                                                AV.sc (Value.int IntKind.u64 (r i))]
                                                                                            [] (AV.sc (Value.string r_5)) []) ∧
                                                                                      true = true ∧
                                                                                        True ∧
                                                                                          True ∧
                                                                                            True ∧
                                                                                              ((r_5.toList ==
                                                                                                      (ByteArray.mk
                                                                                                          #[(91 : UInt8), (97 : UInt8), (45 : UInt8),
                                                                                                            (99 : UInt8), (93 : UInt8)]).toList) =
                                                                                                    true →
                                                                                                  ((0 : Nat) = (0 : Nat) ∧ True) ∧
                                                                                                    true = true ∧
                                                                                                      ((0 : Nat) = (0 : Nat) ∧ True) ∧
                                                                                                        true = true ∧
                                                                                                          (∀ (i : Nat),
                                                                                                              i < (4 : Nat) →
                                                                                                                (AV.sc (Value.int IntKind.u64 (r_1.fst i))).sz =
                                                                                                                    (1 : Nat) ∧
                                                                                                                  (AV.sc (Value.int IntKind.u64 (r i))).sz =
                                                                                                                      (1 : Nat) ∧
                                                                                                                    false = false ∧ false = false ∧ True) ∧
                                                                                                            True ∧
                                                                                                              True ∧
                                                                                                                (cdec
                                                                                                                        (∀ (i : Nat),
                                                                                                                          i < (4 : Nat) → r_1.fst i = r i) =
                                                                                                                      true →
                                                                                                                    True ∧
                                                                                                                      true = true ∧
                                                                                                                        True ∧
                                                                                                                          True ∧
                                                                                                                            True ∧
                                                                                                                              True ∧
                                                                                                                                ((True ∧
                                                                                                                                      Sub
                                                                                                                                          (AV.sc
                                                                                                                                            (Value.bool
                                                                                                                                              (r_1.snd ==
                                                                                                                                                (0 : Int))))
                                                                                                                                          (AV.sc
                                                                                                                                            (Value.bool
                                                                                                                                              (r_1.snd ==
                                                                                                                                                (0 : Int)))) ∧
                                                                                                                                        True) ∧
                                                                                                                                    True) ∧
                                                                                                                                  Sub
                                                                                                                                      (AV.sc
                                                                                                                                        (Value.bool
                                                                                                                                          (r_1.snd ==
                                                                                                                                            (0 : Int))))
                                                                                                                                      res ∧
                                                                                                                                    SubOut [] []) ∧
                                                                                                                  (cdec
                                                                                                                        (∀ (i : Nat),
                                                                                                                          i < (4 : Nat) → r_1.fst i = r i) =
                                                                                                                      !true →
                                                                                                                    true = true ∧
                                                                                                                      (!true) = !true ∧
                                                                                                                        true = true ∧
                                                                                                                          True ∧
                                                                                                                            True ∧
                                                                                                                              True ∧
                                                                                                                                ((True ∧
                                                                                                                                      Sub
                                                                                                                                          (AV.sc
                                                                                                                                            (Value.bool false))
                                                                                                                                          (AV.sc
                                                                                                                                            (Value.bool
                                                                                                                                              false)) ∧
                                                                                                                                        True) ∧
                                                                                                                                    True) ∧
                                                                                                                                  Sub (AV.sc (Value.bool false))
                                                                                                                                      res ∧
                                                                                                                                    SubOut [] [])) ∧
                                                                                                ((r_5.toList ==
                                                                                                      (ByteArray.mk
                                                                                                          #[(91 : UInt8), (97 : UInt8), (45 : UInt8),
                                                                                                            (99 : UInt8), (93 : UInt8)]).toList) =
                                                                                                    !true →
                                                                                                  true = true ∧
                                                                                                    (!true) = !true ∧
                                                                                                      true = true ∧
                                                                                                        (!true) = !true ∧
                                                                                                          true = true ∧
                                                                                                            True ∧
                                                                                                              True ∧
                                                                                                                false = !true ∧
                                                                                                                  true = true ∧
                                                                                                                    (!true) = !true ∧
                                                                                                                      true = true ∧
                                                                                                                        True ∧
                                                                                                                          True ∧
                                                                                                                            True ∧
                                                                                                                              ((True ∧
                                                                                                                                    Sub
                                                                                                                                        (AV.sc
                                                                                                                                          (Value.bool false))
                                                                                                                                        (AV.sc
                                                                                                                                          (Value.bool false)) ∧
                                                                                                                                      True) ∧
                                                                                                                                  True) ∧
                                                                                                                                Sub (AV.sc (Value.bool false))
                                                                                                                                    res ∧
                                                                                                                                  SubOut [] [])) ∧
                                                                            ((r_4.toList == (ByteArray.mk #[(97 : UInt8), (98 : UInt8), (99 : UInt8)]).toList) =
                                                                                !true →
                                                                              true = true ∧
                                                                                (!true) = !true ∧
                                                                                  true = true ∧
                                                                                    (!true) = !true ∧
                                                                                      true = true ∧
                                                                                        True ∧
                                                                                          True ∧
                                                                                            false = !true ∧
                                                                                              true = true ∧
                                                                                                (!true) = !true ∧
                                                                                                  true = true ∧
                                                                                                    (!true) = !true ∧
                                                                                                      true = true ∧
                                                                                                        True ∧
                                                                                                          True ∧
                                                                                                            false = !true ∧
                                                                                                              true = true ∧
                                                                                                                (!true) = !true ∧
                                                                                                                  true = true ∧
                                                                                                                    True ∧
                                                                                                                      True ∧
                                                                                                                        True ∧
                                                                                                                          ((True ∧
                                                                                                                                Sub (AV.sc (Value.bool false))
                                                                                                                                    (AV.sc (Value.bool false)) ∧
                                                                                                                                  True) ∧
                                                                                                                              True) ∧
                                                                                                                            Sub (AV.sc (Value.bool false)) res ∧
                                                                                                                              SubOut [] [])) ∧
                                                        ((!r_3) = !true →
                                                          true = true ∧
                                                            (!true) = !true ∧
                                                              true = true ∧
                                                                (!true) = !true ∧
                                                                  true = true ∧
                                                                    True ∧
                                                                      True ∧
                                                                        false = !true ∧
                                                                          true = true ∧
                                                                            (!true) = !true ∧
                                                                              true = true ∧
                                                                                (!true) = !true ∧
                                                                                  true = true ∧
                                                                                    True ∧
                                                                                      True ∧
                                                                                        false = !true ∧
                                                                                          true = true ∧
                                                                                            (!true) = !true ∧
                                                                                              true = true ∧
                                                                                                (!true) = !true ∧
                                                                                                  true = true ∧
                                                                                                    True ∧
                                                                                                      True ∧
                                                                                                        false = !true ∧
                                                                                                          true = true ∧
                                                                                                            (!true) = !true ∧
                                                                                                              true = true ∧
                                                                                                                True ∧
                                                                                                                  True ∧
                                                                                                                    True ∧
                                                                                                                      ((True ∧
                                                                                                                            Sub (AV.sc (Value.bool false))
                                                                                                                                (AV.sc (Value.bool false)) ∧
                                                                                                                              True) ∧
                                                                                                                          True) ∧
                                                                                                                        Sub (AV.sc (Value.bool false)) res ∧
                                                                                                                          SubOut [] [])) ∧
                                    (r_2 = !true →
                                      true = true ∧
                                        (!true) = !true ∧
                                          true = true ∧
                                            (!true) = !true ∧
                                              true = true ∧
                                                True ∧
                                                  True ∧
                                                    false = !true ∧
                                                      true = true ∧
                                                        (!true) = !true ∧
                                                          true = true ∧
                                                            (!true) = !true ∧
                                                              true = true ∧
                                                                True ∧
                                                                  True ∧
                                                                    false = !true ∧
                                                                      true = true ∧
                                                                        (!true) = !true ∧
                                                                          true = true ∧
                                                                            (!true) = !true ∧
                                                                              true = true ∧
                                                                                True ∧
                                                                                  True ∧
                                                                                    false = !true ∧
                                                                                      true = true ∧
                                                                                        (!true) = !true ∧
                                                                                          true = true ∧
                                                                                            (!true) = !true ∧
                                                                                              true = true ∧
                                                                                                True ∧
                                                                                                  True ∧
                                                                                                    false = !true ∧
                                                                                                      true = true ∧
                                                                                                        (!true) = !true ∧
                                                                                                          true = true ∧
                                                                                                            True ∧
                                                                                                              True ∧
                                                                                                                True ∧
                                                                                                                  ((True ∧
                                                                                                                        Sub (AV.sc (Value.bool false))
                                                                                                                            (AV.sc (Value.bool false)) ∧
                                                                                                                          True) ∧
                                                                                                                      True) ∧
                                                                                                                    Sub (AV.sc (Value.bool false)) res ∧
                                                                                                                      SubOut [] []) from
    ⟨trivial, (Exists.elim h fun x1 h1 => ⟨x1, (And.elim (fun h2 k2 => ⟨⟨⟨trivial, trivial⟩, ⟨trivial, h2⟩⟩, ⟨trivial, ⟨⟨rfl, trivial⟩, (Exists.elim k2 fun x5 h5 => ⟨x5, (And.elim (fun h6 k6 => ⟨⟨⟨trivial, trivial⟩, ⟨trivial, h6⟩⟩, ⟨trivial, ⟨trivial, ⟨trivial, ⟨trivial, ⟨⟨rfl, trivial⟩, ⟨trivial, ⟨⟨rfl, trivial⟩, (Exists.elim k6 fun x14 h14 => ⟨x14, (And.elim (fun h15 k15 => ⟨⟨⟨trivial, ⟨trivial, trivial⟩⟩, ⟨trivial, h15⟩⟩, ⟨trivial, (And.elim (fun h17 k17 => ⟨(fun x18 => (fun h18 => ⟨⟨rfl, trivial⟩, ⟨rfl, (Exists.elim h18 fun x21 h21 => ⟨x21, (And.elim (fun h22 k22 => ⟨⟨⟨trivial, ⟨trivial, trivial⟩⟩, ⟨trivial, h22⟩⟩, ⟨rfl, ⟨trivial, ⟨trivial, ⟨trivial, (And.elim (fun h27 k27 => ⟨(fun x28 => (fun h28 => ⟨⟨rfl, trivial⟩, ⟨rfl, (Exists.elim h28 fun x31 h31 => ⟨x31, (And.elim (fun h32 k32 => ⟨⟨⟨trivial, trivial⟩, ⟨trivial, h32⟩⟩, ⟨rfl, ⟨trivial, ⟨trivial, ⟨trivial, (And.elim (fun h37 k37 => ⟨(fun x38 => (fun h38 => ⟨⟨rfl, trivial⟩, ⟨rfl, (Exists.elim h38 fun x41 h41 => ⟨x41, (And.elim (fun h42 k42 => ⟨⟨⟨trivial, trivial⟩, ⟨trivial, h42⟩⟩, ⟨rfl, ⟨trivial, ⟨trivial, ⟨trivial, (And.elim (fun h47 k47 => ⟨(fun x48 => (fun h48 => ⟨⟨rfl, trivial⟩, ⟨rfl, ⟨⟨rfl, trivial⟩, ⟨rfl, (And.elim (fun h53 k53 => ⟨(fun x54 => (fun h54 => (fun x55 => (fun h55 => (And.elim (fun h56 k56 => ⟨h56, ⟨k56, ⟨rfl, ⟨rfl, trivial⟩⟩⟩⟩) h55)) (h54 x55))) (h53 x54)), ⟨trivial, ⟨trivial, (And.elim (fun h56 k56 => ⟨(fun x57 => (fun h57 => ⟨trivial, ⟨rfl, ⟨trivial, ⟨trivial, ⟨trivial, ⟨trivial, ⟨⟨⟨trivial, ⟨Sub.refl _, trivial⟩⟩, trivial⟩, ⟨h57, trivial⟩⟩⟩⟩⟩⟩⟩⟩) (h56 x57)), (fun x57 => (fun h57 => ⟨rfl, ⟨rfl, ⟨rfl, ⟨trivial, ⟨trivial, ⟨trivial, ⟨⟨⟨trivial, ⟨Sub.refl _, trivial⟩⟩, trivial⟩, ⟨h57, trivial⟩⟩⟩⟩⟩⟩⟩⟩) (k56 x57))⟩) k53)⟩⟩⟩) h48)⟩⟩⟩⟩) (h47 x48)), (fun x48 => (fun h48 => ⟨rfl, ⟨rfl, ⟨rfl, ⟨rfl, ⟨rfl, ⟨trivial, ⟨trivial, ⟨rfl, ⟨rfl, ⟨rfl, ⟨rfl, ⟨trivial, ⟨trivial, ⟨trivial, ⟨⟨⟨trivial, ⟨Sub.refl _, trivial⟩⟩, trivial⟩, ⟨h48, trivial⟩⟩⟩⟩⟩⟩⟩⟩⟩⟩⟩⟩⟩⟩⟩⟩) (k47 x48))⟩) k42)⟩⟩⟩⟩⟩) h41)⟩)⟩⟩) (h37 x38)), (fun x38 => (fun h38 => ⟨rfl, ⟨rfl, ⟨rfl, ⟨rfl, ⟨rfl, ⟨trivial, ⟨trivial, ⟨rfl, ⟨rfl, ⟨rfl, ⟨rfl, ⟨rfl, ⟨rfl, ⟨trivial, ⟨trivial, ⟨rfl, ⟨rfl, ⟨rfl, ⟨rfl, ⟨trivial, ⟨trivial, ⟨trivial, ⟨⟨⟨trivial, ⟨Sub.refl _, trivial⟩⟩, trivial⟩, ⟨h38, trivial⟩⟩⟩⟩⟩⟩⟩⟩⟩⟩⟩⟩⟩⟩⟩⟩⟩⟩⟩⟩⟩⟩⟩⟩) (k37 x38))⟩) k32)⟩⟩⟩⟩⟩) h31)⟩)⟩⟩) (h27 x28)), (fun x28 => (fun h28 => ⟨rfl, ⟨rfl, ⟨rfl, ⟨rfl, ⟨rfl, ⟨trivial, ⟨trivial, ⟨rfl, ⟨rfl, ⟨rfl, ⟨rfl, ⟨rfl, ⟨rfl, ⟨trivial, ⟨trivial, ⟨rfl, ⟨rfl, ⟨rfl, ⟨rfl, ⟨rfl, ⟨rfl, ⟨trivial, ⟨trivial, ⟨rfl, ⟨rfl, ⟨rfl, ⟨rfl, ⟨trivial, ⟨trivial, ⟨trivial, ⟨⟨⟨trivial, ⟨Sub.refl _, trivial⟩⟩, trivial⟩, ⟨h28, trivial⟩⟩⟩⟩⟩⟩⟩⟩⟩⟩⟩⟩⟩⟩⟩⟩⟩⟩⟩⟩⟩⟩⟩⟩⟩⟩⟩⟩⟩⟩⟩⟩) (k27 x28))⟩) k22)⟩⟩⟩⟩⟩) h21)⟩)⟩⟩) (h17 x18)), (fun x18 => (fun h18 => ⟨rfl, ⟨rfl, ⟨rfl, ⟨rfl, ⟨rfl, ⟨trivial, ⟨trivial, ⟨rfl, ⟨rfl, ⟨rfl, ⟨rfl, ⟨rfl, ⟨rfl, ⟨trivial, ⟨trivial, ⟨rfl, ⟨rfl, ⟨rfl, ⟨rfl, ⟨rfl, ⟨rfl, ⟨trivial, ⟨trivial, ⟨rfl, ⟨rfl, ⟨rfl, ⟨rfl, ⟨rfl, ⟨rfl, ⟨trivial, ⟨trivial, ⟨rfl, ⟨rfl, ⟨rfl, ⟨rfl, ⟨trivial, ⟨trivial, ⟨trivial, ⟨⟨⟨trivial, ⟨Sub.refl _, trivial⟩⟩, trivial⟩, ⟨h18, trivial⟩⟩⟩⟩⟩⟩⟩⟩⟩⟩⟩⟩⟩⟩⟩⟩⟩⟩⟩⟩⟩⟩⟩⟩⟩⟩⟩⟩⟩⟩⟩⟩⟩⟩⟩⟩⟩⟩⟩⟩) (k17 x18))⟩) k15)⟩⟩) h14)⟩)⟩⟩⟩⟩⟩⟩⟩⟩) h5)⟩)⟩⟩⟩) h1)⟩)⟩)
theorem hf81 : Go.Proofs.Try.prog.funcs[81]? = some Go.Proofs.Try.f81 := by kernel_rfl
abbrev s81_e (sf : Nat → Int) : List (Nat × AV) := [(0, (.ar 4 1 (fun i0 => (.sc (.int .u64 (sf i0))))))]
abbrev m81_e (sf : Nat → Int) : List (Nat × Nat × AV) := []
def L81_e (sf : Nat → Int) (res : AV) : Prop := Goes ⟨Go.Proofs.Try.prog, 81, [], res, []⟩ (place Go.Proofs.Try.f81 []) (s81_e sf) (m81_e sf)
theorem a81_e (sf : Nat → Int) (res : AV) (h : (∀ slot, fact (look .undef (s81_e sf) slot)) → L81_e sf res) : L81_e sf res :=
  assumeRule 81 [] Go.Proofs.Try.f81 hf81 [] (s81_e sf) (m81_e sf) res [] _ (by kernel_rfl) h
abbrev s81_0 (n : Int) (t6f : Nat → Int) (t7 : Int) : List (Nat × AV) := [(3, (.sc (.int .i64 n))), (6, (.ar 4 1 (fun i0 => (.sc (.int .u64 (t6f i0)))))), (7, (.sc (.int .i64 t7)))]
abbrev m81_0 (n : Int) (t6f : Nat → Int) (t7 : Int) : List (Nat × Nat × AV) := []
def L81_0 (n : Int) (t6f : Nat → Int) (t7 : Int) (res : AV) : Prop := Goes ⟨Go.Proofs.Try.prog, 81, [], res, []⟩ (place Go.Proofs.Try.f81 [1, 1, 0, 1, 0, 0]) (s81_0 n t6f t7) (m81_0 n t6f t7)
theorem a81_0 (n : Int) (t6f : Nat → Int) (t7 : Int) (res : AV) (h : (∀ slot, fact (look .undef (s81_0 n t6f t7) slot)) → L81_0 n t6f t7 res) : L81_0 n t6f t7 res :=
  assumeRule 81 [] Go.Proofs.Try.f81 hf81 [1, 1, 0, 1, 0, 0] (s81_0 n t6f t7) (m81_0 n t6f t7) res [] _ (by kernel_rfl) h
theorem o81 (sf : Nat → Int) (res : AV) (hnew : newOnly res) (h : L81_e sf res) : Ok Go.Proofs.Try.prog 81 [(.ar 4 1 (fun i0 => (.sc (.int .u64 (sf i0)))))] [] res [] :=
  okRule2 81 Go.Proofs.Try.f81 hf81 [(.ar 4 1 (fun i0 => (.sc (.int .u64 (sf i0)))))] [] res [] [] rfl (by kernel_rfl) (by kernel_rfl) (by kernel_rfl) ⟨hnew, by simp⟩ (L81_e sf res) (by kernel_rfl) h
theorem r81_e (sf : Nat → Int) (res : AV)
    (h : L81_0 (0 : Int) sf (0 : Int) res) :
    L81_e sf res :=
  rule Go.Am.Seat.tabOk 81 [] Go.Proofs.Try.f81 hf81 [] (s81_e sf) (m81_e sf) res [] 400
    (Orc.cut (nat_lit 9) (s81_0 (0 : Int) sf (0 : Int)) (m81_0 (0 : Int) sf (0 : Int)) []) _ _ (by kernel_rfl) (by kernel_rfl) (show True ∧
  True ∧
    True ∧
      ((0 : Nat) = (0 : Nat) ∧ True) ∧
        True ∧
          ((True ∧
                Sub (AV.sc (Value.int IntKind.i64 (0 : Int))) (AV.sc (Value.int IntKind.i64 (0 : Int))) ∧
                  True ∧
                    Sub (AV.ar (4 : Nat) (1 : Nat) fun (i0 : Nat) => AV.sc (Value.int IntKind.u64 (sf i0)))
                        (AV.ar (4 : Nat) (1 : Nat) fun (i0 : Nat) => AV.sc (Value.int IntKind.u64 (sf i0))) ∧
                      True ∧ Sub (AV.sc (Value.int IntKind.i64 (0 : Int))) (AV.sc (Value.int IntKind.i64 (0 : Int))) ∧ True) ∧
              True) ∧
            L81_0 (0 : Int) sf (0 : Int) res from
    ⟨trivial, ⟨trivial, ⟨trivial, ⟨⟨rfl, trivial⟩, ⟨trivial, ⟨⟨⟨trivial, ⟨Sub.refl _, ⟨trivial, ⟨Sub.refl _, ⟨trivial, ⟨Sub.refl _, trivial⟩⟩⟩⟩⟩⟩, trivial⟩, h⟩⟩⟩⟩⟩⟩)
theorem r81_0 (n : Int) (t6f : Nat → Int) (t7 : Int) (res : AV)
    (h : (decide (t7 < (4 : Int)) = true →
    ((0 : Int) ≤ t7 ∧ t7 < (↑(4 : Nat) : Int) ∧ (AV.sc (Value.int IntKind.u64 (t6f t7.toNat))).sz = (1 : Nat)) ∧
      ∃ (r : Int),
        Ok Proofs.Try.prog (99 : Nat) [AV.sc (Value.int IntKind.u64 (t6f t7.toNat))] [] (AV.sc (Value.int IntKind.i64 r)) [] ∧
          L81_0 (IntKind.i64.wrap (n + r)) t6f (IntKind.i64.wrap (t7 + (1 : Int))) res) ∧
  (decide (t7 < (4 : Int)) = false → Sub (AV.sc (Value.int IntKind.i64 n)) res)) :
    L81_0 n t6f t7 res :=
  rule Go.Am.Seat.tabOk 81 [] Go.Proofs.Try.f81 hf81 [1, 1, 0, 1, 0, 0] (s81_0 n t6f t7) (m81_0 n t6f t7) res [] 400
    ((Orc.call [] [] (fun (r99 : Int) => AV.sc (Value.int IntKind.i64 r99)) (fun (r99 : Int) => []) fun (r99 : Int) =>
      Orc.cut (nat_lit 3) (s81_0 (IntKind.i64.wrap (n + r99)) t6f (IntKind.i64.wrap (t7 + (1 : Int))))
        (m81_0 (IntKind.i64.wrap (n + r99)) t6f (IntKind.i64.wrap (t7 + (1 : Int)))) []).br
  (Orc.fin (AV.sc (Value.int IntKind.i64 n)) [] [])) _ _ (by kernel_rfl) (by kernel_rfl) (show True ∧
  (decide (t7 < (4 : Int)) = true →
      ((0 : Int) ≤ t7 ∧ t7 < (↑(4 : Nat) : Int) ∧ (AV.sc (Value.int IntKind.u64 (t6f t7.toNat))).sz = (1 : Nat) ∧ false = false) ∧
        True ∧
          True ∧
            True ∧
              ∃ (r : Int),
                ((True ∧ True) ∧ True ∧ Ok Proofs.Try.prog (99 : Nat) [AV.sc (Value.int IntKind.u64 (t6f t7.toNat))] [] (AV.sc (Value.int IntKind.i64 r)) []) ∧
                  True ∧
                    True ∧
                      True ∧
                        True ∧
                          ((True ∧
                                Sub (AV.sc (Value.int IntKind.i64 (IntKind.i64.wrap (n + r)))) (AV.sc (Value.int IntKind.i64 (IntKind.i64.wrap (n + r)))) ∧
                                  True ∧
                                    Sub (AV.ar (4 : Nat) (1 : Nat) fun (i0 : Nat) => AV.sc (Value.int IntKind.u64 (t6f i0)))
                                        (AV.ar (4 : Nat) (1 : Nat) fun (i0 : Nat) => AV.sc (Value.int IntKind.u64 (t6f i0))) ∧
                                      True ∧
                                        Sub (AV.sc (Value.int IntKind.i64 (IntKind.i64.wrap (t7 + (1 : Int)))))
                                            (AV.sc (Value.int IntKind.i64 (IntKind.i64.wrap (t7 + (1 : Int))))) ∧
                                          True) ∧
                              True) ∧
                            L81_0 (IntKind.i64.wrap (n + r)) t6f (IntKind.i64.wrap (t7 + (1 : Int))) res) ∧
    (decide (t7 < (4 : Int)) = false →
      True ∧
        True ∧
          True ∧
            ((True ∧ Sub (AV.sc (Value.int IntKind.i64 n)) (AV.sc (Value.int IntKind.i64 n)) ∧ True) ∧ True) ∧
              Sub (AV.sc (Value.int IntKind.i64 n)) res ∧ SubOut [] []) from
    ⟨trivial, (And.elim (fun h1 k1 => ⟨(fun x2 => (fun h2 => (And.elim (fun h3 k3 => ⟨(And.elim (fun h4 k4 => ⟨h4, (And.elim (fun h5 k5 => ⟨h5, ⟨k5, rfl⟩⟩) k4)⟩) h3), ⟨trivial, ⟨trivial, ⟨trivial, (Exists.elim k3 fun x7 h7 => ⟨x7, (And.elim (fun h8 k8 => ⟨⟨⟨trivial, trivial⟩, ⟨trivial, h8⟩⟩, ⟨trivial, ⟨trivial, ⟨trivial, ⟨trivial, ⟨⟨⟨trivial, ⟨Sub.refl _, ⟨trivial, ⟨Sub.refl _, ⟨trivial, ⟨Sub.refl _, trivial⟩⟩⟩⟩⟩⟩, trivial⟩, k8⟩⟩⟩⟩⟩⟩) h7)⟩)⟩⟩⟩⟩) h2)) (h1 x2)), (fun x2 => (fun h2 => ⟨trivial, ⟨trivial, ⟨trivial, ⟨⟨⟨trivial, ⟨Sub.refl _, trivial⟩⟩, trivial⟩, ⟨h2, trivial⟩⟩⟩⟩⟩) (k1 x2))⟩) h)⟩)
theorem hf82 : Go.Proofs.Try.prog.funcs[82]? = some Go.Proofs.Try.f82 := by kernel_rfl
abbrev s82_e (sf : Nat → Int) : List (Nat × AV) := [(0, (.ar 4 1 (fun i0 => (.sc (.int .u64 (sf i0))))))]
abbrev m82_e (sf : Nat → Int) : List (Nat × Nat × AV) := []
def L82_e (sf : Nat → Int) (res : AV) : Prop := Goes ⟨Go.Proofs.Try.prog, 82, [], res, []⟩ (place Go.Proofs.Try.f82 []) (s82_e sf) (m82_e sf)
theorem a82_e (sf : Nat → Int) (res : AV) (h : (∀ slot, fact (look .undef (s82_e sf) slot)) → L82_e sf res) : L82_e sf res :=
  assumeRule 82 [] Go.Proofs.Try.f82 hf82 [] (s82_e sf) (m82_e sf) res [] _ (by kernel_rfl) h
abbrev s82_0 (t4 : Int) (b0f : Nat → Int) (b1f : Nat → Int) : List (Nat × AV) := [(1, (.pt 1000 [] 0)), (2, (.pt 1001 [] 0)), (4, (.sc (.int .i64 t4)))]
abbrev m82_0 (t4 : Int) (b0f : Nat → Int) (b1f : Nat → Int) : List (Nat × Nat × AV) := [(1000, 50, (.ar 4 1 (fun i0 => (.sc (.int .u64 (b0f i0)))))), (1001, 50, (.ar 4 1 (fun i0 => (.sc (.int .u64 (b1f i0))))))]
def L82_0 (t4 : Int) (b0f : Nat → Int) (b1f : Nat → Int) (res : AV) : Prop := Goes ⟨Go.Proofs.Try.prog, 82, [], res, []⟩ (place Go.Proofs.Try.f82 [1, 0, 1, 0, 0]) (s82_0 t4 b0f b1f) (m82_0 t4 b0f b1f)
theorem a82_0 (t4 : Int) (b0f : Nat → Int) (b1f : Nat → Int) (res : AV) (h : (∀ slot, fact (look .undef (s82_0 t4 b0f b1f) slot)) → L82_0 t4 b0f b1f res) : L82_0 t4 b0f b1f res :=
  assumeRule 82 [] Go.Proofs.Try.f82 hf82 [1, 0, 1, 0, 0] (s82_0 t4 b0f b1f) (m82_0 t4 b0f b1f) res [] _ (by kernel_rfl) h
theorem o82 (sf : Nat → Int) (res : AV) (hnew : newOnly res) (h : L82_e sf res) : Ok Go.Proofs.Try.prog 82 [(.ar 4 1 (fun i0 => (.sc (.int .u64 (sf i0)))))] [] res [] :=
  okRule2 82 Go.Proofs.Try.f82 hf82 [(.ar 4 1 (fun i0 => (.sc (.int .u64 (sf i0)))))] [] res [] [] rfl (by kernel_rfl) (by kernel_rfl) (by kernel_rfl) ⟨hnew, by simp⟩ (L82_e sf res) (by kernel_rfl) h
theorem r82_e (sf : Nat → Int) (res : AV)
    (h : L82_0 (0 : Int) sf (fun (x : Nat) => (0 : Int)) res) :
    L82_e sf res :=
  rule Go.Am.Seat.tabOk 82 [] Go.Proofs.Try.f82 hf82 [] (s82_e sf) (m82_e sf) res [] 400
    (Orc.cut (nat_lit 7) (s82_0 (0 : Int) sf fun (x : Nat) => (0 : Int)) (m82_0 (0 : Int) sf fun (x : Nat) => (0 : Int))
  [((1000 : Nat), some (1 : Nat)), ((1001 : Nat), some (2 : Nat))]) _ _ (by kernel_rfl) (by kernel_rfl) (show True ∧
  True ∧
    True ∧
      ((True ∧
            Sub (AV.pt (1000 : Nat) [] (0 : Nat)) (AV.pt (1000 : Nat) [] (0 : Nat)) ∧
              True ∧
                Sub (AV.pt (1001 : Nat) [] (0 : Nat)) (AV.pt (1001 : Nat) [] (0 : Nat)) ∧
                  True ∧ Sub (AV.sc (Value.int IntKind.i64 (0 : Int))) (AV.sc (Value.int IntKind.i64 (0 : Int))) ∧ True) ∧
          True ∧
            SubB (AV.ar (4 : Nat) (1 : Nat) fun (i0 : Nat) => AV.sc (Value.int IntKind.u64 (sf i0)))
                (AV.ar (4 : Nat) (1 : Nat) fun (i0 : Nat) => AV.sc (Value.int IntKind.u64 (sf i0))) ∧
              True ∧
                SubB (AV.ar (4 : Nat) (1 : Nat) fun (x : Nat) => AV.sc (Value.int IntKind.u64 (0 : Int)))
                    (AV.ar (4 : Nat) (1 : Nat) fun (i0 : Nat) => AV.sc (Value.int IntKind.u64 (0 : Int))) ∧
                  True) ∧
        L82_0 (0 : Int) sf (fun (x : Nat) => (0 : Int)) res from
    ⟨trivial, ⟨trivial, ⟨trivial, ⟨⟨⟨trivial, ⟨Sub.refl _, ⟨trivial, ⟨Sub.refl _, ⟨trivial, ⟨Sub.refl _, trivial⟩⟩⟩⟩⟩⟩, ⟨trivial, ⟨SubB.refl _, ⟨trivial, ⟨SubB.refl _, trivial⟩⟩⟩⟩⟩, h⟩⟩⟩⟩)
theorem r82_0 (t4 : Int) (b0f : Nat → Int) (b1f : Nat → Int) (res : AV)
    (h : (decide (t4 < (4 : Int)) = true →
    ((0 : Int) ≤ t4 ∧ t4 < (↑(4 : Nat) : Int)) ∧
      t4.toNat < (4 : Nat) ∧
        ((0 : Int) ≤ t4 ∧ t4 < (↑(4 : Nat) : Int)) ∧
          t4.toNat < (4 : Nat) ∧
            L82_0 (IntKind.i64.wrap (t4 + (1 : Int)))
              (fun (i : Nat) =>
                bif i.beq t4.toNat then
                  IntKind.u64.wrap
                    (↑(BitVec.ofInt IntKind.u64.bits (if IntKind.u64.signed = true then (-1 : Int) else IntKind.u64.max) ^^^
                            BitVec.ofInt IntKind.u64.bits (b0f t4.toNat)).toNat :
                      Int)
                else b0f i)
              b1f res) ∧
  (decide (t4 < (4 : Int)) = false → Sub (AV.ar (4 : Nat) (1 : Nat) fun (i0 : Nat) => AV.sc (Value.int IntKind.u64 (b0f i0))) res)) :
    L82_0 t4 b0f b1f res :=
  rule Go.Am.Seat.tabOk 82 [] Go.Proofs.Try.f82 hf82 [1, 0, 1, 0, 0] (s82_0 t4 b0f b1f) (m82_0 t4 b0f b1f) res [] 400
    ((Orc.cut (nat_lit 9)
      (s82_0 (IntKind.i64.wrap (t4 + (1 : Int)))
        (fun (i : Nat) =>
          bif i.beq t4.toNat then
            IntKind.u64.wrap
              (↑(BitVec.ofInt IntKind.u64.bits (if IntKind.u64.signed = true then (-1 : Int) else IntKind.u64.max) ^^^
                      BitVec.ofInt IntKind.u64.bits (b0f t4.toNat)).toNat :
                Int)
          else b0f i)
        b1f)
      (m82_0 (IntKind.i64.wrap (t4 + (1 : Int)))
        (fun (i : Nat) =>
          bif i.beq t4.toNat then
            IntKind.u64.wrap
              (↑(BitVec.ofInt IntKind.u64.bits (if IntKind.u64.signed = true then (-1 : Int) else IntKind.u64.max) ^^^
                      BitVec.ofInt IntKind.u64.bits (b0f t4.toNat)).toNat :
                Int)
          else b0f i)
        b1f)
      [((1000 : Nat), some (1000 : Nat)), ((1001 : Nat), some (1001 : Nat))]).br
  (Orc.fin (AV.ar (4 : Nat) (1 : Nat) fun (i0 : Nat) => AV.sc (Value.int IntKind.u64 (b0f i0))) [] [])) _ _ (by kernel_rfl) (by kernel_rfl) (show True ∧
  (decide (t4 < (4 : Int)) = true →
      True ∧
        True ∧
          True ∧
            True ∧
              ((0 : Int) ≤ t4 ∧ t4 < (↑(4 : Nat) : Int)) ∧
                (t4.toNat * (1 : Nat) + (0 : Nat) = plus (0 : Nat) (t4.toNat * (1 : Nat)) ∧ t4.toNat < (4 : Nat) ∧ True) ∧
                  True ∧
                    ((0 : Int) ≤ t4 ∧ t4 < (↑(4 : Nat) : Int)) ∧
                      (t4.toNat * (1 : Nat) + (0 : Nat) = plus (0 : Nat) (t4.toNat * (1 : Nat)) ∧ (t4.toNat < (4 : Nat) ∧ True) ∧ True) ∧
                        True ∧
                          True ∧
                            ((True ∧
                                  Sub (AV.pt (1000 : Nat) [] (0 : Nat)) (AV.pt (1000 : Nat) [] (0 : Nat)) ∧
                                    True ∧
                                      Sub (AV.pt (1001 : Nat) [] (0 : Nat)) (AV.pt (1001 : Nat) [] (0 : Nat)) ∧
                                        True ∧
                                          Sub (AV.sc (Value.int IntKind.i64 (IntKind.i64.wrap (t4 + (1 : Int)))))
                                              (AV.sc (Value.int IntKind.i64 (IntKind.i64.wrap (t4 + (1 : Int))))) ∧
                                            True) ∧
                                True ∧
                                  SubB
                                      (AV.ar (4 : Nat) (1 : Nat) fun (i : Nat) =>
                                        AV.sc
                                          (Value.int IntKind.u64
                                            (bif i.beq t4.toNat then
                                              IntKind.u64.wrap
                                                (↑(BitVec.ofInt IntKind.u64.bits (if IntKind.u64.signed = true then (-1 : Int) else IntKind.u64.max) ^^^
                                                        BitVec.ofInt IntKind.u64.bits (b0f t4.toNat)).toNat :
                                                  Int)
                                            else b0f i)))
                                      (AV.ar (4 : Nat) (1 : Nat) fun (i0 : Nat) =>
                                        AV.sc
                                          (Value.int IntKind.u64
                                            (bif i0.beq t4.toNat then
                                              IntKind.u64.wrap
                                                (↑(BitVec.ofInt IntKind.u64.bits (if IntKind.u64.signed = true then (-1 : Int) else IntKind.u64.max) ^^^
                                                        BitVec.ofInt IntKind.u64.bits (b0f t4.toNat)).toNat :
                                                  Int)
                                            else b0f i0))) ∧
                                    True ∧
                                      SubB (AV.ar (4 : Nat) (1 : Nat) fun (i0 : Nat) => AV.sc (Value.int IntKind.u64 (b1f i0)))
                                          (AV.ar (4 : Nat) (1 : Nat) fun (i0 : Nat) => AV.sc (Value.int IntKind.u64 (b1f i0))) ∧
                                        True) ∧
                              L82_0 (IntKind.i64.wrap (t4 + (1 : Int)))
                                (fun (i : Nat) =>
                                  bif i.beq t4.toNat then
                                    IntKind.u64.wrap
                                      (↑(BitVec.ofInt IntKind.u64.bits (if IntKind.u64.signed = true then (-1 : Int) else IntKind.u64.max) ^^^
                                              BitVec.ofInt IntKind.u64.bits (b0f t4.toNat)).toNat :
                                        Int)
                                  else b0f i)
                                b1f res) ∧
    (decide (t4 < (4 : Int)) = false →
      ((0 : Nat) = (0 : Nat) ∧ True) ∧
        ((0 : Nat) = (0 : Nat) ∧ True) ∧
          ((0 : Nat) = (0 : Nat) ∧ True) ∧
            ((True ∧
                  Sub (AV.ar (4 : Nat) (1 : Nat) fun (i0 : Nat) => AV.sc (Value.int IntKind.u64 (b0f i0)))
                      (AV.ar (4 : Nat) (1 : Nat) fun (i0 : Nat) => AV.sc (Value.int IntKind.u64 (b0f i0))) ∧
                    True) ∧
                True) ∧
              Sub (AV.ar (4 : Nat) (1 : Nat) fun (i0 : Nat) => AV.sc (Value.int IntKind.u64 (b0f i0))) res ∧ SubOut [] []) from
    ⟨trivial, (And.elim (fun h1 k1 => ⟨(fun x2 => (fun h2 => ⟨trivial, ⟨trivial, ⟨trivial, ⟨trivial, (And.elim (fun h7 k7 => ⟨(And.elim (fun h8 k8 => ⟨h8, k8⟩) h7), (And.elim (fun h8 k8 => ⟨⟨rfl, ⟨h8, trivial⟩⟩, ⟨trivial, (And.elim (fun h10 k10 => ⟨(And.elim (fun h11 k11 => ⟨h11, k11⟩) h10), (And.elim (fun h11 k11 => ⟨⟨rfl, ⟨⟨h11, trivial⟩, trivial⟩⟩, ⟨trivial, ⟨trivial, ⟨⟨⟨trivial, ⟨Sub.refl _, ⟨trivial, ⟨Sub.refl _, ⟨trivial, ⟨Sub.refl _, trivial⟩⟩⟩⟩⟩⟩, ⟨trivial, ⟨SubB.refl _, ⟨trivial, ⟨SubB.refl _, trivial⟩⟩⟩⟩⟩, k11⟩⟩⟩⟩) k10)⟩) k8)⟩⟩) k7)⟩) h2)⟩⟩⟩⟩) (h1 x2)), (fun x2 => (fun h2 => ⟨⟨rfl, trivial⟩, ⟨⟨rfl, trivial⟩, ⟨⟨rfl, trivial⟩, ⟨⟨⟨trivial, ⟨Sub.refl _, trivial⟩⟩, trivial⟩, ⟨h2, trivial⟩⟩⟩⟩⟩) (k1 x2))⟩) h)⟩)
theorem hf83 : Go.Proofs.Try.prog.funcs[83]? = some Go.Proofs.Try.f83 := by kernel_rfl
abbrev s83_e (sf : Nat → Int) (b : Int) : List (Nat × AV) := [(0, (.ar 4 1 (fun i0 => (.sc (.int .u64 (sf i0)))))), (1, (.sc (.int .u8 b)))]
abbrev m83_e (sf : Nat → Int) (b : Int) : List (Nat × Nat × AV) := []
def L83_e (sf : Nat → Int) (b : Int) (res : AV) : Prop := Goes ⟨Go.Proofs.Try.prog, 83, [], res, []⟩ (place Go.Proofs.Try.f83 []) (s83_e sf b) (m83_e sf b)
theorem a83_e (sf : Nat → Int) (b : Int) (res : AV) (h : (∀ slot, fact (look .undef (s83_e sf b) slot)) → L83_e sf b res) : L83_e sf b res :=
  assumeRule 83 [] Go.Proofs.Try.f83 hf83 [] (s83_e sf b) (m83_e sf b) res [] _ (by kernel_rfl) h
theorem o83 (sf : Nat → Int) (b : Int) (res : AV) (hnew : newOnly res) (h : L83_e sf b res) : Ok Go.Proofs.Try.prog 83 [(.ar 4 1 (fun i0 => (.sc (.int .u64 (sf i0))))), (.sc (.int .u8 b))] [] res [] :=
  okRule2 83 Go.Proofs.Try.f83 hf83 [(.ar 4 1 (fun i0 => (.sc (.int .u64 (sf i0))))), (.sc (.int .u8 b))] [] res [] [] rfl (by kernel_rfl) (by kernel_rfl) (by kernel_rfl) ⟨hnew, by simp⟩ (L83_e sf b res) (by kernel_rfl) h
theorem r83_e (sf : Nat → Int) (b : Int) (res : AV)
    (h : ((0 : Int) ≤ IntKind.u8.wrap (b.tdiv (64 : Int)) ∧ IntKind.u8.wrap (b.tdiv (64 : Int)) < (↑(4 : Nat) : Int)) ∧
  (IntKind.u8.wrap (b.tdiv (64 : Int))).toNat < (4 : Nat) ∧
    (0 : Int) ≤ b.tmod (64 : Int) ∧
      Sub
        (AV.sc
          (Value.bool
            (IntKind.u64.wrap
                (↑(BitVec.ofInt IntKind.u64.bits
                          ((sf (IntKind.u8.wrap (b.tdiv (64 : Int))).toNat).fdiv ((2 : Int) ^ min (b.tmod (64 : Int)).toNat IntKind.u64.bits)) &&&
                        BitVec.ofInt IntKind.u64.bits (1 : Int)).toNat :
                  Int) ==
              (1 : Int))))
        res) :
    L83_e sf b res :=
  rule Go.Am.Seat.tabOk 83 [] Go.Proofs.Try.f83 hf83 [] (s83_e sf b) (m83_e sf b) res [] 400
    (Orc.fin
  (AV.sc
    (Value.bool
      (IntKind.u64.wrap
          (↑(BitVec.ofInt IntKind.u64.bits
                    ((sf (IntKind.u8.wrap (b.tdiv (64 : Int))).toNat).fdiv ((2 : Int) ^ min (b.tmod (64 : Int)).toNat IntKind.u64.bits)) &&&
                  BitVec.ofInt IntKind.u64.bits (1 : Int)).toNat :
            Int) ==
        (1 : Int))))
  [] []) _ _ (by kernel_rfl) (by kernel_rfl) (show True ∧
  True ∧
    True ∧
      (64 : Int) ≠ (0 : Int) ∧
        ((0 : Int) ≤ IntKind.u8.wrap (b.tdiv (64 : Int)) ∧ IntKind.u8.wrap (b.tdiv (64 : Int)) < (↑(4 : Nat) : Int)) ∧
          ((IntKind.u8.wrap (b.tdiv (64 : Int))).toNat * (1 : Nat) + (0 : Nat) = plus (0 : Nat) ((IntKind.u8.wrap (b.tdiv (64 : Int))).toNat * (1 : Nat)) ∧
              (IntKind.u8.wrap (b.tdiv (64 : Int))).toNat < (4 : Nat) ∧ True) ∧
            True ∧
              (64 : Int) ≠ (0 : Int) ∧
                (0 : Int) ≤ b.tmod (64 : Int) ∧
                  True ∧
                    True ∧
                      True ∧
                        True ∧
                          ((True ∧
                                Sub
                                    (AV.sc
                                      (Value.bool
                                        (IntKind.u64.wrap
                                            (↑(BitVec.ofInt IntKind.u64.bits
                                                      ((sf (IntKind.u8.wrap (b.tdiv (64 : Int))).toNat).fdiv
                                                        ((2 : Int) ^ min (b.tmod (64 : Int)).toNat IntKind.u64.bits)) &&&
                                                    BitVec.ofInt IntKind.u64.bits (1 : Int)).toNat :
                                              Int) ==
                                          (1 : Int))))
                                    (AV.sc
                                      (Value.bool
                                        (IntKind.u64.wrap
                                            (↑(BitVec.ofInt IntKind.u64.bits
                                                      ((sf (IntKind.u8.wrap (b.tdiv (64 : Int))).toNat).fdiv
                                                        ((2 : Int) ^ min (b.tmod (64 : Int)).toNat IntKind.u64.bits)) &&&
                                                    BitVec.ofInt IntKind.u64.bits (1 : Int)).toNat :
                                              Int) ==
                                          (1 : Int)))) ∧
                                  True) ∧
                              True) ∧
                            Sub
                                (AV.sc
                                  (Value.bool
                                    (IntKind.u64.wrap
                                        (↑(BitVec.ofInt IntKind.u64.bits
                                                  ((sf (IntKind.u8.wrap (b.tdiv (64 : Int))).toNat).fdiv
                                                    ((2 : Int) ^ min (b.tmod (64 : Int)).toNat IntKind.u64.bits)) &&&
                                                BitVec.ofInt IntKind.u64.bits (1 : Int)).toNat :
                                          Int) ==
                                      (1 : Int))))
                                res ∧
                              SubOut [] [] from
    ⟨trivial, ⟨trivial, ⟨trivial, ⟨(by decide), (And.elim (fun h4 k4 => ⟨(And.elim (fun h5 k5 => ⟨h5, k5⟩) h4), (And.elim (fun h5 k5 => ⟨⟨rfl, ⟨h5, trivial⟩⟩, ⟨trivial, ⟨(by decide), (And.elim (fun h8 k8 => ⟨h8, ⟨trivial, ⟨trivial, ⟨trivial, ⟨trivial, ⟨⟨⟨trivial, ⟨Sub.refl _, trivial⟩⟩, trivial⟩, ⟨k8, trivial⟩⟩⟩⟩⟩⟩⟩) k5)⟩⟩⟩) k4)⟩) h)⟩⟩⟩⟩)
theorem hf84 : Go.Proofs.Try.prog.funcs[84]? = some Go.Proofs.Try.f84 := by kernel_rfl
abbrev s84_e (out_n : Nat) (b : Int) (b1000n : Nat) (b1000f : Nat → Int) : List (Nat × AV) := [(0, (.rf 2000 1 0 out_n)), (1, (.sc (.int .u8 b)))]
abbrev m84_e (out_n : Nat) (b : Int) (b1000n : Nat) (b1000f : Nat → Int) : List (Nat × Nat × AV) := [(2000, 5, (.ar b1000n 1 (fun i0 => (.sc (.int .u8 (b1000f i0))))))]
def L84_e (out_n : Nat) (b : Int) (b1000n : Nat) (b1000f : Nat → Int) (res : AV) (out : List (Nat × Nat × AV)) : Prop := Goes ⟨Go.Proofs.Try.prog, 84, [], res, out⟩ (place Go.Proofs.Try.f84 []) (s84_e out_n b b1000n b1000f) (m84_e out_n b b1000n b1000f)
theorem a84_e (out_n : Nat) (b : Int) (b1000n : Nat) (b1000f : Nat → Int) (res : AV) (out : List (Nat × Nat × AV)) (h : (∀ slot, fact (look .undef (s84_e out_n b b1000n b1000f) slot)) → L84_e out_n b b1000n b1000f res out) : L84_e out_n b b1000n b1000f res out :=
  assumeRule 84 [] Go.Proofs.Try.f84 hf84 [] (s84_e out_n b b1000n b1000f) (m84_e out_n b b1000n b1000f) res out _ (by kernel_rfl) h
abbrev s84_0 (out_n : Nat) (b : Int) (b0n : Nat) (b0f : Nat → Int) : List (Nat × AV) := [(0, (.rf 1000 1 0 out_n)), (1, (.sc (.int .u8 b)))]
abbrev m84_0 (out_n : Nat) (b : Int) (b0n : Nat) (b0f : Nat → Int) : List (Nat × Nat × AV) := [(1000, 5, (.ar b0n 1 (fun i0 => (.sc (.int .u8 (b0f i0))))))]
def L84_0 (out_n : Nat) (b : Int) (b0n : Nat) (b0f : Nat → Int) (res : AV) (out : List (Nat × Nat × AV)) : Prop := Goes ⟨Go.Proofs.Try.prog, 84, [], res, out⟩ (place Go.Proofs.Try.f84 [1, 1, 1]) (s84_0 out_n b b0n b0f) (m84_0 out_n b b0n b0f)
theorem a84_0 (out_n : Nat) (b : Int) (b0n : Nat) (b0f : Nat → Int) (res : AV) (out : List (Nat × Nat × AV)) (h : (∀ slot, fact (look .undef (s84_0 out_n b b0n b0f) slot)) → L84_0 out_n b b0n b0f res out) : L84_0 out_n b b0n b0f res out :=
  assumeRule 84 [] Go.Proofs.Try.f84 hf84 [1, 1, 1] (s84_0 out_n b b0n b0f) (m84_0 out_n b b0n b0f) res out _ (by kernel_rfl) h
theorem o84 (out_n : Nat) (b : Int) (b1000n : Nat) (b1000f : Nat → Int) (res : AV) (out : List (Nat × Nat × AV)) (hnew : newOnly res ∧ ∀ q ∈ out, newOnly q.2.2) (hk : keptN [(2000, 5, (.ar b1000n 1 (fun i0 => (.sc (.int .u8 (b1000f i0))))))] out = []) (h : L84_e out_n b b1000n b1000f res out) : Ok Go.Proofs.Try.prog 84 [(.rf 2000 1 0 out_n), (.sc (.int .u8 b))] [(2000, 5, (.ar b1000n 1 (fun i0 => (.sc (.int .u8 (b1000f i0))))))] res out :=
  okRule2 84 Go.Proofs.Try.f84 hf84 [(.rf 2000 1 0 out_n), (.sc (.int .u8 b))] [(2000, 5, (.ar b1000n 1 (fun i0 => (.sc (.int .u8 (b1000f i0))))))] res out [] hk (by kernel_rfl) (by kernel_rfl) (by kernel_rfl) hnew (L84_e out_n b b1000n b1000f res out) (by kernel_rfl) h
theorem r84_e (out_n : Nat) (b : Int) (b1000n : Nat) (b1000f : Nat → Int) (res : AV) (out : List (Nat × Nat × AV))
    (h : ∃ (r : Int × Bool),
  Ok Proofs.Try.prog (100 : Nat) [AV.sc (Value.int IntKind.u8 b)] []
      (AV.cons (1 : Nat) (AV.sc (Value.int IntKind.u8 r.fst)) (AV.cons (1 : Nat) (AV.sc (Value.bool r.snd)) AV.nil)).tup [] ∧
    (r.snd = true →
        (out_n ≤ b1000n ∧ (0 : Nat) + (2 : Nat) ≤ (2 : Nat) ∧ (out_n + (2 : Nat)) * (1 : Nat) ≤ (140737488355328 : Nat) ∧ out_n + (2 : Nat) ≤ maxLen) ∧
          Sub (AV.rf (1000 : Nat) (1 : Nat) (0 : Nat) (out_n + (2 : Nat))) res ∧
            SubOut
              [((1000 : Nat), (5 : Nat),
                  AV.ar (out_n + (2 : Nat)) (1 : Nat) fun (i : Nat) =>
                    AV.sc
                      (Value.int IntKind.u8
                        (bif i.blt out_n then b1000f i
                        else
                          bif ((0 : Nat) + (i - out_n)).beq (1 : Nat) then r.fst
                          else bif ((0 : Nat) + (i - out_n)).beq (0 : Nat) then (92 : Int) else (0 : Int))))]
              out) ∧
      (r.snd = false →
        ∃ (r : Bool),
          Ok Proofs.Try.prog (101 : Nat) [AV.sc (Value.int IntKind.u8 b)] [] (AV.sc (Value.bool r)) [] ∧
            (r = true →
                (out_n ≤ b1000n ∧ (0 : Nat) + (1 : Nat) ≤ (1 : Nat) ∧ (out_n + (1 : Nat)) * (1 : Nat) ≤ (140737488355328 : Nat) ∧ out_n + (1 : Nat) ≤ maxLen) ∧
                  L84_0 (out_n + (1 : Nat)) b (out_n + (1 : Nat))
                    (fun (i : Nat) => bif i.blt out_n then b1000f i else bif ((0 : Nat) + (i - out_n)).beq (0 : Nat) then (92 : Int) else (0 : Int)) res out) ∧
              (r = false → L84_0 out_n b b1000n b1000f res out))) :
    L84_e out_n b b1000n b1000f res out :=
  rule Go.Am.Seat.tabOk 84 [] Go.Proofs.Try.f84 hf84 [] (s84_e out_n b b1000n b1000f) (m84_e out_n b b1000n b1000f) res out 400
    (Orc.call [] []
  (fun (r100 : Int × Bool) => (AV.cons (1 : Nat) (AV.sc (Value.int IntKind.u8 r100.fst)) (AV.cons (1 : Nat) (AV.sc (Value.bool r100.snd)) AV.nil)).tup)
  (fun (r100 : Int × Bool) => []) fun (r100 : Int × Bool) =>
  (Orc.fin (AV.rf (1000 : Nat) (1 : Nat) (0 : Nat) (out_n + (2 : Nat)))
        [((1000 : Nat), (5 : Nat),
            AV.ar (out_n + (2 : Nat)) (1 : Nat) fun (i : Nat) =>
              AV.sc
                (Value.int IntKind.u8
                  (bif i.blt out_n then b1000f i
                  else
                    bif ((0 : Nat) + (i - out_n)).beq ((1 : Nat), Operand.tmp (14 : Nat)).fst then r100.fst
                    else bif ((0 : Nat) + (i - out_n)).beq ((0 : Nat), Operand.const (Value.int IntKind.u8 (92 : Int))).fst then (92 : Int) else (0 : Int))))]
        [((1000 : Nat), some (16 : Nat))]).br
    (Orc.call [] [] (fun (r101 : Bool) => AV.sc (Value.bool r101)) (fun (r101 : Bool) => []) fun (r101 : Bool) =>
      (Orc.cut (nat_lit 1)
            (s84_0 (out_n + (1 : Nat)) b (out_n + (1 : Nat)) fun (i : Nat) =>
              bif i.blt out_n then b1000f i
              else bif ((0 : Nat) + (i - out_n)).beq ((0 : Nat), Operand.const (Value.int IntKind.u8 (92 : Int))).fst then (92 : Int) else (0 : Int))
            (m84_0 (out_n + (1 : Nat)) b (out_n + (1 : Nat)) fun (i : Nat) =>
              bif i.blt out_n then b1000f i
              else bif ((0 : Nat) + (i - out_n)).beq ((0 : Nat), Operand.const (Value.int IntKind.u8 (92 : Int))).fst then (92 : Int) else (0 : Int))
            [((1000 : Nat), some (21 : Nat))]).br
        (Orc.cut (nat_lit 1) (s84_0 out_n b b1000n b1000f) (m84_0 out_n b b1000n b1000f) [((1000 : Nat), some (2000 : Nat))]))) _ _ (by kernel_rfl) (by kernel_rfl) (show True ∧
  True ∧
    ∃ (r : Int × Bool),
      ((True ∧ True) ∧
          True ∧
            Ok Proofs.Try.prog (100 : Nat) [AV.sc (Value.int IntKind.u8 b)] []
              (AV.cons (1 : Nat) (AV.sc (Value.int IntKind.u8 r.fst)) (AV.cons (1 : Nat) (AV.sc (Value.bool r.snd)) AV.nil)).tup []) ∧
        True ∧
          True ∧
            True ∧
              True ∧
                True ∧
                  True ∧
                    (r.snd = true →
                        True ∧
                          True ∧
                            ((True ∧ True ∧ True) ∧ True) ∧
                              (out_n ≤ b1000n ∧
                                  ((0 : Nat) + (2 : Nat) ≤ (2 : Nat) ∧ (1 : Nat) = (1 : Nat)) ∧
                                    (out_n + (2 : Nat)) * (1 : Nat) ≤ (140737488355328 : Nat) ∧ out_n + (2 : Nat) ≤ maxLen) ∧
                                True ∧
                                  True ∧
                                    ((True ∧
                                          Sub (AV.rf (1000 : Nat) (1 : Nat) (0 : Nat) (out_n + (2 : Nat)))
                                              (AV.rf (1000 : Nat) (1 : Nat) (0 : Nat) (out_n + (2 : Nat))) ∧
                                            True) ∧
                                        True ∧
                                          SubB
                                              (AV.ar (out_n + (2 : Nat)) (1 : Nat) fun (i : Nat) =>
                                                AV.sc
                                                  (Value.int IntKind.u8
                                                    (bif i.blt out_n then b1000f i
                                                    else
                                                      bif ((0 : Nat) + (i - out_n)).beq (1 : Nat) then r.fst
                                                      else bif ((0 : Nat) + (i - out_n)).beq (0 : Nat) then (92 : Int) else (0 : Int))))
                                              (AV.ar (out_n + (2 : Nat)) (1 : Nat) fun (i : Nat) =>
                                                AV.sc
                                                  (Value.int IntKind.u8
                                                    (bif i.blt out_n then b1000f i
                                                    else
                                                      bif ((0 : Nat) + (i - out_n)).beq (1 : Nat) then r.fst
                                                      else bif ((0 : Nat) + (i - out_n)).beq (0 : Nat) then (92 : Int) else (0 : Int)))) ∧
                                            True) ∧
                                      Sub (AV.rf (1000 : Nat) (1 : Nat) (0 : Nat) (out_n + (2 : Nat))) res ∧
                                        SubOut
                                          [((1000 : Nat), (5 : Nat),
                                              AV.ar (out_n + (2 : Nat)) (1 : Nat) fun (i : Nat) =>
                                                AV.sc
                                                  (Value.int IntKind.u8
                                                    (bif i.blt out_n then b1000f i
                                                    else
                                                      bif ((0 : Nat) + (i - out_n)).beq (1 : Nat) then r.fst
                                                      else bif ((0 : Nat) + (i - out_n)).beq (0 : Nat) then (92 : Int) else (0 : Int))))]
                                          out) ∧
                      (r.snd = false →
                        True ∧
                          ∃ (r : Bool),
                            ((True ∧ True) ∧ True ∧ Ok Proofs.Try.prog (101 : Nat) [AV.sc (Value.int IntKind.u8 b)] [] (AV.sc (Value.bool r)) []) ∧
                              (r = true →
                                  True ∧
                                    ((True ∧ True) ∧ True) ∧
                                      (out_n ≤ b1000n ∧
                                          ((0 : Nat) + (1 : Nat) ≤ (1 : Nat) ∧ (1 : Nat) = (1 : Nat)) ∧
                                            (out_n + (1 : Nat)) * (1 : Nat) ≤ (140737488355328 : Nat) ∧ out_n + (1 : Nat) ≤ maxLen) ∧
                                        True ∧
                                          ((True ∧
                                                Sub (AV.rf (1000 : Nat) (1 : Nat) (0 : Nat) (out_n + (1 : Nat)))
                                                    (AV.rf (1000 : Nat) (1 : Nat) (0 : Nat) (out_n + (1 : Nat))) ∧
                                                  True ∧ Sub (AV.sc (Value.int IntKind.u8 b)) (AV.sc (Value.int IntKind.u8 b)) ∧ True) ∧
                                              True ∧
                                                SubB
                                                    (AV.ar (out_n + (1 : Nat)) (1 : Nat) fun (i : Nat) =>
                                                      AV.sc
                                                        (Value.int IntKind.u8
                                                          (bif i.blt out_n then b1000f i
                                                          else bif ((0 : Nat) + (i - out_n)).beq (0 : Nat) then (92 : Int) else (0 : Int))))
                                                    (AV.ar (out_n + (1 : Nat)) (1 : Nat) fun (i0 : Nat) =>
                                                      AV.sc
                                                        (Value.int IntKind.u8
                                                          (bif i0.blt out_n then b1000f i0
                                                          else bif ((0 : Nat) + (i0 - out_n)).beq (0 : Nat) then (92 : Int) else (0 : Int)))) ∧
                                                  True) ∧
                                            L84_0 (out_n + (1 : Nat)) b (out_n + (1 : Nat))
                                              (fun (i : Nat) =>
                                                bif i.blt out_n then b1000f i else bif ((0 : Nat) + (i - out_n)).beq (0 : Nat) then (92 : Int) else (0 : Int))
                                              res out) ∧
                                (r = false →
                                  ((True ∧
                                        Sub (AV.rf (1000 : Nat) (1 : Nat) (0 : Nat) out_n) (AV.rf (1000 : Nat) (1 : Nat) (0 : Nat) out_n) ∧
                                          True ∧ Sub (AV.sc (Value.int IntKind.u8 b)) (AV.sc (Value.int IntKind.u8 b)) ∧ True) ∧
                                      True ∧
                                        SubB (AV.ar b1000n (1 : Nat) fun (i0 : Nat) => AV.sc (Value.int IntKind.u8 (b1000f i0)))
                                            (AV.ar b1000n (1 : Nat) fun (i0 : Nat) => AV.sc (Value.int IntKind.u8 (b1000f i0))) ∧
                                          True) ∧
                                    L84_0 out_n b b1000n b1000f res out)) from
    ⟨trivial, ⟨trivial, (Exists.elim h fun x2 h2 => ⟨x2, (And.elim (fun h3 k3 => ⟨⟨⟨trivial, trivial⟩, ⟨trivial, h3⟩⟩, ⟨trivial, ⟨trivial, ⟨trivial, ⟨trivial, ⟨trivial, ⟨trivial, (And.elim (fun h10 k10 => ⟨(fun x11 => (fun h11 => ⟨trivial, ⟨trivial, ⟨⟨⟨trivial, ⟨trivial, trivial⟩⟩, trivial⟩, (And.elim (fun h15 k15 => ⟨(And.elim (fun h16 k16 => ⟨h16, (And.elim (fun h17 k17 => ⟨⟨h17, rfl⟩, (And.elim (fun h18 k18 => ⟨h18, k18⟩) k17)⟩) k16)⟩) h15), ⟨trivial, ⟨trivial, ⟨⟨⟨trivial, ⟨Sub.refl _, trivial⟩⟩, ⟨trivial, ⟨SubB.refl _, trivial⟩⟩⟩, (And.elim (fun h19 k19 => ⟨h19, k19⟩) k15)⟩⟩⟩⟩) h11)⟩⟩⟩) (h10 x11)), (fun x11 => (fun h11 => ⟨trivial, (Exists.elim h11 fun x13 h13 => ⟨x13, (And.elim (fun h14 k14 => ⟨⟨⟨trivial, trivial⟩, ⟨trivial, h14⟩⟩, (And.elim (fun h15 k15 => ⟨(fun x16 => (fun h16 => ⟨trivial, ⟨⟨⟨trivial, trivial⟩, trivial⟩, (And.elim (fun h19 k19 => ⟨(And.elim (fun h20 k20 => ⟨h20, (And.elim (fun h21 k21 => ⟨⟨h21, rfl⟩, (And.elim (fun h22 k22 => ⟨h22, k22⟩) k21)⟩) k20)⟩) h19), ⟨trivial, ⟨⟨⟨trivial, ⟨Sub.refl _, ⟨trivial, ⟨Sub.refl _, trivial⟩⟩⟩⟩, ⟨trivial, ⟨SubB.refl _, trivial⟩⟩⟩, k19⟩⟩⟩) h16)⟩⟩) (h15 x16)), (fun x16 => (fun h16 => ⟨⟨⟨trivial, ⟨Sub.refl _, ⟨trivial, ⟨Sub.refl _, trivial⟩⟩⟩⟩, ⟨trivial, ⟨SubB.refl _, trivial⟩⟩⟩, h16⟩) (k15 x16))⟩) k14)⟩) h13)⟩)⟩) (k10 x11))⟩) k3)⟩⟩⟩⟩⟩⟩⟩) h2)⟩)⟩⟩)
theorem r84_0 (out_n : Nat) (b : Int) (b0n : Nat) (b0f : Nat → Int) (res : AV) (out : List (Nat × Nat × AV))
    (h : (out_n ≤ b0n ∧ (0 : Nat) + (1 : Nat) ≤ (1 : Nat) ∧ (out_n + (1 : Nat)) * (1 : Nat) ≤ (140737488355328 : Nat) ∧ out_n + (1 : Nat) ≤ maxLen) ∧
  Sub (AV.rf (1000 : Nat) (1 : Nat) (0 : Nat) (out_n + (1 : Nat))) res ∧
    SubOut
      [((1000 : Nat), (5 : Nat),
          AV.ar (out_n + (1 : Nat)) (1 : Nat) fun (i : Nat) =>
            AV.sc (Value.int IntKind.u8 (bif i.blt out_n then b0f i else bif ((0 : Nat) + (i - out_n)).beq (0 : Nat) then b else (0 : Int))))]
      out) :
    L84_0 out_n b b0n b0f res out :=
  rule Go.Am.Seat.tabOk 84 [] Go.Proofs.Try.f84 hf84 [1, 1, 1] (s84_0 out_n b b0n b0f) (m84_0 out_n b b0n b0f) res out 400
    (Orc.fin (AV.rf (1000 : Nat) (1 : Nat) (0 : Nat) (out_n + (1 : Nat)))
  [((1000 : Nat), (5 : Nat),
      AV.ar (out_n + (1 : Nat)) (1 : Nat) fun (i : Nat) =>
        AV.sc
          (Value.int IntKind.u8
            (bif i.blt out_n then b0f i else bif ((0 : Nat) + (i - out_n)).beq ((0 : Nat), Operand.tmp (23 : Nat)).fst then b else (0 : Int))))]
  [((1000 : Nat), some (25 : Nat))]) _ _ (by kernel_rfl) (by kernel_rfl) (show True ∧
  True ∧
    ((True ∧ True) ∧ True) ∧
      (out_n ≤ b0n ∧
          ((0 : Nat) + (1 : Nat) ≤ (1 : Nat) ∧ (1 : Nat) = (1 : Nat)) ∧
            (out_n + (1 : Nat)) * (1 : Nat) ≤ (140737488355328 : Nat) ∧ out_n + (1 : Nat) ≤ maxLen) ∧
        True ∧
          True ∧
            ((True ∧ Sub (AV.rf (1000 : Nat) (1 : Nat) (0 : Nat) (out_n + (1 : Nat))) (AV.rf (1000 : Nat) (1 : Nat) (0 : Nat) (out_n + (1 : Nat))) ∧ True) ∧
                True ∧
                  SubB
                      (AV.ar (out_n + (1 : Nat)) (1 : Nat) fun (i : Nat) =>
                        AV.sc (Value.int IntKind.u8 (bif i.blt out_n then b0f i else bif ((0 : Nat) + (i - out_n)).beq (0 : Nat) then b else (0 : Int))))
                      (AV.ar (out_n + (1 : Nat)) (1 : Nat) fun (i : Nat) =>
                        AV.sc (Value.int IntKind.u8 (bif i.blt out_n then b0f i else bif ((0 : Nat) + (i - out_n)).beq (0 : Nat) then b else (0 : Int)))) ∧
                    True) ∧
              Sub (AV.rf (1000 : Nat) (1 : Nat) (0 : Nat) (out_n + (1 : Nat))) res ∧
                SubOut
                  [((1000 : Nat), (5 : Nat),
                      AV.ar (out_n + (1 : Nat)) (1 : Nat) fun (i : Nat) =>
                        AV.sc (Value.int IntKind.u8 (bif i.blt out_n then b0f i else bif ((0 : Nat) + (i - out_n)).beq (0 : Nat) then b else (0 : Int))))]
                  out from
    ⟨trivial, ⟨trivial, ⟨⟨⟨trivial, trivial⟩, trivial⟩, (And.elim (fun h3 k3 => ⟨(And.elim (fun h4 k4 => ⟨h4, (And.elim (fun h5 k5 => ⟨⟨h5, rfl⟩, (And.elim (fun h6 k6 => ⟨h6, k6⟩) k5)⟩) k4)⟩) h3), ⟨trivial, ⟨trivial, ⟨⟨⟨trivial, ⟨Sub.refl _, trivial⟩⟩, ⟨trivial, ⟨SubB.refl _, trivial⟩⟩⟩, (And.elim (fun h7 k7 => ⟨h7, k7⟩) k3)⟩⟩⟩⟩) h)⟩⟩⟩)
theorem hf85 : Go.Proofs.Try.prog.funcs[85]? = some Go.Proofs.Try.f85 := by kernel_rfl
abbrev s85_e (ff : Nat → Bool) : List (Nat × AV) := [(0, (.ar 256 1 (fun i0 => (.sc (.bool (ff i0))))))]
abbrev m85_e (ff : Nat → Bool) : List (Nat × Nat × AV) := []
def L85_e (ff : Nat → Bool) (res : AV) : Prop := Goes ⟨Go.Proofs.Try.prog, 85, [], res, []⟩ (place Go.Proofs.Try.f85 []) (s85_e ff) (m85_e ff)
theorem a85_e (ff : Nat → Bool) (res : AV) (h : (∀ slot, fact (look .undef (s85_e ff) slot)) → L85_e ff res) : L85_e ff res :=
  assumeRule 85 [] Go.Proofs.Try.f85 hf85 [] (s85_e ff) (m85_e ff) res [] _ (by kernel_rfl) h
abbrev s85_0 (n : Int) (b : Int) (b0f : Nat → Bool) : List (Nat × AV) := [(1, (.pt 1000 [] 0)), (3, (.sc (.int .i64 n))), (4, (.sc (.int .i64 b)))]
abbrev m85_0 (n : Int) (b : Int) (b0f : Nat → Bool) : List (Nat × Nat × AV) := [(1000, 89, (.ar 256 1 (fun i0 => (.sc (.bool (b0f i0))))))]
def L85_0 (n : Int) (b : Int) (b0f : Nat → Bool) (res : AV) : Prop := Goes ⟨Go.Proofs.Try.prog, 85, [], res, []⟩ (place Go.Proofs.Try.f85 [1, 1, 0, 1, 0, 0]) (s85_0 n b b0f) (m85_0 n b b0f)
theorem a85_0 (n : Int) (b : Int) (b0f : Nat → Bool) (res : AV) (h : (∀ slot, fact (look .undef (s85_0 n b b0f) slot)) → L85_0 n b b0f res) : L85_0 n b b0f res :=
  assumeRule 85 [] Go.Proofs.Try.f85 hf85 [1, 1, 0, 1, 0, 0] (s85_0 n b b0f) (m85_0 n b b0f) res [] _ (by kernel_rfl) h
abbrev s85_1 (n : Int) (b : Int) (b0f : Nat → Bool) : List (Nat × AV) := [(1, (.pt 1000 [] 0)), (3, (.sc (.int .i64 n))), (4, (.sc (.int .i64 b)))]
abbrev m85_1 (n : Int) (b : Int) (b0f : Nat → Bool) : List (Nat × Nat × AV) := [(1000, 89, (.ar 256 1 (fun i0 => (.sc (.bool (b0f i0))))))]
def L85_1 (n : Int) (b : Int) (b0f : Nat → Bool) (res : AV) : Prop := Goes ⟨Go.Proofs.Try.prog, 85, [], res, []⟩ (place Go.Proofs.Try.f85 [1, 1, 0, 1, 0, 0, 1, 1]) (s85_1 n b b0f) (m85_1 n b b0f)
theorem a85_1 (n : Int) (b : Int) (b0f : Nat → Bool) (res : AV) (h : (∀ slot, fact (look .undef (s85_1 n b b0f) slot)) → L85_1 n b b0f res) : L85_1 n b b0f res :=
  assumeRule 85 [] Go.Proofs.Try.f85 hf85 [1, 1, 0, 1, 0, 0, 1, 1] (s85_1 n b b0f) (m85_1 n b b0f) res [] _ (by kernel_rfl) h
theorem o85 (ff : Nat → Bool) (res : AV) (hnew : newOnly res) (h : L85_e ff res) : Ok Go.Proofs.Try.prog 85 [(.ar 256 1 (fun i0 => (.sc (.bool (ff i0)))))] [] res [] :=
  okRule2 85 Go.Proofs.Try.f85 hf85 [(.ar 256 1 (fun i0 => (.sc (.bool (ff i0)))))] [] res [] [] rfl (by kernel_rfl) (by kernel_rfl) (by kernel_rfl) ⟨hnew, by simp⟩ (L85_e ff res) (by kernel_rfl) h
theorem r85_e (ff : Nat → Bool) (res : AV)
    (h : L85_0 (0 : Int) (0 : Int) ff res) :
    L85_e ff res :=
  rule Go.Am.Seat.tabOk 85 [] Go.Proofs.Try.f85 hf85 [] (s85_e ff) (m85_e ff) res [] 400
    (Orc.cut (nat_lit 9) (s85_0 (0 : Int) (0 : Int) ff) (m85_0 (0 : Int) (0 : Int) ff) [((1000 : Nat), some (1 : Nat))]) _ _ (by kernel_rfl) (by kernel_rfl) (show True ∧
  True ∧
    True ∧
      True ∧
        ((True ∧
              Sub (AV.pt (1000 : Nat) [] (0 : Nat)) (AV.pt (1000 : Nat) [] (0 : Nat)) ∧
                True ∧
                  Sub (AV.sc (Value.int IntKind.i64 (0 : Int))) (AV.sc (Value.int IntKind.i64 (0 : Int))) ∧
                    True ∧ Sub (AV.sc (Value.int IntKind.i64 (0 : Int))) (AV.sc (Value.int IntKind.i64 (0 : Int))) ∧ True) ∧
            True ∧
              SubB (AV.ar (256 : Nat) (1 : Nat) fun (i0 : Nat) => AV.sc (Value.bool (ff i0)))
                  (AV.ar (256 : Nat) (1 : Nat) fun (i0 : Nat) => AV.sc (Value.bool (ff i0))) ∧
                True) ∧
          L85_0 (0 : Int) (0 : Int) ff res from
    ⟨trivial, ⟨trivial, ⟨trivial, ⟨trivial, ⟨⟨⟨trivial, ⟨Sub.refl _, ⟨trivial, ⟨Sub.refl _, ⟨trivial, ⟨Sub.refl _, trivial⟩⟩⟩⟩⟩⟩, ⟨trivial, ⟨SubB.refl _, trivial⟩⟩⟩, h⟩⟩⟩⟩⟩)
theorem r85_0 (n : Int) (b : Int) (b0f : Nat → Bool) (res : AV)
    (h : (decide (b < (256 : Int)) = true →
    ((0 : Int) ≤ b ∧ b < (↑(256 : Nat) : Int)) ∧
      b.toNat < (256 : Nat) ∧ (b0f b.toNat = true → L85_1 (IntKind.i64.wrap (n + (1 : Int))) b b0f res) ∧ (b0f b.toNat = false → L85_1 n b b0f res)) ∧
  (decide (b < (256 : Int)) = false → Sub (AV.sc (Value.int IntKind.i64 n)) res)) :
    L85_0 n b b0f res :=
  rule Go.Am.Seat.tabOk 85 [] Go.Proofs.Try.f85 hf85 [1, 1, 0, 1, 0, 0] (s85_0 n b b0f) (m85_0 n b b0f) res [] 400
    (((Orc.cut (nat_lit 2) (s85_1 (IntKind.i64.wrap (n + (1 : Int))) b b0f) (m85_1 (IntKind.i64.wrap (n + (1 : Int))) b b0f) [((1000 : Nat), some (1000 : Nat))]).br
      (Orc.cut (nat_lit 2) (s85_1 n b b0f) (m85_1 n b b0f) [((1000 : Nat), some (1000 : Nat))])).br
  (Orc.fin (AV.sc (Value.int IntKind.i64 n)) [] [])) _ _ (by kernel_rfl) (by kernel_rfl) (show True ∧
  True ∧
    (decide (b < (256 : Int)) = true →
        True ∧
          ((0 : Int) ≤ b ∧ b < (↑(256 : Nat) : Int)) ∧
            (b.toNat * (1 : Nat) + (0 : Nat) = plus (0 : Nat) (b.toNat * (1 : Nat)) ∧ b.toNat < (256 : Nat) ∧ True) ∧
              (b0f b.toNat = true →
                  True ∧
                    True ∧
                      True ∧
                        ((True ∧
                              Sub (AV.pt (1000 : Nat) [] (0 : Nat)) (AV.pt (1000 : Nat) [] (0 : Nat)) ∧
                                True ∧
                                  Sub (AV.sc (Value.int IntKind.i64 (IntKind.i64.wrap (n + (1 : Int)))))
                                      (AV.sc (Value.int IntKind.i64 (IntKind.i64.wrap (n + (1 : Int))))) ∧
                                    True ∧ Sub (AV.sc (Value.int IntKind.i64 b)) (AV.sc (Value.int IntKind.i64 b)) ∧ True) ∧
                            True ∧
                              SubB (AV.ar (256 : Nat) (1 : Nat) fun (i0 : Nat) => AV.sc (Value.bool (b0f i0)))
                                  (AV.ar (256 : Nat) (1 : Nat) fun (i0 : Nat) => AV.sc (Value.bool (b0f i0))) ∧
                                True) ∧
                          L85_1 (IntKind.i64.wrap (n + (1 : Int))) b b0f res) ∧
                (b0f b.toNat = false →
                  ((True ∧
                        Sub (AV.pt (1000 : Nat) [] (0 : Nat)) (AV.pt (1000 : Nat) [] (0 : Nat)) ∧
                          True ∧
                            Sub (AV.sc (Value.int IntKind.i64 n)) (AV.sc (Value.int IntKind.i64 n)) ∧
                              True ∧ Sub (AV.sc (Value.int IntKind.i64 b)) (AV.sc (Value.int IntKind.i64 b)) ∧ True) ∧
                      True ∧
                        SubB (AV.ar (256 : Nat) (1 : Nat) fun (i0 : Nat) => AV.sc (Value.bool (b0f i0)))
                            (AV.ar (256 : Nat) (1 : Nat) fun (i0 : Nat) => AV.sc (Value.bool (b0f i0))) ∧
                          True) ∧
                    L85_1 n b b0f res)) ∧
      (decide (b < (256 : Int)) = false →
        True ∧
          True ∧
            True ∧
              ((True ∧ Sub (AV.sc (Value.int IntKind.i64 n)) (AV.sc (Value.int IntKind.i64 n)) ∧ True) ∧ True) ∧
                Sub (AV.sc (Value.int IntKind.i64 n)) res ∧ SubOut [] []) from
    ⟨trivial, ⟨trivial, (And.elim (fun h2 k2 => ⟨(fun x3 => (fun h3 => ⟨trivial, (And.elim (fun h5 k5 => ⟨(And.elim (fun h6 k6 => ⟨h6, k6⟩) h5), (And.elim (fun h6 k6 => ⟨⟨rfl, ⟨h6, trivial⟩⟩, (And.elim (fun h7 k7 => ⟨(fun x8 => (fun h8 => ⟨trivial, ⟨trivial, ⟨trivial, ⟨⟨⟨trivial, ⟨Sub.refl _, ⟨trivial, ⟨Sub.refl _, ⟨trivial, ⟨Sub.refl _, trivial⟩⟩⟩⟩⟩⟩, ⟨trivial, ⟨SubB.refl _, trivial⟩⟩⟩, h8⟩⟩⟩⟩) (h7 x8)), (fun x8 => (fun h8 => ⟨⟨⟨trivial, ⟨Sub.refl _, ⟨trivial, ⟨Sub.refl _, ⟨trivial, ⟨Sub.refl _, trivial⟩⟩⟩⟩⟩⟩, ⟨trivial, ⟨SubB.refl _, trivial⟩⟩⟩, h8⟩) (k7 x8))⟩) k6)⟩) k5)⟩) h3)⟩) (h2 x3)), (fun x3 => (fun h3 => ⟨trivial, ⟨trivial, ⟨trivial, ⟨⟨⟨trivial, ⟨Sub.refl _, trivial⟩⟩, trivial⟩, ⟨h3, trivial⟩⟩⟩⟩⟩) (k2 x3))⟩) h)⟩⟩)
theorem r85_1 (n : Int) (b : Int) (b0f : Nat → Bool) (res : AV)
    (h : L85_0 n (IntKind.i64.wrap (b + (1 : Int))) b0f res) :
    L85_1 n b b0f res :=
  rule Go.Am.Seat.tabOk 85 [] Go.Proofs.Try.f85 hf85 [1, 1, 0, 1, 0, 0, 1, 1] (s85_1 n b b0f) (m85_1 n b b0f) res [] 400
    (Orc.cut (nat_lit 2) (s85_0 n (IntKind.i64.wrap (b + (1 : Int))) b0f) (m85_0 n (IntKind.i64.wrap (b + (1 : Int))) b0f) [((1000 : Nat), some (1000 : Nat))]) _ _ (by kernel_rfl) (by kernel_rfl) (show True ∧
  True ∧
    True ∧
      ((True ∧
            Sub (AV.pt (1000 : Nat) [] (0 : Nat)) (AV.pt (1000 : Nat) [] (0 : Nat)) ∧
              True ∧
                Sub (AV.sc (Value.int IntKind.i64 n)) (AV.sc (Value.int IntKind.i64 n)) ∧
                  True ∧
                    Sub (AV.sc (Value.int IntKind.i64 (IntKind.i64.wrap (b + (1 : Int))))) (AV.sc (Value.int IntKind.i64 (IntKind.i64.wrap (b + (1 : Int))))) ∧
                      True) ∧
          True ∧
            SubB (AV.ar (256 : Nat) (1 : Nat) fun (i0 : Nat) => AV.sc (Value.bool (b0f i0)))
                (AV.ar (256 : Nat) (1 : Nat) fun (i0 : Nat) => AV.sc (Value.bool (b0f i0))) ∧
              True) ∧
        L85_0 n (IntKind.i64.wrap (b + (1 : Int))) b0f res from
    ⟨trivial, ⟨trivial, ⟨trivial, ⟨⟨⟨trivial, ⟨Sub.refl _, ⟨trivial, ⟨Sub.refl _, ⟨trivial, ⟨Sub.refl _, trivial⟩⟩⟩⟩⟩⟩, ⟨trivial, ⟨SubB.refl _, trivial⟩⟩⟩, h⟩⟩⟩⟩)
theorem hf86 : Go.Proofs.Try.prog.funcs[86]? = some Go.Proofs.Try.f86 := by kernel_rfl
abbrev s86_e (ff : Nat → Bool) : List (Nat × AV) := [(0, (.ar 256 1 (fun i0 => (.sc (.bool (ff i0))))))]
abbrev m86_e (ff : Nat → Bool) : List (Nat × Nat × AV) := []
def L86_e (ff : Nat → Bool) (res : AV) : Prop := Goes ⟨Go.Proofs.Try.prog, 86, [], res, []⟩ (place Go.Proofs.Try.f86 []) (s86_e ff) (m86_e ff)
theorem a86_e (ff : Nat → Bool) (res : AV) (h : (∀ slot, fact (look .undef (s86_e ff) slot)) → L86_e ff res) : L86_e ff res :=
  assumeRule 86 [] Go.Proofs.Try.f86 hf86 [] (s86_e ff) (m86_e ff) res [] _ (by kernel_rfl) h
abbrev s86_0 (out_ : ByteArray) (b : Int) (b0f : Nat → Bool) : List (Nat × AV) := [(1, (.pt 1000 [] 0)), (3, (.sc (.string out_))), (4, (.sc (.int .i64 b)))]
abbrev m86_0 (out_ : ByteArray) (b : Int) (b0f : Nat → Bool) : List (Nat × Nat × AV) := [(1000, 89, (.ar 256 1 (fun i0 => (.sc (.bool (b0f i0))))))]
def L86_0 (out_ : ByteArray) (b : Int) (b0f : Nat → Bool) (res : AV) : Prop := Goes ⟨Go.Proofs.Try.prog, 86, [], res, []⟩ (place Go.Proofs.Try.f86 [1, 1, 0, 1, 0, 0]) (s86_0 out_ b b0f) (m86_0 out_ b b0f)
theorem a86_0 (out_ : ByteArray) (b : Int) (b0f : Nat → Bool) (res : AV) (h : (∀ slot, fact (look .undef (s86_0 out_ b b0f) slot)) → L86_0 out_ b b0f res) : L86_0 out_ b b0f res :=
  assumeRule 86 [] Go.Proofs.Try.f86 hf86 [1, 1, 0, 1, 0, 0] (s86_0 out_ b b0f) (m86_0 out_ b b0f) res [] _ (by kernel_rfl) h
abbrev s86_1 (out_ : ByteArray) (b : Int) (last : Int) (b0f : Nat → Bool) : List (Nat × AV) := [(1, (.pt 1000 [] 0)), (3, (.sc (.string out_))), (4, (.sc (.int .i64 b))), (5, (.sc (.int .i64 last)))]
abbrev m86_1 (out_ : ByteArray) (b : Int) (last : Int) (b0f : Nat → Bool) : List (Nat × Nat × AV) := [(1000, 89, (.ar 256 1 (fun i0 => (.sc (.bool (b0f i0))))))]
def L86_1 (out_ : ByteArray) (b : Int) (last : Int) (b0f : Nat → Bool) (res : AV) : Prop := Goes ⟨Go.Proofs.Try.prog, 86, [], res, []⟩ (place Go.Proofs.Try.f86 [1, 1, 0, 1, 0, 0, 1, 0, 0, 1, 1, 0, 0, 0]) (s86_1 out_ b last b0f) (m86_1 out_ b last b0f)
theorem a86_1 (out_ : ByteArray) (b : Int) (last : Int) (b0f : Nat → Bool) (res : AV) (h : (∀ slot, fact (look .undef (s86_1 out_ b last b0f) slot)) → L86_1 out_ b last b0f res) : L86_1 out_ b last b0f res :=
  assumeRule 86 [] Go.Proofs.Try.f86 hf86 [1, 1, 0, 1, 0, 0, 1, 0, 0, 1, 1, 0, 0, 0] (s86_1 out_ b last b0f) (m86_1 out_ b last b0f) res [] _ (by kernel_rfl) h
abbrev s86_2 (out_ : ByteArray) (b : Int) (b0f : Nat → Bool) : List (Nat × AV) := [(1, (.pt 1000 [] 0)), (3, (.sc (.string out_))), (4, (.sc (.int .i64 b)))]
abbrev m86_2 (out_ : ByteArray) (b : Int) (b0f : Nat → Bool) : List (Nat × Nat × AV) := [(1000, 89, (.ar 256 1 (fun i0 => (.sc (.bool (b0f i0))))))]
def L86_2 (out_ : ByteArray) (b : Int) (b0f : Nat → Bool) (res : AV) : Prop := Goes ⟨Go.Proofs.Try.prog, 86, [], res, []⟩ (place Go.Proofs.Try.f86 [1, 1, 0, 1, 0, 0, 1, 1]) (s86_2 out_ b b0f) (m86_2 out_ b b0f)
theorem a86_2 (out_ : ByteArray) (b : Int) (b0f : Nat → Bool) (res : AV) (h : (∀ slot, fact (look .undef (s86_2 out_ b b0f) slot)) → L86_2 out_ b b0f res) : L86_2 out_ b b0f res :=
  assumeRule 86 [] Go.Proofs.Try.f86 hf86 [1, 1, 0, 1, 0, 0, 1, 1] (s86_2 out_ b b0f) (m86_2 out_ b b0f) res [] _ (by kernel_rfl) h
theorem o86 (ff : Nat → Bool) (res : AV) (hnew : newOnly res) (h : L86_e ff res) : Ok Go.Proofs.Try.prog 86 [(.ar 256 1 (fun i0 => (.sc (.bool (ff i0)))))] [] res [] :=
  okRule2 86 Go.Proofs.Try.f86 hf86 [(.ar 256 1 (fun i0 => (.sc (.bool (ff i0)))))] [] res [] [] rfl (by kernel_rfl) (by kernel_rfl) (by kernel_rfl) ⟨hnew, by simp⟩ (L86_e ff res) (by kernel_rfl) h
theorem r86_e (ff : Nat → Bool) (res : AV)
    (h : L86_0 (ByteArray.mk #[]) (0 : Int) ff res) :
    L86_e ff res :=
  rule Go.Am.Seat.tabOk 86 [] Go.Proofs.Try.f86 hf86 [] (s86_e ff) (m86_e ff) res [] 400
    (Orc.cut (nat_lit 9) (s86_0 (ByteArray.mk #[]) (0 : Int) ff) (m86_0 (ByteArray.mk #[]) (0 : Int) ff) [((1000 : Nat), some (1 : Nat))]) _ _ (by kernel_rfl) (by kernel_rfl) (show True ∧
  True ∧
    True ∧
      True ∧
        ((True ∧
              Sub (AV.pt (1000 : Nat) [] (0 : Nat)) (AV.pt (1000 : Nat) [] (0 : Nat)) ∧
                True ∧
                  Sub (AV.sc (Value.string (ByteArray.mk #[]))) (AV.sc (Value.string (ByteArray.mk #[]))) ∧
                    True ∧ Sub (AV.sc (Value.int IntKind.i64 (0 : Int))) (AV.sc (Value.int IntKind.i64 (0 : Int))) ∧ True) ∧
            True ∧
              SubB (AV.ar (256 : Nat) (1 : Nat) fun (i0 : Nat) => AV.sc (Value.bool (ff i0)))
                  (AV.ar (256 : Nat) (1 : Nat) fun (i0 : Nat) => AV.sc (Value.bool (ff i0))) ∧
                True) ∧
          L86_0 (ByteArray.mk #[]) (0 : Int) ff res from
    ⟨trivial, ⟨trivial, ⟨trivial, ⟨trivial, ⟨⟨⟨trivial, ⟨Sub.refl _, ⟨trivial, ⟨Sub.refl _, ⟨trivial, ⟨Sub.refl _, trivial⟩⟩⟩⟩⟩⟩, ⟨trivial, ⟨SubB.refl _, trivial⟩⟩⟩, h⟩⟩⟩⟩⟩)
theorem r86_0 (out_ : ByteArray) (b : Int) (b0f : Nat → Bool) (res : AV)
    (h : (decide (b < (256 : Int)) = true →
    ((0 : Int) ≤ b ∧ b < (↑(256 : Nat) : Int)) ∧
      b.toNat < (256 : Nat) ∧ ((!b0f b.toNat) = true → L86_2 out_ b b0f res) ∧ ((!b0f b.toNat) = false → L86_1 out_ b b b0f res)) ∧
  (decide (b < (256 : Int)) = false → Sub (AV.sc (Value.string out_)) res)) :
    L86_0 out_ b b0f res :=
  rule Go.Am.Seat.tabOk 86 [] Go.Proofs.Try.f86 hf86 [1, 1, 0, 1, 0, 0] (s86_0 out_ b b0f) (m86_0 out_ b b0f) res [] 400
    (((Orc.cut (nat_lit 1) (s86_2 out_ b b0f) (m86_2 out_ b b0f) [((1000 : Nat), some (1000 : Nat))]).br
      (Orc.cut (nat_lit 6) (s86_1 out_ b b b0f) (m86_1 out_ b b b0f) [((1000 : Nat), some (1000 : Nat))])).br
  (Orc.fin (AV.sc (Value.string out_)) [] [])) _ _ (by kernel_rfl) (by kernel_rfl) (show True ∧
  True ∧
    (decide (b < (256 : Int)) = true →
        True ∧
          ((0 : Int) ≤ b ∧ b < (↑(256 : Nat) : Int)) ∧
            (b.toNat * (1 : Nat) + (0 : Nat) = plus (0 : Nat) (b.toNat * (1 : Nat)) ∧ b.toNat < (256 : Nat) ∧ True) ∧
              True ∧
                ((!b0f b.toNat) = true →
                    ((True ∧
                          Sub (AV.pt (1000 : Nat) [] (0 : Nat)) (AV.pt (1000 : Nat) [] (0 : Nat)) ∧
                            True ∧
                              Sub (AV.sc (Value.string out_)) (AV.sc (Value.string out_)) ∧
                                True ∧ Sub (AV.sc (Value.int IntKind.i64 b)) (AV.sc (Value.int IntKind.i64 b)) ∧ True) ∧
                        True ∧
                          SubB (AV.ar (256 : Nat) (1 : Nat) fun (i0 : Nat) => AV.sc (Value.bool (b0f i0)))
                              (AV.ar (256 : Nat) (1 : Nat) fun (i0 : Nat) => AV.sc (Value.bool (b0f i0))) ∧
                            True) ∧
                      L86_2 out_ b b0f res) ∧
                  ((!b0f b.toNat) = false →
                    True ∧
                      True ∧
                        ((True ∧
                              Sub (AV.pt (1000 : Nat) [] (0 : Nat)) (AV.pt (1000 : Nat) [] (0 : Nat)) ∧
                                True ∧
                                  Sub (AV.sc (Value.string out_)) (AV.sc (Value.string out_)) ∧
                                    True ∧
                                      Sub (AV.sc (Value.int IntKind.i64 b)) (AV.sc (Value.int IntKind.i64 b)) ∧
                                        True ∧ Sub (AV.sc (Value.int IntKind.i64 b)) (AV.sc (Value.int IntKind.i64 b)) ∧ True) ∧
                            True ∧
                              SubB (AV.ar (256 : Nat) (1 : Nat) fun (i0 : Nat) => AV.sc (Value.bool (b0f i0)))
                                  (AV.ar (256 : Nat) (1 : Nat) fun (i0 : Nat) => AV.sc (Value.bool (b0f i0))) ∧
                                True) ∧
                          L86_1 out_ b b b0f res)) ∧
      (decide (b < (256 : Int)) = false →
        True ∧
          True ∧
            True ∧ ((True ∧ Sub (AV.sc (Value.string out_)) (AV.sc (Value.string out_)) ∧ True) ∧ True) ∧ Sub (AV.sc (Value.string out_)) res ∧ SubOut [] []) from
    ⟨trivial, ⟨trivial, (And.elim (fun h2 k2 => ⟨(fun x3 => (fun h3 => ⟨trivial, (And.elim (fun h5 k5 => ⟨(And.elim (fun h6 k6 => ⟨h6, k6⟩) h5), (And.elim (fun h6 k6 => ⟨⟨rfl, ⟨h6, trivial⟩⟩, ⟨trivial, (And.elim (fun h8 k8 => ⟨(fun x9 => (fun h9 => ⟨⟨⟨trivial, ⟨Sub.refl _, ⟨trivial, ⟨Sub.refl _, ⟨trivial, ⟨Sub.refl _, trivial⟩⟩⟩⟩⟩⟩, ⟨trivial, ⟨SubB.refl _, trivial⟩⟩⟩, h9⟩) (h8 x9)), (fun x9 => (fun h9 => ⟨trivial, ⟨trivial, ⟨⟨⟨trivial, ⟨Sub.refl _, ⟨trivial, ⟨Sub.refl _, ⟨trivial, ⟨Sub.refl _, ⟨trivial, ⟨Sub.refl _, trivial⟩⟩⟩⟩⟩⟩⟩⟩, ⟨trivial, ⟨SubB.refl _, trivial⟩⟩⟩, h9⟩⟩⟩) (k8 x9))⟩) k6)⟩⟩) k5)⟩) h3)⟩) (h2 x3)), (fun x3 => (fun h3 => ⟨trivial, ⟨trivial, ⟨trivial, ⟨⟨⟨trivial, ⟨Sub.refl _, trivial⟩⟩, trivial⟩, ⟨h3, trivial⟩⟩⟩⟩⟩) (k2 x3))⟩) h)⟩⟩)
theorem r86_1 (out_ : ByteArray) (b : Int) (last : Int) (b0f : Nat → Bool) (res : AV)
    (h : (decide (IntKind.i64.wrap (last + (1 : Int)) < (256 : Int)) = true →
    ((0 : Int) ≤ IntKind.i64.wrap (last + (1 : Int)) ∧ IntKind.i64.wrap (last + (1 : Int)) < (↑(256 : Nat) : Int)) ∧
      (IntKind.i64.wrap (last + (1 : Int))).toNat < (256 : Nat) ∧
        (b0f (IntKind.i64.wrap (last + (1 : Int))).toNat = true → L86_1 out_ b (IntKind.i64.wrap (last + (1 : Int))) b0f res) ∧
          (b0f (IntKind.i64.wrap (last + (1 : Int))).toNat = false →
            (decide (IntKind.i64.wrap (last - b) ≥ (2 : Int)) = true →
                ∃ (r : ByteArray),
                  Ok Proofs.Try.prog (102 : Nat) [AV.sc (Value.int IntKind.u8 (IntKind.u8.wrap b))] [] (AV.sc (Value.string r)) [] ∧
                    out_.size + r.size ≤ (9223372036854775807 : Nat) ∧
                      (out_ ++ r).size + (ByteArray.mk #[(45 : UInt8)]).size ≤ (9223372036854775807 : Nat) ∧
                        ∃ (r_1 : ByteArray),
                          Ok Proofs.Try.prog (102 : Nat) [AV.sc (Value.int IntKind.u8 (IntKind.u8.wrap last))] [] (AV.sc (Value.string r_1)) [] ∧
                            (out_ ++ r ++ ByteArray.mk #[(45 : UInt8)]).size + r_1.size ≤ (9223372036854775807 : Nat) ∧
                              L86_2 (out_ ++ r ++ ByteArray.mk #[(45 : UInt8)] ++ r_1) last b0f res) ∧
              (decide (IntKind.i64.wrap (last - b) ≥ (2 : Int)) = false →
                ∃ (r : ByteArray),
                  Ok Proofs.Try.prog (102 : Nat) [AV.sc (Value.int IntKind.u8 (IntKind.u8.wrap b))] [] (AV.sc (Value.string r)) [] ∧
                    out_.size + r.size ≤ (9223372036854775807 : Nat) ∧ L86_2 (out_ ++ r) b b0f res))) ∧
  (decide (IntKind.i64.wrap (last + (1 : Int)) < (256 : Int)) = !true →
    (decide (IntKind.i64.wrap (last - b) ≥ (2 : Int)) = true →
        ∃ (r : ByteArray),
          Ok Proofs.Try.prog (102 : Nat) [AV.sc (Value.int IntKind.u8 (IntKind.u8.wrap b))] [] (AV.sc (Value.string r)) [] ∧
            out_.size + r.size ≤ (9223372036854775807 : Nat) ∧
              (out_ ++ r).size + (ByteArray.mk #[(45 : UInt8)]).size ≤ (9223372036854775807 : Nat) ∧
                ∃ (r_1 : ByteArray),
                  Ok Proofs.Try.prog (102 : Nat) [AV.sc (Value.int IntKind.u8 (IntKind.u8.wrap last))] [] (AV.sc (Value.string r_1)) [] ∧
                    (out_ ++ r ++ ByteArray.mk #[(45 : UInt8)]).size + r_1.size ≤ (9223372036854775807 : Nat) ∧
                      L86_2 (out_ ++ r ++ ByteArray.mk #[(45 : UInt8)] ++ r_1) last b0f res) ∧
      (decide (IntKind.i64.wrap (last - b) ≥ (2 : Int)) = false →
        ∃ (r : ByteArray),
          Ok Proofs.Try.prog (102 : Nat) [AV.sc (Value.int IntKind.u8 (IntKind.u8.wrap b))] [] (AV.sc (Value.string r)) [] ∧
            out_.size + r.size ≤ (9223372036854775807 : Nat) ∧ L86_2 (out_ ++ r) b b0f res))) :
    L86_1 out_ b last b0f res :=
  rule Go.Am.Seat.tabOk 86 [] Go.Proofs.Try.f86 hf86 [1, 1, 0, 1, 0, 0, 1, 0, 0, 1, 1, 0, 0, 0] (s86_1 out_ b last b0f) (m86_1 out_ b last b0f) res [] 400
    (((Orc.cut (nat_lit 5) (s86_1 out_ b (IntKind.i64.wrap (last + (1 : Int))) b0f) (m86_1 out_ b (IntKind.i64.wrap (last + (1 : Int))) b0f)
                [((1000 : Nat), some (1000 : Nat))]).br
            ((Orc.call [] [] (fun (r102 : ByteArray) => AV.sc (Value.string r102)) (fun (r102 : ByteArray) => []) fun (r102 : ByteArray) =>
                  Orc.call [] [] (fun (r102 : ByteArray) => AV.sc (Value.string r102)) (fun (r102 : ByteArray) => []) fun (r102_1 : ByteArray) =>
                    Orc.cut (nat_lit 3) (s86_2 (out_ ++ r102 ++ ByteArray.mk #[(45 : UInt8)] ++ r102_1) last b0f)
                      (m86_2 (out_ ++ r102 ++ ByteArray.mk #[(45 : UInt8)] ++ r102_1) last b0f) [((1000 : Nat), some (1000 : Nat))]).br
              (Orc.call [] [] (fun (r102 : ByteArray) => AV.sc (Value.string r102)) (fun (r102 : ByteArray) => []) fun (r102 : ByteArray) =>
                Orc.cut (nat_lit 1) (s86_2 (out_ ++ r102) b b0f) (m86_2 (out_ ++ r102) b b0f) [((1000 : Nat), some (1000 : Nat))]))).yes.yes.yes.br
  ((Orc.call [] [] (fun (r102 : ByteArray) => AV.sc (Value.string r102)) (fun (r102 : ByteArray) => []) fun (r102 : ByteArray) =>
                Orc.call [] [] (fun (r102 : ByteArray) => AV.sc (Value.string r102)) (fun (r102 : ByteArray) => []) fun (r102_1 : ByteArray) =>
                  Orc.cut (nat_lit 3) (s86_2 (out_ ++ r102 ++ ByteArray.mk #[(45 : UInt8)] ++ r102_1) last b0f)
                    (m86_2 (out_ ++ r102 ++ ByteArray.mk #[(45 : UInt8)] ++ r102_1) last b0f) [((1000 : Nat), some (1000 : Nat))]).br
            (Orc.call [] [] (fun (r102 : ByteArray) => AV.sc (Value.string r102)) (fun (r102 : ByteArray) => []) fun (r102 : ByteArray) =>
              Orc.cut (nat_lit 1) (s86_2 (out_ ++ r102) b b0f) (m86_2 (out_ ++ r102) b b0f) [((1000 : Nat), some (1000 : Nat))])).no.no.no.no) _ _ (by kernel_rfl) (by kernel_rfl) (show True ∧
  True ∧
    True ∧
      True ∧
        (decide (IntKind.i64.wrap (last + (1 : Int)) < (256 : Int)) = true →
            True ∧
              true = true ∧
                True ∧
                  true = true ∧
                    ((0 : Int) ≤ IntKind.i64.wrap (last + (1 : Int)) ∧ IntKind.i64.wrap (last + (1 : Int)) < (↑(256 : Nat) : Int)) ∧
                      true = true ∧
                        ((IntKind.i64.wrap (last + (1 : Int))).toNat * (1 : Nat) + (0 : Nat) =
                              plus (0 : Nat) ((IntKind.i64.wrap (last + (1 : Int))).toNat * (1 : Nat)) ∧
                            (IntKind.i64.wrap (last + (1 : Int))).toNat < (256 : Nat) ∧ True) ∧
                          True ∧
                            (b0f (IntKind.i64.wrap (last + (1 : Int))).toNat = true →
                                True ∧
                                  True ∧
                                    True ∧
                                      ((True ∧
                                            Sub (AV.pt (1000 : Nat) [] (0 : Nat)) (AV.pt (1000 : Nat) [] (0 : Nat)) ∧
                                              True ∧
                                                Sub (AV.sc (Value.string out_)) (AV.sc (Value.string out_)) ∧
                                                  True ∧
                                                    Sub (AV.sc (Value.int IntKind.i64 b)) (AV.sc (Value.int IntKind.i64 b)) ∧
                                                      True ∧
                                                        Sub (AV.sc (Value.int IntKind.i64 (IntKind.i64.wrap (last + (1 : Int)))))
                                                            (AV.sc (Value.int IntKind.i64 (IntKind.i64.wrap (last + (1 : Int))))) ∧
                                                          True) ∧
                                          True ∧
                                            SubB (AV.ar (256 : Nat) (1 : Nat) fun (i0 : Nat) => AV.sc (Value.bool (b0f i0)))
                                                (AV.ar (256 : Nat) (1 : Nat) fun (i0 : Nat) => AV.sc (Value.bool (b0f i0))) ∧
                                              True) ∧
                                        L86_1 out_ b (IntKind.i64.wrap (last + (1 : Int))) b0f res) ∧
                              (b0f (IntKind.i64.wrap (last + (1 : Int))).toNat = false →
                                True ∧
                                  True ∧
                                    True ∧
                                      True ∧
                                        (decide (IntKind.i64.wrap (last - b) ≥ (2 : Int)) = true →
                                            True ∧
                                              True ∧
                                                True ∧
                                                  ∃ (r : ByteArray),
                                                    ((True ∧ True) ∧
                                                        True ∧
                                                          Ok Proofs.Try.prog (102 : Nat) [AV.sc (Value.int IntKind.u8 (IntKind.u8.wrap b))] []
                                                            (AV.sc (Value.string r)) []) ∧
                                                      out_.size + r.size ≤ (9223372036854775807 : Nat) ∧
                                                        (out_ ++ r).size + (ByteArray.mk #[(45 : UInt8)]).size ≤ (9223372036854775807 : Nat) ∧
                                                          True ∧
                                                            True ∧
                                                              ∃ (r_1 : ByteArray),
                                                                ((True ∧ True) ∧
                                                                    True ∧
                                                                      Ok Proofs.Try.prog (102 : Nat) [AV.sc (Value.int IntKind.u8 (IntKind.u8.wrap last))] []
                                                                        (AV.sc (Value.string r_1)) []) ∧
                                                                  (out_ ++ r ++ ByteArray.mk #[(45 : UInt8)]).size + r_1.size ≤ (9223372036854775807 : Nat) ∧
                                                                    True ∧
                                                                      True ∧
                                                                        True ∧
                                                                          ((True ∧
                                                                                Sub (AV.pt (1000 : Nat) [] (0 : Nat)) (AV.pt (1000 : Nat) [] (0 : Nat)) ∧
                                                                                  True ∧
                                                                                    Sub
                                                                                        (AV.sc
                                                                                          (Value.string (out_ ++ r ++ ByteArray.mk #[(45 : UInt8)] ++ r_1)))
                                                                                        (AV.sc
                                                                                          (Value.string (out_ ++ r ++ ByteArray.mk #[(45 : UInt8)] ++ r_1))) ∧
                                                                                      True ∧
                                                                                        Sub (AV.sc (Value.int IntKind.i64 last))
                                                                                            (AV.sc (Value.int IntKind.i64 last)) ∧
                                                                                          True) ∧
                                                                              True ∧
                                                                                SubB (AV.ar (256 : Nat) (1 : Nat) fun (i0 : Nat) => AV.sc (Value.bool (b0f i0)))
                                                                                    (AV.ar (256 : Nat) (1 : Nat) fun (i0 : Nat) =>
                                                                                      AV.sc (Value.bool (b0f i0))) ∧
                                                                                  True) ∧
                                                                            L86_2 (out_ ++ r ++ ByteArray.mk #[(45 : UInt8)] ++ r_1) last b0f res) ∧
                                          (decide (IntKind.i64.wrap (last - b) ≥ (2 : Int)) = false →
                                            True ∧
                                              True ∧
                                                True ∧
                                                  ∃ (r : ByteArray),
                                                    ((True ∧ True) ∧
                                                        True ∧
                                                          Ok Proofs.Try.prog (102 : Nat) [AV.sc (Value.int IntKind.u8 (IntKind.u8.wrap b))] []
                                                            (AV.sc (Value.string r)) []) ∧
                                                      out_.size + r.size ≤ (9223372036854775807 : Nat) ∧
                                                        True ∧
                                                          ((True ∧
                                                                Sub (AV.pt (1000 : Nat) [] (0 : Nat)) (AV.pt (1000 : Nat) [] (0 : Nat)) ∧
                                                                  True ∧
                                                                    Sub (AV.sc (Value.string (out_ ++ r))) (AV.sc (Value.string (out_ ++ r))) ∧
                                                                      True ∧ Sub (AV.sc (Value.int IntKind.i64 b)) (AV.sc (Value.int IntKind.i64 b)) ∧ True) ∧
                                                              True ∧
                                                                SubB (AV.ar (256 : Nat) (1 : Nat) fun (i0 : Nat) => AV.sc (Value.bool (b0f i0)))
                                                                    (AV.ar (256 : Nat) (1 : Nat) fun (i0 : Nat) => AV.sc (Value.bool (b0f i0))) ∧
                                                                  True) ∧
                                                            L86_2 (out_ ++ r) b b0f res))) ∧
          (decide (IntKind.i64.wrap (last + (1 : Int)) < (256 : Int)) = !true →
            true = true ∧
              (!true) = !true ∧
                true = true ∧
                  (!true) = !true ∧
                    true = true ∧
                      (!true) = !true ∧
                        true = true ∧
                          True ∧
                            false = false ∧
                              True ∧
                                True ∧
                                  True ∧
                                    True ∧
                                      (decide (IntKind.i64.wrap (last - b) ≥ (2 : Int)) = true →
                                          True ∧
                                            True ∧
                                              True ∧
                                                ∃ (r : ByteArray),
                                                  ((True ∧ True) ∧
                                                      True ∧
                                                        Ok Proofs.Try.prog (102 : Nat) [AV.sc (Value.int IntKind.u8 (IntKind.u8.wrap b))] []
                                                          (AV.sc (Value.string r)) []) ∧
                                                    out_.size + r.size ≤ (9223372036854775807 : Nat) ∧
                                                      (out_ ++ r).size + (ByteArray.mk #[(45 : UInt8)]).size ≤ (9223372036854775807 : Nat) ∧
                                                        True ∧
                                                          True ∧
                                                            ∃ (r_1 : ByteArray),
                                                              ((True ∧ True) ∧
                                                                  True ∧
                                                                    Ok Proofs.Try.prog (102 : Nat) [AV.sc (Value.int IntKind.u8 (IntKind.u8.wrap last))] []
                                                                      (AV.sc (Value.string r_1)) []) ∧
                                                                (out_ ++ r ++ ByteArray.mk #[(45 : UInt8)]).size + r_1.size ≤ (9223372036854775807 : Nat) ∧
                                                                  True ∧
                                                                    True ∧
                                                                      True ∧
                                                                        ((True ∧
                                                                              Sub (AV.pt (1000 : Nat) [] (0 : Nat)) (AV.pt (1000 : Nat) [] (0 : Nat)) ∧
                                                                                True ∧
                                                                                  Sub (AV.sc (Value.string (out_ ++ r ++ ByteArray.mk #[(45 : UInt8)] ++ r_1)))
                                                                                      (AV.sc
                                                                                        (Value.string (out_ ++ r ++ ByteArray.mk #[(45 : UInt8)] ++ r_1))) ∧
                                                                                    True ∧
                                                                                      Sub (AV.sc (Value.int IntKind.i64 last))
                                                                                          (AV.sc (Value.int IntKind.i64 last)) ∧
                                                                                        True) ∧
                                                                            True ∧
                                                                              SubB (AV.ar (256 : Nat) (1 : Nat) fun (i0 : Nat) => AV.sc (Value.bool (b0f i0)))
                                                                                  (AV.ar (256 : Nat) (1 : Nat) fun (i0 : Nat) => AV.sc (Value.bool (b0f i0))) ∧
                                                                                True) ∧
                                                                          L86_2 (out_ ++ r ++ ByteArray.mk #[(45 : UInt8)] ++ r_1) last b0f res) ∧
                                        (decide (IntKind.i64.wrap (last - b) ≥ (2 : Int)) = false →
                                          True ∧
                                            True ∧
                                              True ∧
                                                ∃ (r : ByteArray),
                                                  ((True ∧ True) ∧
                                                      True ∧
                                                        Ok Proofs.Try.prog (102 : Nat) [AV.sc (Value.int IntKind.u8 (IntKind.u8.wrap b))] []
                                                          (AV.sc (Value.string r)) []) ∧
                                                    out_.size + r.size ≤ (9223372036854775807 : Nat) ∧
                                                      True ∧
                                                        ((True ∧
                                                              Sub (AV.pt (1000 : Nat) [] (0 : Nat)) (AV.pt (1000 : Nat) [] (0 : Nat)) ∧
                                                                True ∧
                                                                  Sub (AV.sc (Value.string (out_ ++ r))) (AV.sc (Value.string (out_ ++ r))) ∧
                                                                    True ∧ Sub (AV.sc (Value.int IntKind.i64 b)) (AV.sc (Value.int IntKind.i64 b)) ∧ True) ∧
                                                            True ∧
                                                              SubB (AV.ar (256 : Nat) (1 : Nat) fun (i0 : Nat) => AV.sc (Value.bool (b0f i0)))
                                                                  (AV.ar (256 : Nat) (1 : Nat) fun (i0 : Nat) => AV.sc (Value.bool (b0f i0))) ∧
                                                                True) ∧
                                                          L86_2 (out_ ++ r) b b0f res)) from
    ⟨trivial, ⟨trivial, ⟨trivial, ⟨trivial, (And.elim (fun h4 k4 => ⟨(fun x5 => (fun h5 => ⟨trivial, ⟨rfl, ⟨trivial, ⟨rfl, (And.elim (fun h10 k10 => ⟨(And.elim (fun h11 k11 => ⟨h11, k11⟩) h10), ⟨rfl, (And.elim (fun h12 k12 => ⟨⟨rfl, ⟨h12, trivial⟩⟩, ⟨trivial, (And.elim (fun h14 k14 => ⟨(fun x15 => (fun h15 => ⟨trivial, ⟨trivial, ⟨trivial, ⟨⟨⟨trivial, ⟨Sub.refl _, ⟨trivial, ⟨Sub.refl _, ⟨trivial, ⟨Sub.refl _, ⟨trivial, ⟨Sub.refl _, trivial⟩⟩⟩⟩⟩⟩⟩⟩, ⟨trivial, ⟨SubB.refl _, trivial⟩⟩⟩, h15⟩⟩⟩⟩) (h14 x15)), (fun x15 => (fun h15 => ⟨trivial, ⟨trivial, ⟨trivial, ⟨trivial, (And.elim (fun h20 k20 => ⟨(fun x21 => (fun h21 => ⟨trivial, ⟨trivial, ⟨trivial, (Exists.elim h21 fun x25 h25 => ⟨x25, (And.elim (fun h26 k26 => ⟨⟨⟨trivial, trivial⟩, ⟨trivial, h26⟩⟩, (And.elim (fun h27 k27 => ⟨h27, (And.elim (fun h28 k28 => ⟨h28, ⟨trivial, ⟨trivial, (Exists.elim k28 fun x31 h31 => ⟨x31, (And.elim (fun h32 k32 => ⟨⟨⟨trivial, trivial⟩, ⟨trivial, h32⟩⟩, (And.elim (fun h33 k33 => ⟨h33, ⟨trivial, ⟨trivial, ⟨trivial, ⟨⟨⟨trivial, ⟨Sub.refl _, ⟨trivial, ⟨Sub.refl _, ⟨trivial, ⟨Sub.refl _, trivial⟩⟩⟩⟩⟩⟩, ⟨trivial, ⟨SubB.refl _, trivial⟩⟩⟩, k33⟩⟩⟩⟩⟩) k32)⟩) h31)⟩)⟩⟩⟩) k27)⟩) k26)⟩) h25)⟩)⟩⟩⟩) (h20 x21)), (fun x21 => (fun h21 => ⟨trivial, ⟨trivial, ⟨trivial, (Exists.elim h21 fun x25 h25 => ⟨x25, (And.elim (fun h26 k26 => ⟨⟨⟨trivial, trivial⟩, ⟨trivial, h26⟩⟩, (And.elim (fun h27 k27 => ⟨h27, ⟨trivial, ⟨⟨⟨trivial, ⟨Sub.refl _, ⟨trivial, ⟨Sub.refl _, ⟨trivial, ⟨Sub.refl _, trivial⟩⟩⟩⟩⟩⟩, ⟨trivial, ⟨SubB.refl _, trivial⟩⟩⟩, k27⟩⟩⟩) k26)⟩) h25)⟩)⟩⟩⟩) (k20 x21))⟩) h15)⟩⟩⟩⟩) (k14 x15))⟩) k12)⟩⟩) k10)⟩⟩) h5)⟩⟩⟩⟩) (h4 x5)), (fun x5 => (fun h5 => ⟨rfl, ⟨rfl, ⟨rfl, ⟨rfl, ⟨rfl, ⟨rfl, ⟨rfl, ⟨trivial, ⟨rfl, ⟨trivial, ⟨trivial, ⟨trivial, ⟨trivial, (And.elim (fun h19 k19 => ⟨(fun x20 => (fun h20 => ⟨trivial, ⟨trivial, ⟨trivial, (Exists.elim h20 fun x24 h24 => ⟨x24, (And.elim (fun h25 k25 => ⟨⟨⟨trivial, trivial⟩, ⟨trivial, h25⟩⟩, (And.elim (fun h26 k26 => ⟨h26, (And.elim (fun h27 k27 => ⟨h27, ⟨trivial, ⟨trivial, (Exists.elim k27 fun x30 h30 => ⟨x30, (And.elim (fun h31 k31 => ⟨⟨⟨trivial, trivial⟩, ⟨trivial, h31⟩⟩, (And.elim (fun h32 k32 => ⟨h32, ⟨trivial, ⟨trivial, ⟨trivial, ⟨⟨⟨trivial, ⟨Sub.refl _, ⟨trivial, ⟨Sub.refl _, ⟨trivial, ⟨Sub.refl _, trivial⟩⟩⟩⟩⟩⟩, ⟨trivial, ⟨SubB.refl _, trivial⟩⟩⟩, k32⟩⟩⟩⟩⟩) k31)⟩) h30)⟩)⟩⟩⟩) k26)⟩) k25)⟩) h24)⟩)⟩⟩⟩) (h19 x20)), (fun x20 => (fun h20 => ⟨trivial, ⟨trivial, ⟨trivial, (Exists.elim h20 fun x24 h24 => ⟨x24, (And.elim (fun h25 k25 => ⟨⟨⟨trivial, trivial⟩, ⟨trivial, h25⟩⟩, (And.elim (fun h26 k26 => ⟨h26, ⟨trivial, ⟨⟨⟨trivial, ⟨Sub.refl _, ⟨trivial, ⟨Sub.refl _, ⟨trivial, ⟨Sub.refl _, trivial⟩⟩⟩⟩⟩⟩, ⟨trivial, ⟨SubB.refl _, trivial⟩⟩⟩, k26⟩⟩⟩) k25)⟩) h24)⟩)⟩⟩⟩) (k19 x20))⟩) h5)⟩⟩⟩⟩⟩⟩⟩⟩⟩⟩⟩⟩⟩) (k4 x5))⟩) h)⟩⟩⟩⟩)
theorem r86_2 (out_ : ByteArray) (b : Int) (b0f : Nat → Bool) (res : AV)
    (h : L86_0 out_ (IntKind.i64.wrap (b + (1 : Int))) b0f res) :
    L86_2 out_ b b0f res :=
  rule Go.Am.Seat.tabOk 86 [] Go.Proofs.Try.f86 hf86 [1, 1, 0, 1, 0, 0, 1, 1] (s86_2 out_ b b0f) (m86_2 out_ b b0f) res [] 400
    (Orc.cut (nat_lit 2) (s86_0 out_ (IntKind.i64.wrap (b + (1 : Int))) b0f) (m86_0 out_ (IntKind.i64.wrap (b + (1 : Int))) b0f) [((1000 : Nat), some (1000 : Nat))]) _ _ (by kernel_rfl) (by kernel_rfl) (show True ∧
  True ∧
    True ∧
      ((True ∧
            Sub (AV.pt (1000 : Nat) [] (0 : Nat)) (AV.pt (1000 : Nat) [] (0 : Nat)) ∧
              True ∧
                Sub (AV.sc (Value.string out_)) (AV.sc (Value.string out_)) ∧
                  True ∧
                    Sub (AV.sc (Value.int IntKind.i64 (IntKind.i64.wrap (b + (1 : Int))))) (AV.sc (Value.int IntKind.i64 (IntKind.i64.wrap (b + (1 : Int))))) ∧
                      True) ∧
          True ∧
            SubB (AV.ar (256 : Nat) (1 : Nat) fun (i0 : Nat) => AV.sc (Value.bool (b0f i0)))
                (AV.ar (256 : Nat) (1 : Nat) fun (i0 : Nat) => AV.sc (Value.bool (b0f i0))) ∧
              True) ∧
        L86_0 out_ (IntKind.i64.wrap (b + (1 : Int))) b0f res from
    ⟨trivial, ⟨trivial, ⟨trivial, ⟨⟨⟨trivial, ⟨Sub.refl _, ⟨trivial, ⟨Sub.refl _, ⟨trivial, ⟨Sub.refl _, trivial⟩⟩⟩⟩⟩⟩, ⟨trivial, ⟨SubB.refl _, trivial⟩⟩⟩, h⟩⟩⟩⟩)
theorem hf87 : Go.Proofs.Try.prog.funcs[87]? = some Go.Proofs.Try.f87 := by kernel_rfl
abbrev s87_e (bytes : ByteArray) : List (Nat × AV) := [(0, (.sc (.string bytes)))]
abbrev m87_e (bytes : ByteArray) : List (Nat × Nat × AV) := []
def L87_e (bytes : ByteArray) (res : AV) : Prop := Goes ⟨Go.Proofs.Try.prog, 87, [], res, []⟩ (place Go.Proofs.Try.f87 []) (s87_e bytes) (m87_e bytes)
theorem a87_e (bytes : ByteArray) (res : AV) (h : (∀ slot, fact (look .undef (s87_e bytes) slot)) → L87_e bytes res) : L87_e bytes res :=
  assumeRule 87 [] Go.Proofs.Try.f87 hf87 [] (s87_e bytes) (m87_e bytes) res [] _ (by kernel_rfl) h
abbrev s87_0 (bytes : ByteArray) (t6 : Int) (t7 : Int) (b0f : Nat → Int) (b1f : Nat → Int) : List (Nat × AV) := [(0, (.sc (.string bytes))), (2, (.pt 1000 [] 0)), (3, (.pt 1001 [] 0)), (6, (.sc (.int .i64 t6))), (7, (.sc (.int .i64 t7)))]
abbrev m87_0 (bytes : ByteArray) (t6 : Int) (t7 : Int) (b0f : Nat → Int) (b1f : Nat → Int) : List (Nat × Nat × AV) := [(1000, 50, (.ar 4 1 (fun i0 => (.sc (.int .u64 (b0f i0)))))), (1001, 50, (.ar 4 1 (fun i0 => (.sc (.int .u64 (b1f i0))))))]
def L87_0 (bytes : ByteArray) (t6 : Int) (t7 : Int) (b0f : Nat → Int) (b1f : Nat → Int) (res : AV) : Prop := Goes ⟨Go.Proofs.Try.prog, 87, [], res, []⟩ (place Go.Proofs.Try.f87 [1, 1, 0, 1, 0, 0]) (s87_0 bytes t6 t7 b0f b1f) (m87_0 bytes t6 t7 b0f b1f)
theorem a87_0 (bytes : ByteArray) (t6 : Int) (t7 : Int) (b0f : Nat → Int) (b1f : Nat → Int) (res : AV) (h : (∀ slot, fact (look .undef (s87_0 bytes t6 t7 b0f b1f) slot)) → L87_0 bytes t6 t7 b0f b1f res) : L87_0 bytes t6 t7 b0f b1f res :=
  assumeRule 87 [] Go.Proofs.Try.f87 hf87 [1, 1, 0, 1, 0, 0] (s87_0 bytes t6 t7 b0f b1f) (m87_0 bytes t6 t7 b0f b1f) res [] _ (by kernel_rfl) h
theorem o87 (bytes : ByteArray) (res : AV) (hnew : newOnly res) (h : L87_e bytes res) : Ok Go.Proofs.Try.prog 87 [(.sc (.string bytes))] [] res [] :=
  okRule2 87 Go.Proofs.Try.f87 hf87 [(.sc (.string bytes))] [] res [] [] rfl (by kernel_rfl) (by kernel_rfl) (by kernel_rfl) ⟨hnew, by simp⟩ (L87_e bytes res) (by kernel_rfl) h
theorem r87_e (bytes : ByteArray) (res : AV)
    (h : L87_0 bytes (↑bytes.size : Int) (0 : Int) (fun (x : Nat) => (0 : Int)) (fun (x : Nat) => (0 : Int)) res) :
    L87_e bytes res :=
  rule Go.Am.Seat.tabOk 87 [] Go.Proofs.Try.f87 hf87 [] (s87_e bytes) (m87_e bytes) res [] 400
    (Orc.cut (nat_lit 9) (s87_0 bytes (↑bytes.size : Int) (0 : Int) (fun (x : Nat) => (0 : Int)) fun (x : Nat) => (0 : Int))
  (m87_0 bytes (↑bytes.size : Int) (0 : Int) (fun (x : Nat) => (0 : Int)) fun (x : Nat) => (0 : Int))
  [((1000 : Nat), some (2 : Nat)), ((1001 : Nat), some (3 : Nat))]) _ _ (by kernel_rfl) (by kernel_rfl) (show True ∧
  True ∧
    True ∧
      True ∧
        True ∧
          ((True ∧
                Sub (AV.sc (Value.string bytes)) (AV.sc (Value.string bytes)) ∧
                  True ∧
                    Sub (AV.pt (1000 : Nat) [] (0 : Nat)) (AV.pt (1000 : Nat) [] (0 : Nat)) ∧
                      True ∧
                        Sub (AV.pt (1001 : Nat) [] (0 : Nat)) (AV.pt (1001 : Nat) [] (0 : Nat)) ∧
                          True ∧
                            Sub (AV.sc (Value.int IntKind.i64 (↑bytes.size : Int))) (AV.sc (Value.int IntKind.i64 (↑bytes.size : Int))) ∧
                              True ∧ Sub (AV.sc (Value.int IntKind.i64 (0 : Int))) (AV.sc (Value.int IntKind.i64 (0 : Int))) ∧ True) ∧
              True ∧
                SubB (AV.ar (4 : Nat) (1 : Nat) fun (x : Nat) => AV.sc (Value.int IntKind.u64 (0 : Int)))
                    (AV.ar (4 : Nat) (1 : Nat) fun (i0 : Nat) => AV.sc (Value.int IntKind.u64 (0 : Int))) ∧
                  True ∧
                    SubB (AV.ar (4 : Nat) (1 : Nat) fun (x : Nat) => AV.sc (Value.int IntKind.u64 (0 : Int)))
                        (AV.ar (4 : Nat) (1 : Nat) fun (i0 : Nat) => AV.sc (Value.int IntKind.u64 (0 : Int))) ∧
                      True) ∧
            L87_0 bytes (↑bytes.size : Int) (0 : Int) (fun (x : Nat) => (0 : Int)) (fun (x : Nat) => (0 : Int)) res from
    ⟨trivial, ⟨trivial, ⟨trivial, ⟨trivial, ⟨trivial, ⟨⟨⟨trivial, ⟨Sub.refl _, ⟨trivial, ⟨Sub.refl _, ⟨trivial, ⟨Sub.refl _, ⟨trivial, ⟨Sub.refl _, ⟨trivial, ⟨Sub.refl _, trivial⟩⟩⟩⟩⟩⟩⟩⟩⟩⟩, ⟨trivial, ⟨SubB.refl _, ⟨trivial, ⟨SubB.refl _, trivial⟩⟩⟩⟩⟩, h⟩⟩⟩⟩⟩⟩)
theorem r87_0 (bytes : ByteArray) (t6 : Int) (t7 : Int) (b0f : Nat → Int) (b1f : Nat → Int) (res : AV)
    (h : (decide (t7 < t6) = true →
    ((0 : Int) ≤ t7 ∧ t7 < (↑bytes.size : Int)) ∧
      ∃ (r : Nat → Int),
        Ok Proofs.Try.prog (103 : Nat)
            [AV.ar (4 : Nat) (1 : Nat) fun (i : Nat) => AV.sc (Value.int IntKind.u64 (b1f i)),
              AV.sc (Value.int IntKind.u8 (↑(byteAt bytes t7.toNat).toNat : Int))]
            [] (AV.ar (4 : Nat) (1 : Nat) fun (i0 : Nat) => AV.sc (Value.int IntKind.u64 (r i0))) [] ∧
          L87_0 bytes t6 (IntKind.i64.wrap (t7 + (1 : Int))) b0f r res) ∧
  (decide (t7 < t6) = false → Sub (AV.ar (4 : Nat) (1 : Nat) fun (i0 : Nat) => AV.sc (Value.int IntKind.u64 (b1f i0))) res)) :
    L87_0 bytes t6 t7 b0f b1f res :=
  rule Go.Am.Seat.tabOk 87 [] Go.Proofs.Try.f87 hf87 [1, 1, 0, 1, 0, 0] (s87_0 bytes t6 t7 b0f b1f) (m87_0 bytes t6 t7 b0f b1f) res [] 400
    ((Orc.call [] [] (fun (r103 : Nat → Int) => AV.ar (4 : Nat) (1 : Nat) fun (i0 : Nat) => AV.sc (Value.int IntKind.u64 (r103 i0))) (fun (r103 : Nat → Int) => [])
      fun (r103 : Nat → Int) =>
      Orc.cut (nat_lit 3) (s87_0 bytes t6 (IntKind.i64.wrap (t7 + (1 : Int))) b0f r103) (m87_0 bytes t6 (IntKind.i64.wrap (t7 + (1 : Int))) b0f r103)
        [((1000 : Nat), some (1000 : Nat)), ((1001 : Nat), some (1001 : Nat))]).br
  (Orc.fin (AV.ar (4 : Nat) (1 : Nat) fun (i0 : Nat) => AV.sc (Value.int IntKind.u64 (b1f i0))) [] [])) _ _ (by kernel_rfl) (by kernel_rfl) (show True ∧
  (decide (t7 < t6) = true →
      True ∧
        True ∧
          ((0 : Nat) = (0 : Nat) ∧ True) ∧
            True ∧
              True ∧
                ((0 : Int) ≤ t7 ∧ t7 < (↑bytes.size : Int)) ∧
                  ∃ (r : Nat → Int),
                    ((True ∧ True ∧ True) ∧
                        True ∧
                          Ok Proofs.Try.prog (103 : Nat)
                            [AV.ar (4 : Nat) (1 : Nat) fun (i : Nat) => AV.sc (Value.int IntKind.u64 (b1f i)),
                              AV.sc (Value.int IntKind.u8 (↑(byteAt bytes t7.toNat).toNat : Int))]
                            [] (AV.ar (4 : Nat) (1 : Nat) fun (i0 : Nat) => AV.sc (Value.int IntKind.u64 (r i0))) []) ∧
                      ((0 : Nat) = (0 : Nat) ∧ True) ∧
                        True ∧
                          True ∧
                            ((True ∧
                                  Sub (AV.sc (Value.string bytes)) (AV.sc (Value.string bytes)) ∧
                                    True ∧
                                      Sub (AV.pt (1000 : Nat) [] (0 : Nat)) (AV.pt (1000 : Nat) [] (0 : Nat)) ∧
                                        True ∧
                                          Sub (AV.pt (1001 : Nat) [] (0 : Nat)) (AV.pt (1001 : Nat) [] (0 : Nat)) ∧
                                            True ∧
                                              Sub (AV.sc (Value.int IntKind.i64 t6)) (AV.sc (Value.int IntKind.i64 t6)) ∧
                                                True ∧
                                                  Sub (AV.sc (Value.int IntKind.i64 (IntKind.i64.wrap (t7 + (1 : Int)))))
                                                      (AV.sc (Value.int IntKind.i64 (IntKind.i64.wrap (t7 + (1 : Int))))) ∧
                                                    True) ∧
                                True ∧
                                  SubB (AV.ar (4 : Nat) (1 : Nat) fun (i0 : Nat) => AV.sc (Value.int IntKind.u64 (b0f i0)))
                                      (AV.ar (4 : Nat) (1 : Nat) fun (i0 : Nat) => AV.sc (Value.int IntKind.u64 (b0f i0))) ∧
                                    True ∧
                                      SubB (AV.ar (4 : Nat) (1 : Nat) fun (i0 : Nat) => AV.sc (Value.int IntKind.u64 (r i0)))
                                          (AV.ar (4 : Nat) (1 : Nat) fun (i0 : Nat) => AV.sc (Value.int IntKind.u64 (r i0))) ∧
                                        True) ∧
                              L87_0 bytes t6 (IntKind.i64.wrap (t7 + (1 : Int))) b0f r res) ∧
    (decide (t7 < t6) = false →
      ((0 : Nat) = (0 : Nat) ∧ True) ∧
        ((0 : Nat) = (0 : Nat) ∧ True) ∧
          ((0 : Nat) = (0 : Nat) ∧ True) ∧
            ((True ∧
                  Sub (AV.ar (4 : Nat) (1 : Nat) fun (i0 : Nat) => AV.sc (Value.int IntKind.u64 (b1f i0)))
                      (AV.ar (4 : Nat) (1 : Nat) fun (i0 : Nat) => AV.sc (Value.int IntKind.u64 (b1f i0))) ∧
                    True) ∧
                True) ∧
              Sub (AV.ar (4 : Nat) (1 : Nat) fun (i0 : Nat) => AV.sc (Value.int IntKind.u64 (b1f i0))) res ∧ SubOut [] []) from
    ⟨trivial, (And.elim (fun h1 k1 => ⟨(fun x2 => (fun h2 => ⟨trivial, ⟨trivial, ⟨⟨rfl, trivial⟩, ⟨trivial, ⟨trivial, (And.elim (fun h8 k8 => ⟨(And.elim (fun h9 k9 => ⟨h9, k9⟩) h8), (Exists.elim k8 fun x9 h9 => ⟨x9, (And.elim (fun h10 k10 => ⟨⟨⟨trivial, ⟨trivial, trivial⟩⟩, ⟨trivial, h10⟩⟩, ⟨⟨rfl, trivial⟩, ⟨trivial, ⟨trivial, ⟨⟨⟨trivial, ⟨Sub.refl _, ⟨trivial, ⟨Sub.refl _, ⟨trivial, ⟨Sub.refl _, ⟨trivial, ⟨Sub.refl _, ⟨trivial, ⟨Sub.refl _, trivial⟩⟩⟩⟩⟩⟩⟩⟩⟩⟩, ⟨trivial, ⟨SubB.refl _, ⟨trivial, ⟨SubB.refl _, trivial⟩⟩⟩⟩⟩, k10⟩⟩⟩⟩⟩) h9)⟩)⟩) h2)⟩⟩⟩⟩⟩) (h1 x2)), (fun x2 => (fun h2 => ⟨⟨rfl, trivial⟩, ⟨⟨rfl, trivial⟩, ⟨⟨rfl, trivial⟩, ⟨⟨⟨trivial, ⟨Sub.refl _, trivial⟩⟩, trivial⟩, ⟨h2, trivial⟩⟩⟩⟩⟩) (k1 x2))⟩) h)⟩)
theorem hf88 : Go.Proofs.Try.prog.funcs[88]? = some Go.Proofs.Try.f88 := by kernel_rfl
abbrev s88_e (text : ByteArray) : List (Nat × AV) := [(0, (.sc (.string text)))]
abbrev m88_e (text : ByteArray) : List (Nat × Nat × AV) := []
def L88_e (text : ByteArray) (res : AV) : Prop := Goes ⟨Go.Proofs.Try.prog, 88, [], res, []⟩ (place Go.Proofs.Try.f88 []) (s88_e text) (m88_e text)
theorem a88_e (text : ByteArray) (res : AV) (h : (∀ slot, fact (look .undef (s88_e text) slot)) → L88_e text res) : L88_e text res :=
  assumeRule 88 [] Go.Proofs.Try.f88 hf88 [] (s88_e text) (m88_e text) res [] _ (by kernel_rfl) h
theorem o88 (text : ByteArray) (res : AV) (hnew : newOnly res) (h : L88_e text res) : Ok Go.Proofs.Try.prog 88 [(.sc (.string text))] [] res [] :=
  okRule2 88 Go.Proofs.Try.f88 hf88 [(.sc (.string text))] [] res [] [] rfl (by kernel_rfl) (by kernel_rfl) (by kernel_rfl) ⟨hnew, by simp⟩ (L88_e text res) (by kernel_rfl) h
theorem r88_e (text : ByteArray) (res : AV)
    (h : ∃ (r : (Nat → Int) × Int × Bool),
  Ok Proofs.Try.prog (104 : Nat) [AV.sc (Value.string text), AV.sc (Value.int IntKind.i64 (0 : Int))] []
      (AV.cons (1 : Nat) (AV.ar (4 : Nat) (1 : Nat) fun (i0 : Nat) => AV.sc (Value.int IntKind.u64 (r.fst i0)))
          (AV.cons (1 : Nat) (AV.sc (Value.int IntKind.i64 r.snd.fst)) (AV.cons (1 : Nat) (AV.sc (Value.bool r.snd.snd)) AV.nil))).tup
      [] ∧
    ((!r.snd.snd) = false →
        ((r.snd.fst != (↑text.size : Int)) = true →
            Sub
              (AV.cons (1 : Nat) (AV.ar (4 : Nat) (1 : Nat) fun (x : Nat) => AV.sc (Value.int IntKind.u64 (0 : Int)))
                  (AV.cons (1 : Nat) (AV.sc (Value.int IntKind.i64 (50 : Int))) AV.nil)).tup
              res) ∧
          ((r.snd.fst != (↑text.size : Int)) = false →
            Sub
              (AV.cons (1 : Nat) (AV.ar (4 : Nat) (1 : Nat) fun (i0 : Nat) => AV.sc (Value.int IntKind.u64 (r.fst i0)))
                  (AV.cons (1 : Nat) (AV.sc (Value.int IntKind.i64 (0 : Int))) AV.nil)).tup
              res)) ∧
      ((!r.snd.snd) = !false →
        Sub
          (AV.cons (1 : Nat) (AV.ar (4 : Nat) (1 : Nat) fun (x : Nat) => AV.sc (Value.int IntKind.u64 (0 : Int)))
              (AV.cons (1 : Nat) (AV.sc (Value.int IntKind.i64 (50 : Int))) AV.nil)).tup
          res)) :
    L88_e text res :=
  rule Go.Am.Seat.tabOk 88 [] Go.Proofs.Try.f88 hf88 [] (s88_e text) (m88_e text) res [] 400
    (Orc.call [] []
  (fun (r104 : (Nat → Int) × Int × Bool) =>
    (AV.cons (1 : Nat) (AV.ar (4 : Nat) (1 : Nat) fun (i0 : Nat) => AV.sc (Value.int IntKind.u64 (r104.fst i0)))
        (AV.cons (1 : Nat) (AV.sc (Value.int IntKind.i64 r104.snd.fst)) (AV.cons (1 : Nat) (AV.sc (Value.bool r104.snd.snd)) AV.nil))).tup)
  (fun (r104 : (Nat → Int) × Int × Bool) => []) fun (r104 : (Nat → Int) × Int × Bool) =>
  ((Orc.fin
                  (AV.cons (1 : Nat) (AV.ar (4 : Nat) (1 : Nat) fun (x : Nat) => AV.sc (Value.int IntKind.u64 (0 : Int)))
                      (AV.cons (1 : Nat) (AV.sc (Value.int IntKind.i64 (50 : Int))) AV.nil)).tup
                  [] []).br
              (Orc.fin
                (AV.cons (1 : Nat) (AV.ar (4 : Nat) (1 : Nat) fun (i0 : Nat) => AV.sc (Value.int IntKind.u64 (r104.fst i0)))
                    (AV.cons (1 : Nat) (AV.sc (Value.int IntKind.i64 (0 : Int))) AV.nil)).tup
                [] [])).yes.yes.yes.br
    (Orc.fin
              (AV.cons (1 : Nat) (AV.ar (4 : Nat) (1 : Nat) fun (x : Nat) => AV.sc (Value.int IntKind.u64 (0 : Int)))
                  (AV.cons (1 : Nat) (AV.sc (Value.int IntKind.i64 (50 : Int))) AV.nil)).tup
              [] []).yes.no.no.no) _ _ (by kernel_rfl) (by kernel_rfl) (show True ∧
  True ∧
    True ∧
      ∃ (r : (Nat → Int) × Int × Bool),
        ((True ∧ True ∧ True) ∧
            True ∧
              Ok Proofs.Try.prog (104 : Nat) [AV.sc (Value.string text), AV.sc (Value.int IntKind.i64 (0 : Int))] []
                (AV.cons (1 : Nat) (AV.ar (4 : Nat) (1 : Nat) fun (i0 : Nat) => AV.sc (Value.int IntKind.u64 (r.fst i0)))
                    (AV.cons (1 : Nat) (AV.sc (Value.int IntKind.i64 r.snd.fst)) (AV.cons (1 : Nat) (AV.sc (Value.bool r.snd.snd)) AV.nil))).tup
                []) ∧
          True ∧
            True ∧
              True ∧
                True ∧
                  True ∧
                    ((0 : Nat) = (0 : Nat) ∧ True) ∧
                      True ∧
                        True ∧
                          True ∧
                            True ∧
                              True ∧
                                ((!r.snd.snd) = false →
                                    True ∧
                                      false = false ∧
                                        True ∧
                                          false = false ∧
                                            True ∧
                                              false = false ∧
                                                True ∧
                                                  True ∧
                                                    ((r.snd.fst != (↑text.size : Int)) = true →
                                                        True ∧
                                                          ((0 : Nat) = (0 : Nat) ∧ True) ∧
                                                            True ∧
                                                              (((0 : Nat) = (0 : Nat) ∧ True) ∧ True ∧ True) ∧
                                                                (((True ∧ True ∧ True) ∧
                                                                      Sub
                                                                          (AV.cons (1 : Nat)
                                                                              (AV.ar (4 : Nat) (1 : Nat) fun (x : Nat) =>
                                                                                AV.sc (Value.int IntKind.u64 (0 : Int)))
                                                                              (AV.cons (1 : Nat) (AV.sc (Value.int IntKind.i64 (50 : Int))) AV.nil)).tup
                                                                          (AV.cons (1 : Nat)
                                                                              (AV.ar (4 : Nat) (1 : Nat) fun (x : Nat) =>
                                                                                AV.sc (Value.int IntKind.u64 (0 : Int)))
                                                                              (AV.cons (1 : Nat) (AV.sc (Value.int IntKind.i64 (50 : Int))) AV.nil)).tup ∧
                                                                        True) ∧
                                                                    True) ∧
                                                                  Sub
                                                                      (AV.cons (1 : Nat)
                                                                          (AV.ar (4 : Nat) (1 : Nat) fun (x : Nat) => AV.sc (Value.int IntKind.u64 (0 : Int)))
                                                                          (AV.cons (1 : Nat) (AV.sc (Value.int IntKind.i64 (50 : Int))) AV.nil)).tup
                                                                      res ∧
                                                                    SubOut [] []) ∧
                                                      ((r.snd.fst != (↑text.size : Int)) = false →
                                                        ((0 : Nat) = (0 : Nat) ∧ True) ∧
                                                          ((0 : Nat) = (0 : Nat) ∧ True) ∧
                                                            True ∧
                                                              (((0 : Nat) = (0 : Nat) ∧ True) ∧ True ∧ True) ∧
                                                                (((True ∧ True ∧ True) ∧
                                                                      Sub
                                                                          (AV.cons (1 : Nat)
                                                                              (AV.ar (4 : Nat) (1 : Nat) fun (i0 : Nat) =>
                                                                                AV.sc (Value.int IntKind.u64 (r.fst i0)))
                                                                              (AV.cons (1 : Nat) (AV.sc (Value.int IntKind.i64 (0 : Int))) AV.nil)).tup
                                                                          (AV.cons (1 : Nat)
                                                                              (AV.ar (4 : Nat) (1 : Nat) fun (i0 : Nat) =>
                                                                                AV.sc (Value.int IntKind.u64 (r.fst i0)))
                                                                              (AV.cons (1 : Nat) (AV.sc (Value.int IntKind.i64 (0 : Int))) AV.nil)).tup ∧
                                                                        True) ∧
                                                                    True) ∧
                                                                  Sub
                                                                      (AV.cons (1 : Nat)
                                                                          (AV.ar (4 : Nat) (1 : Nat) fun (i0 : Nat) => AV.sc (Value.int IntKind.u64 (r.fst i0)))
                                                                          (AV.cons (1 : Nat) (AV.sc (Value.int IntKind.i64 (0 : Int))) AV.nil)).tup
                                                                      res ∧
                                                                    SubOut [] [])) ∧
                                  ((!r.snd.snd) = !false →
                                    true = true ∧
                                      (!false) = !false ∧
                                        true = true ∧
                                          (!false) = !false ∧
                                            true = true ∧
                                              (!false) = !false ∧
                                                true = true ∧
                                                  True ∧
                                                    true = true ∧
                                                      True ∧
                                                        ((0 : Nat) = (0 : Nat) ∧ True) ∧
                                                          True ∧
                                                            (((0 : Nat) = (0 : Nat) ∧ True) ∧ True ∧ True) ∧
                                                              (((True ∧ True ∧ True) ∧
                                                                    Sub
                                                                        (AV.cons (1 : Nat)
                                                                            (AV.ar (4 : Nat) (1 : Nat) fun (x : Nat) => AV.sc (Value.int IntKind.u64 (0 : Int)))
                                                                            (AV.cons (1 : Nat) (AV.sc (Value.int IntKind.i64 (50 : Int))) AV.nil)).tup
                                                                        (AV.cons (1 : Nat)
                                                                            (AV.ar (4 : Nat) (1 : Nat) fun (x : Nat) => AV.sc (Value.int IntKind.u64 (0 : Int)))
                                                                            (AV.cons (1 : Nat) (AV.sc (Value.int IntKind.i64 (50 : Int))) AV.nil)).tup ∧
                                                                      True) ∧
                                                                  True) ∧
                                                                Sub
                                                                    (AV.cons (1 : Nat)
                                                                        (AV.ar (4 : Nat) (1 : Nat) fun (x : Nat) => AV.sc (Value.int IntKind.u64 (0 : Int)))
                                                                        (AV.cons (1 : Nat) (AV.sc (Value.int IntKind.i64 (50 : Int))) AV.nil)).tup
                                                                    res ∧
                                                                  SubOut [] []) from
    ⟨trivial, ⟨trivial, ⟨trivial, (Exists.elim h fun x3 h3 => ⟨x3, (And.elim (fun h4 k4 => ⟨⟨⟨trivial, ⟨trivial, trivial⟩⟩, ⟨trivial, h4⟩⟩, ⟨trivial, ⟨trivial, ⟨trivial, ⟨trivial, ⟨trivial, ⟨⟨rfl, trivial⟩, ⟨trivial, ⟨trivial, ⟨trivial, ⟨trivial, ⟨trivial, (And.elim (fun h16 k16 => ⟨(fun x17 => (fun h17 => ⟨trivial, ⟨rfl, ⟨trivial, ⟨rfl, ⟨trivial, ⟨rfl, ⟨trivial, ⟨trivial, (And.elim (fun h26 k26 => ⟨(fun x27 => (fun h27 => ⟨trivial, ⟨⟨rfl, trivial⟩, ⟨trivial, ⟨⟨⟨rfl, trivial⟩, ⟨trivial, trivial⟩⟩, ⟨⟨⟨⟨trivial, ⟨trivial, trivial⟩⟩, ⟨Sub.refl _, trivial⟩⟩, trivial⟩, ⟨h27, trivial⟩⟩⟩⟩⟩⟩) (h26 x27)), (fun x27 => (fun h27 => ⟨⟨rfl, trivial⟩, ⟨⟨rfl, trivial⟩, ⟨trivial, ⟨⟨⟨rfl, trivial⟩, ⟨trivial, trivial⟩⟩, ⟨⟨⟨⟨trivial, ⟨trivial, trivial⟩⟩, ⟨Sub.refl _, trivial⟩⟩, trivial⟩, ⟨h27, trivial⟩⟩⟩⟩⟩⟩) (k26 x27))⟩) h17)⟩⟩⟩⟩⟩⟩⟩⟩) (h16 x17)), (fun x17 => (fun h17 => ⟨rfl, ⟨rfl, ⟨rfl, ⟨rfl, ⟨rfl, ⟨rfl, ⟨rfl, ⟨trivial, ⟨rfl, ⟨trivial, ⟨⟨rfl, trivial⟩, ⟨trivial, ⟨⟨⟨rfl, trivial⟩, ⟨trivial, trivial⟩⟩, ⟨⟨⟨⟨trivial, ⟨trivial, trivial⟩⟩, ⟨Sub.refl _, trivial⟩⟩, trivial⟩, ⟨h17, trivial⟩⟩⟩⟩⟩⟩⟩⟩⟩⟩⟩⟩⟩⟩⟩) (k16 x17))⟩) k4)⟩⟩⟩⟩⟩⟩⟩⟩⟩⟩⟩⟩) h3)⟩)⟩⟩⟩)
theorem hf89 : Go.Proofs.Try.prog.funcs[89]? = some Go.Proofs.Try.f89 := by kernel_rfl
abbrev s89_e (sf : Nat → Int) : List (Nat × AV) := [(0, (.ar 4 1 (fun i0 => (.sc (.int .u64 (sf i0))))))]
abbrev m89_e (sf : Nat → Int) : List (Nat × Nat × AV) := []
def L89_e (sf : Nat → Int) (res : AV) : Prop := Goes ⟨Go.Proofs.Try.prog, 89, [], res, []⟩ (place Go.Proofs.Try.f89 []) (s89_e sf) (m89_e sf)
theorem a89_e (sf : Nat → Int) (res : AV) (h : (∀ slot, fact (look .undef (s89_e sf) slot)) → L89_e sf res) : L89_e sf res :=
  assumeRule 89 [] Go.Proofs.Try.f89 hf89 [] (s89_e sf) (m89_e sf) res [] _ (by kernel_rfl) h
abbrev s89_0 (out_n : Nat) (t5 : Int) (b0f : Nat → Int) (b1n : Nat) (b1f : Nat → Int) : List (Nat × AV) := [(1, (.pt 1000 [] 0)), (3, (.rf 1001 1 0 out_n)), (5, (.sc (.int .i64 t5)))]
abbrev m89_0 (out_n : Nat) (t5 : Int) (b0f : Nat → Int) (b1n : Nat) (b1f : Nat → Int) : List (Nat × Nat × AV) := [(1000, 50, (.ar 4 1 (fun i0 => (.sc (.int .u64 (b0f i0)))))), (1001, 5, (.ar b1n 1 (fun i0 => (.sc (.int .u8 (b1f i0))))))]
def L89_0 (out_n : Nat) (t5 : Int) (b0f : Nat → Int) (b1n : Nat) (b1f : Nat → Int) (res : AV) : Prop := Goes ⟨Go.Proofs.Try.prog, 89, [], res, []⟩ (place Go.Proofs.Try.f89 [1, 1, 0, 1, 0, 0]) (s89_0 out_n t5 b0f b1n b1f) (m89_0 out_n t5 b0f b1n b1f)
theorem a89_0 (out_n : Nat) (t5 : Int) (b0f : Nat → Int) (b1n : Nat) (b1f : Nat → Int) (res : AV) (h : (∀ slot, fact (look .undef (s89_0 out_n t5 b0f b1n b1f) slot)) → L89_0 out_n t5 b0f b1n b1f res) : L89_0 out_n t5 b0f b1n b1f res :=
  assumeRule 89 [] Go.Proofs.Try.f89 hf89 [1, 1, 0, 1, 0, 0] (s89_0 out_n t5 b0f b1n b1f) (m89_0 out_n t5 b0f b1n b1f) res [] _ (by kernel_rfl) h
abbrev s89_1 (out_n : Nat) (t5 : Int) (b0f : Nat → Int) (b1n : Nat) (b1f : Nat → Int) : List (Nat × AV) := [(1, (.pt 1000 [] 0)), (3, (.rf 1001 1 0 out_n)), (5, (.sc (.int .i64 t5)))]
abbrev m89_1 (out_n : Nat) (t5 : Int) (b0f : Nat → Int) (b1n : Nat) (b1f : Nat → Int) : List (Nat × Nat × AV) := [(1000, 50, (.ar 4 1 (fun i0 => (.sc (.int .u64 (b0f i0)))))), (1001, 5, (.ar b1n 1 (fun i0 => (.sc (.int .u8 (b1f i0))))))]
def L89_1 (out_n : Nat) (t5 : Int) (b0f : Nat → Int) (b1n : Nat) (b1f : Nat → Int) (res : AV) : Prop := Goes ⟨Go.Proofs.Try.prog, 89, [], res, []⟩ (place Go.Proofs.Try.f89 [1, 1, 0, 1, 0, 0, 1, 1, 1]) (s89_1 out_n t5 b0f b1n b1f) (m89_1 out_n t5 b0f b1n b1f)
theorem a89_1 (out_n : Nat) (t5 : Int) (b0f : Nat → Int) (b1n : Nat) (b1f : Nat → Int) (res : AV) (h : (∀ slot, fact (look .undef (s89_1 out_n t5 b0f b1n b1f) slot)) → L89_1 out_n t5 b0f b1n b1f res) : L89_1 out_n t5 b0f b1n b1f res :=
  assumeRule 89 [] Go.Proofs.Try.f89 hf89 [1, 1, 0, 1, 0, 0, 1, 1, 1] (s89_1 out_n t5 b0f b1n b1f) (m89_1 out_n t5 b0f b1n b1f) res [] _ (by kernel_rfl) h
theorem o89 (sf : Nat → Int) (res : AV) (hnew : newOnly res) (h : L89_e sf res) : Ok Go.Proofs.Try.prog 89 [(.ar 4 1 (fun i0 => (.sc (.int .u64 (sf i0)))))] [] res [] :=
  okRule2 89 Go.Proofs.Try.f89 hf89 [(.ar 4 1 (fun i0 => (.sc (.int .u64 (sf i0)))))] [] res [] [] rfl (by kernel_rfl) (by kernel_rfl) (by kernel_rfl) ⟨hnew, by simp⟩ (L89_e sf res) (by kernel_rfl) h
theorem r89_e (sf : Nat → Int) (res : AV)
    (h : L89_0 (0 : Nat) (0 : Int) sf (0 : Nat) (fun (i : Nat) => Int.ofNat (0 : Nat)) res) :
    L89_e sf res :=
  rule Go.Am.Seat.tabOk 89 [] Go.Proofs.Try.f89 hf89 [] (s89_e sf) (m89_e sf) res [] 400
    (Orc.cut (nat_lit 9) (s89_0 (0 : Nat) (0 : Int) sf (0 : Nat) fun (i : Nat) => Int.ofNat (0 : Nat))
  (m89_0 (0 : Nat) (0 : Int) sf (0 : Nat) fun (i : Nat) => Int.ofNat (0 : Nat)) [((1000 : Nat), some (1 : Nat)), ((1001 : Nat), none)]) _ _ (by kernel_rfl) (by kernel_rfl) (show True ∧
  True ∧
    True ∧
      True ∧
        ((True ∧
              Sub (AV.pt (1000 : Nat) [] (0 : Nat)) (AV.pt (1000 : Nat) [] (0 : Nat)) ∧
                True ∧ Sub (AV.sc (Value.int IntKind.i64 (0 : Int))) (AV.sc (Value.int IntKind.i64 (0 : Int))) ∧ True) ∧
            True ∧
              SubB (AV.ar (4 : Nat) (1 : Nat) fun (i0 : Nat) => AV.sc (Value.int IntKind.u64 (sf i0)))
                  (AV.ar (4 : Nat) (1 : Nat) fun (i0 : Nat) => AV.sc (Value.int IntKind.u64 (sf i0))) ∧
                True) ∧
          L89_0 (0 : Nat) (0 : Int) sf (0 : Nat) (fun (i : Nat) => Int.ofNat (0 : Nat)) res from
    ⟨trivial, ⟨trivial, ⟨trivial, ⟨trivial, ⟨⟨⟨trivial, ⟨Sub.refl _, ⟨trivial, ⟨Sub.refl _, trivial⟩⟩⟩⟩, ⟨trivial, ⟨SubB.refl _, trivial⟩⟩⟩, h⟩⟩⟩⟩⟩)
theorem r89_0 (out_n : Nat) (t5 : Int) (b0f : Nat → Int) (b1n : Nat) (b1f : Nat → Int) (res : AV)
    (h : (decide (t5 < (256 : Int)) = true →
    ∃ (r : Bool),
      Ok Proofs.Try.prog (83 : Nat)
          [AV.ar (4 : Nat) (1 : Nat) fun (i : Nat) => AV.sc (Value.int IntKind.u64 (b0f i)), AV.sc (Value.int IntKind.u8 (IntKind.u8.wrap t5))] []
          (AV.sc (Value.bool r)) [] ∧
        (r = true →
            (out_n ≤ b1n ∧ (0 : Nat) + (1 : Nat) ≤ (1 : Nat) ∧ (out_n + (1 : Nat)) * (1 : Nat) ≤ (140737488355328 : Nat) ∧ out_n + (1 : Nat) ≤ maxLen) ∧
              L89_1 (out_n + (1 : Nat)) t5 b0f (out_n + (1 : Nat))
                (fun (i : Nat) => bif i.blt out_n then b1f i else bif ((0 : Nat) + (i - out_n)).beq (0 : Nat) then IntKind.u8.wrap t5 else (0 : Int)) res) ∧
          (r = false → L89_1 out_n t5 b0f b1n b1f res)) ∧
  (decide (t5 < (256 : Int)) = false →
    ((0 : Nat) + out_n ≤ b1n ∧
        (strOf out_n fun (i : Nat) => b1f ((0 : Nat) + i)).size = out_n ∧
          ∀ (i : Nat),
            i < out_n →
              AV.sc (Value.int IntKind.u8 (b1f ((0 : Nat) + i))) =
                AV.sc (Value.int IntKind.u8 (↑(byteAt (strOf out_n fun (i : Nat) => b1f ((0 : Nat) + i)) i).toNat : Int))) ∧
      Sub (AV.sc (Value.string (strOf out_n fun (i : Nat) => b1f ((0 : Nat) + i)))) res)) :
    L89_0 out_n t5 b0f b1n b1f res :=
  rule Go.Am.Seat.tabOk 89 [] Go.Proofs.Try.f89 hf89 [1, 1, 0, 1, 0, 0] (s89_0 out_n t5 b0f b1n b1f) (m89_0 out_n t5 b0f b1n b1f) res [] 400
    ((Orc.call [] [] (fun (r83 : Bool) => AV.sc (Value.bool r83)) (fun (r83 : Bool) => []) fun (r83 : Bool) =>
      (Orc.cut (nat_lit 2)
            (s89_1 (out_n + (1 : Nat)) t5 b0f (out_n + (1 : Nat)) fun (i : Nat) =>
              bif i.blt out_n then b1f i else bif ((0 : Nat) + (i - out_n)).beq ((0 : Nat), Operand.tmp (14 : Nat)).fst then IntKind.u8.wrap t5 else (0 : Int))
            (m89_1 (out_n + (1 : Nat)) t5 b0f (out_n + (1 : Nat)) fun (i : Nat) =>
              bif i.blt out_n then b1f i else bif ((0 : Nat) + (i - out_n)).beq ((0 : Nat), Operand.tmp (14 : Nat)).fst then IntKind.u8.wrap t5 else (0 : Int))
            [((1000 : Nat), some (1000 : Nat)), ((1001 : Nat), some (16 : Nat))]).br
        (Orc.cut (nat_lit 2) (s89_1 out_n t5 b0f b1n b1f) (m89_1 out_n t5 b0f b1n b1f)
          [((1000 : Nat), some (1000 : Nat)), ((1001 : Nat), some (1001 : Nat))])).br
  (Orc.ch Ch.none
    (Orc.ch (Ch.s (strOf out_n fun (i : Nat) => b1f ((0 : Nat) + i)))
      (Orc.fin (AV.sc (Value.string (strOf out_n fun (i : Nat) => b1f ((0 : Nat) + i)))) [] [])))) _ _ (by kernel_rfl) (by kernel_rfl) (show True ∧
  (decide (t5 < (256 : Int)) = true →
      True ∧
        True ∧
          ((0 : Nat) = (0 : Nat) ∧ True) ∧
            True ∧
              True ∧
                ∃ (r : Bool),
                  ((True ∧ True ∧ True) ∧
                      True ∧
                        Ok Proofs.Try.prog (83 : Nat)
                          [AV.ar (4 : Nat) (1 : Nat) fun (i : Nat) => AV.sc (Value.int IntKind.u64 (b0f i)), AV.sc (Value.int IntKind.u8 (IntKind.u8.wrap t5))]
                          [] (AV.sc (Value.bool r)) []) ∧
                    (r = true →
                        True ∧
                          True ∧
                            True ∧
                              ((True ∧ True) ∧ True) ∧
                                (out_n ≤ b1n ∧
                                    ((0 : Nat) + (1 : Nat) ≤ (1 : Nat) ∧ (1 : Nat) = (1 : Nat)) ∧
                                      (out_n + (1 : Nat)) * (1 : Nat) ≤ (140737488355328 : Nat) ∧ out_n + (1 : Nat) ≤ maxLen) ∧
                                  True ∧
                                    ((True ∧
                                          Sub (AV.pt (1000 : Nat) [] (0 : Nat)) (AV.pt (1000 : Nat) [] (0 : Nat)) ∧
                                            True ∧
                                              Sub (AV.rf (1001 : Nat) (1 : Nat) (0 : Nat) (out_n + (1 : Nat)))
                                                  (AV.rf (1001 : Nat) (1 : Nat) (0 : Nat) (out_n + (1 : Nat))) ∧
                                                True ∧ Sub (AV.sc (Value.int IntKind.i64 t5)) (AV.sc (Value.int IntKind.i64 t5)) ∧ True) ∧
                                        True ∧
                                          SubB (AV.ar (4 : Nat) (1 : Nat) fun (i0 : Nat) => AV.sc (Value.int IntKind.u64 (b0f i0)))
                                              (AV.ar (4 : Nat) (1 : Nat) fun (i0 : Nat) => AV.sc (Value.int IntKind.u64 (b0f i0))) ∧
                                            True ∧
                                              SubB
                                                  (AV.ar (out_n + (1 : Nat)) (1 : Nat) fun (i : Nat) =>
                                                    AV.sc
                                                      (Value.int IntKind.u8
                                                        (bif i.blt out_n then b1f i
                                                        else bif ((0 : Nat) + (i - out_n)).beq (0 : Nat) then IntKind.u8.wrap t5 else (0 : Int))))
                                                  (AV.ar (out_n + (1 : Nat)) (1 : Nat) fun (i0 : Nat) =>
                                                    AV.sc
                                                      (Value.int IntKind.u8
                                                        (bif i0.blt out_n then b1f i0
                                                        else bif ((0 : Nat) + (i0 - out_n)).beq (0 : Nat) then IntKind.u8.wrap t5 else (0 : Int)))) ∧
                                                True) ∧
                                      L89_1 (out_n + (1 : Nat)) t5 b0f (out_n + (1 : Nat))
                                        (fun (i : Nat) =>
                                          bif i.blt out_n then b1f i else bif ((0 : Nat) + (i - out_n)).beq (0 : Nat) then IntKind.u8.wrap t5 else (0 : Int))
                                        res) ∧
                      (r = false →
                        ((True ∧
                              Sub (AV.pt (1000 : Nat) [] (0 : Nat)) (AV.pt (1000 : Nat) [] (0 : Nat)) ∧
                                True ∧
                                  Sub (AV.rf (1001 : Nat) (1 : Nat) (0 : Nat) out_n) (AV.rf (1001 : Nat) (1 : Nat) (0 : Nat) out_n) ∧
                                    True ∧ Sub (AV.sc (Value.int IntKind.i64 t5)) (AV.sc (Value.int IntKind.i64 t5)) ∧ True) ∧
                            True ∧
                              SubB (AV.ar (4 : Nat) (1 : Nat) fun (i0 : Nat) => AV.sc (Value.int IntKind.u64 (b0f i0)))
                                  (AV.ar (4 : Nat) (1 : Nat) fun (i0 : Nat) => AV.sc (Value.int IntKind.u64 (b0f i0))) ∧
                                True ∧
                                  SubB (AV.ar b1n (1 : Nat) fun (i0 : Nat) => AV.sc (Value.int IntKind.u8 (b1f i0)))
                                      (AV.ar b1n (1 : Nat) fun (i0 : Nat) => AV.sc (Value.int IntKind.u8 (b1f i0))) ∧
                                    True) ∧
                          L89_1 out_n t5 b0f b1n b1f res)) ∧
    (decide (t5 < (256 : Int)) = false →
      True ∧
        (((0 : Nat) + out_n ≤ b1n ∧ (1 : Nat) = (1 : Nat)) ∧
            (strOf out_n fun (i : Nat) => b1f ((0 : Nat) + i)).size = out_n ∧
              ∀ (i : Nat),
                i < out_n →
                  AV.sc (Value.int IntKind.u8 (b1f ((0 : Nat) + i))) =
                    AV.sc (Value.int IntKind.u8 (↑(byteAt (strOf out_n fun (i : Nat) => b1f ((0 : Nat) + i)) i).toNat : Int))) ∧
          True ∧
            True ∧
              ((True ∧
                    Sub (AV.sc (Value.string (strOf out_n fun (i : Nat) => b1f ((0 : Nat) + i))))
                        (AV.sc (Value.string (strOf out_n fun (i : Nat) => b1f ((0 : Nat) + i)))) ∧
                      True) ∧
                  True) ∧
                Sub (AV.sc (Value.string (strOf out_n fun (i : Nat) => b1f ((0 : Nat) + i)))) res ∧ SubOut [] []) from
    ⟨trivial, (And.elim (fun h1 k1 => ⟨(fun x2 => (fun h2 => ⟨trivial, ⟨trivial, ⟨⟨rfl, trivial⟩, ⟨trivial, ⟨trivial, (Exists.elim h2 fun x8 h8 => ⟨x8, (And.elim (fun h9 k9 => ⟨⟨⟨trivial, ⟨trivial, trivial⟩⟩, ⟨trivial, h9⟩⟩, (And.elim (fun h10 k10 => ⟨(fun x11 => (fun h11 => ⟨trivial, ⟨trivial, ⟨trivial, ⟨⟨⟨trivial, trivial⟩, trivial⟩, (And.elim (fun h16 k16 => ⟨(And.elim (fun h17 k17 => ⟨h17, (And.elim (fun h18 k18 => ⟨⟨h18, rfl⟩, (And.elim (fun h19 k19 => ⟨h19, k19⟩) k18)⟩) k17)⟩) h16), ⟨trivial, ⟨⟨⟨trivial, ⟨Sub.refl _, ⟨trivial, ⟨Sub.refl _, ⟨trivial, ⟨Sub.refl _, trivial⟩⟩⟩⟩⟩⟩, ⟨trivial, ⟨SubB.refl _, ⟨trivial, ⟨SubB.refl _, trivial⟩⟩⟩⟩⟩, k16⟩⟩⟩) h11)⟩⟩⟩⟩) (h10 x11)), (fun x11 => (fun h11 => ⟨⟨⟨trivial, ⟨Sub.refl _, ⟨trivial, ⟨Sub.refl _, ⟨trivial, ⟨Sub.refl _, trivial⟩⟩⟩⟩⟩⟩, ⟨trivial, ⟨SubB.refl _, ⟨trivial, ⟨SubB.refl _, trivial⟩⟩⟩⟩⟩, h11⟩) (k10 x11))⟩) k9)⟩) h8)⟩)⟩⟩⟩⟩⟩) (h1 x2)), (fun x2 => (fun h2 => ⟨trivial, (And.elim (fun h4 k4 => ⟨(And.elim (fun h5 k5 => ⟨⟨h5, rfl⟩, (And.elim (fun h6 k6 => ⟨h6, (fun x7 => (fun h7 => (fun x8 => (fun h8 => h8) (h7 x8))) (k6 x7))⟩) k5)⟩) h4), ⟨trivial, ⟨trivial, ⟨⟨⟨trivial, ⟨Sub.refl _, trivial⟩⟩, trivial⟩, ⟨k4, trivial⟩⟩⟩⟩⟩) h2)⟩) (k1 x2))⟩) h)⟩)
theorem r89_1 (out_n : Nat) (t5 : Int) (b0f : Nat → Int) (b1n : Nat) (b1f : Nat → Int) (res : AV)
    (h : L89_0 out_n (IntKind.i64.wrap (t5 + (1 : Int))) b0f b1n b1f res) :
    L89_1 out_n t5 b0f b1n b1f res :=
  rule Go.Am.Seat.tabOk 89 [] Go.Proofs.Try.f89 hf89 [1, 1, 0, 1, 0, 0, 1, 1, 1] (s89_1 out_n t5 b0f b1n b1f) (m89_1 out_n t5 b0f b1n b1f) res [] 400
    (Orc.cut (nat_lit 2) (s89_0 out_n (IntKind.i64.wrap (t5 + (1 : Int))) b0f b1n b1f) (m89_0 out_n (IntKind.i64.wrap (t5 + (1 : Int))) b0f b1n b1f)
  [((1000 : Nat), some (1000 : Nat)), ((1001 : Nat), some (1001 : Nat))]) _ _ (by kernel_rfl) (by kernel_rfl) (show True ∧
  True ∧
    ((True ∧
          Sub (AV.pt (1000 : Nat) [] (0 : Nat)) (AV.pt (1000 : Nat) [] (0 : Nat)) ∧
            True ∧
              Sub (AV.rf (1001 : Nat) (1 : Nat) (0 : Nat) out_n) (AV.rf (1001 : Nat) (1 : Nat) (0 : Nat) out_n) ∧
                True ∧
                  Sub (AV.sc (Value.int IntKind.i64 (IntKind.i64.wrap (t5 + (1 : Int))))) (AV.sc (Value.int IntKind.i64 (IntKind.i64.wrap (t5 + (1 : Int))))) ∧
                    True) ∧
        True ∧
          SubB (AV.ar (4 : Nat) (1 : Nat) fun (i0 : Nat) => AV.sc (Value.int IntKind.u64 (b0f i0)))
              (AV.ar (4 : Nat) (1 : Nat) fun (i0 : Nat) => AV.sc (Value.int IntKind.u64 (b0f i0))) ∧
            True ∧
              SubB (AV.ar b1n (1 : Nat) fun (i0 : Nat) => AV.sc (Value.int IntKind.u8 (b1f i0)))
                  (AV.ar b1n (1 : Nat) fun (i0 : Nat) => AV.sc (Value.int IntKind.u8 (b1f i0))) ∧
                True) ∧
      L89_0 out_n (IntKind.i64.wrap (t5 + (1 : Int))) b0f b1n b1f res from
    ⟨trivial, ⟨trivial, ⟨⟨⟨trivial, ⟨Sub.refl _, ⟨trivial, ⟨Sub.refl _, ⟨trivial, ⟨Sub.refl _, trivial⟩⟩⟩⟩⟩⟩, ⟨trivial, ⟨SubB.refl _, ⟨trivial, ⟨SubB.refl _, trivial⟩⟩⟩⟩⟩, h⟩⟩⟩)
end Go.Am.Seat
