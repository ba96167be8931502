/- The rules of 12 functions: from what is owed at each place of a function the function goes on as it is told there. Printed by a program of this seat; Lean checks each. -/
import Derived.Test.YtclpcgjnodpbcaaAmZ2
import Derived.Test.YtclpcgjnodpbcaaTab
open Go Go.Am Go.Am.Seat
namespace Go.Am.Seat
set_option linter.unusedVariables false
set_option maxRecDepth 100000
theorem hf14 : Go.Proofs.Try.prog.funcs[14]? = some Go.Proofs.Try.f14 := by kernel_rfl
abbrev s14_e (sf : Nat → Int) : List (Nat × AV) := [(0, (.ar 4 1 (fun i0 => (.sc (.int .u64 (sf i0))))))]
abbrev m14_e (sf : Nat → Int) : List (Nat × Nat × AV) := []
def L14_e (sf : Nat → Int) (res : AV) : Prop := Goes ⟨Go.Proofs.Try.prog, 14, [], res, []⟩ (place Go.Proofs.Try.f14 []) (s14_e sf) (m14_e sf)
theorem a14_e (sf : Nat → Int) (res : AV) (h : (∀ slot, fact (look .undef (s14_e sf) slot)) → L14_e sf res) : L14_e sf res :=
  assumeRule 14 [] Go.Proofs.Try.f14 hf14 [] (s14_e sf) (m14_e sf) res [] _ (by kernel_rfl) h
abbrev s14_0 (out_n : Nat) (t5 : Int) (b0f : Nat → Int) (b1n : Nat) (b1f : Nat → Int) : List (Nat × AV) := [(1, (.pt 1000 [] 0)), (3, (.rf 1001 1 0 out_n)), (5, (.sc (.int .i64 t5)))]
abbrev m14_0 (out_n : Nat) (t5 : Int) (b0f : Nat → Int) (b1n : Nat) (b1f : Nat → Int) : List (Nat × Nat × AV) := [(1000, 24, (.ar 4 1 (fun i0 => (.sc (.int .u64 (b0f i0)))))), (1001, 5, (.ar b1n 1 (fun i0 => (.sc (.int .u8 (b1f i0))))))]
def L14_0 (out_n : Nat) (t5 : Int) (b0f : Nat → Int) (b1n : Nat) (b1f : Nat → Int) (res : AV) : Prop := Goes ⟨Go.Proofs.Try.prog, 14, [], res, []⟩ (place Go.Proofs.Try.f14 [1, 1, 0, 1, 0, 0]) (s14_0 out_n t5 b0f b1n b1f) (m14_0 out_n t5 b0f b1n b1f)
theorem a14_0 (out_n : Nat) (t5 : Int) (b0f : Nat → Int) (b1n : Nat) (b1f : Nat → Int) (res : AV) (h : (∀ slot, fact (look .undef (s14_0 out_n t5 b0f b1n b1f) slot)) → L14_0 out_n t5 b0f b1n b1f res) : L14_0 out_n t5 b0f b1n b1f res :=
  assumeRule 14 [] Go.Proofs.Try.f14 hf14 [1, 1, 0, 1, 0, 0] (s14_0 out_n t5 b0f b1n b1f) (m14_0 out_n t5 b0f b1n b1f) res [] _ (by kernel_rfl) h
abbrev s14_1 (out_n : Nat) (t5 : Int) (b0f : Nat → Int) (b1n : Nat) (b1f : Nat → Int) : List (Nat × AV) := [(1, (.pt 1000 [] 0)), (3, (.rf 1001 1 0 out_n)), (5, (.sc (.int .i64 t5)))]
abbrev m14_1 (out_n : Nat) (t5 : Int) (b0f : Nat → Int) (b1n : Nat) (b1f : Nat → Int) : List (Nat × Nat × AV) := [(1000, 24, (.ar 4 1 (fun i0 => (.sc (.int .u64 (b0f i0)))))), (1001, 5, (.ar b1n 1 (fun i0 => (.sc (.int .u8 (b1f i0))))))]
def L14_1 (out_n : Nat) (t5 : Int) (b0f : Nat → Int) (b1n : Nat) (b1f : Nat → Int) (res : AV) : Prop := Goes ⟨Go.Proofs.Try.prog, 14, [], res, []⟩ (place Go.Proofs.Try.f14 [1, 1, 0, 1, 0, 0, 1, 1, 1]) (s14_1 out_n t5 b0f b1n b1f) (m14_1 out_n t5 b0f b1n b1f)
theorem a14_1 (out_n : Nat) (t5 : Int) (b0f : Nat → Int) (b1n : Nat) (b1f : Nat → Int) (res : AV) (h : (∀ slot, fact (look .undef (s14_1 out_n t5 b0f b1n b1f) slot)) → L14_1 out_n t5 b0f b1n b1f res) : L14_1 out_n t5 b0f b1n b1f res :=
  assumeRule 14 [] Go.Proofs.Try.f14 hf14 [1, 1, 0, 1, 0, 0, 1, 1, 1] (s14_1 out_n t5 b0f b1n b1f) (m14_1 out_n t5 b0f b1n b1f) res [] _ (by kernel_rfl) h
theorem o14 (sf : Nat → Int) (res : AV) (hnew : newOnly res) (h : L14_e sf res) : Ok Go.Proofs.Try.prog 14 [(.ar 4 1 (fun i0 => (.sc (.int .u64 (sf i0)))))] [] res [] :=
  okRule2 14 Go.Proofs.Try.f14 hf14 [(.ar 4 1 (fun i0 => (.sc (.int .u64 (sf i0)))))] [] res [] [] rfl (by kernel_rfl) (by kernel_rfl) (by kernel_rfl) ⟨hnew, by simp⟩ (L14_e sf res) (by kernel_rfl) h
theorem r14_e (sf : Nat → Int) (res : AV)
    (h : L14_0 (0 : Nat) (0 : Int) sf (0 : Nat) (fun (i : Nat) => Int.ofNat (0 : Nat)) res) :
    L14_e sf res :=
  rule Go.Am.Seat.tabOk 14 [] Go.Proofs.Try.f14 hf14 [] (s14_e sf) (m14_e sf) res [] 400
    (Orc.cut (nat_lit 9) (s14_0 (0 : Nat) (0 : Int) sf (0 : Nat) fun (i : Nat) => Int.ofNat (0 : Nat))
  (m14_0 (0 : Nat) (0 : Int) sf (0 : Nat) fun (i : Nat) => Int.ofNat (0 : Nat)) [((1000 : Nat), some (1 : Nat)), ((1001 : Nat), none)]) _ _ (by kernel_rfl) (by kernel_rfl) (show True ∧
  True ∧
    True ∧
      True ∧
        ((True ∧
              Sub (AV.pt (1000 : Nat) [] (0 : Nat)) (AV.pt (1000 : Nat) [] (0 : Nat)) ∧
                True ∧ Sub (AV.sc (Value.int IntKind.i64 (0 : Int))) (AV.sc (Value.int IntKind.i64 (0 : Int))) ∧ True) ∧
            True ∧
              SubB (AV.ar (4 : Nat) (1 : Nat) fun (i0 : Nat) => AV.sc (Value.int IntKind.u64 (sf i0)))
                  (AV.ar (4 : Nat) (1 : Nat) fun (i0 : Nat) => AV.sc (Value.int IntKind.u64 (sf i0))) ∧
                True) ∧
          L14_0 (0 : Nat) (0 : Int) sf (0 : Nat) (fun (i : Nat) => Int.ofNat (0 : Nat)) res from
    ⟨trivial, ⟨trivial, ⟨trivial, ⟨trivial, ⟨⟨⟨trivial, ⟨Sub.refl _, ⟨trivial, ⟨Sub.refl _, trivial⟩⟩⟩⟩, ⟨trivial, ⟨SubB.refl _, trivial⟩⟩⟩, h⟩⟩⟩⟩⟩)
theorem r14_0 (out_n : Nat) (t5 : Int) (b0f : Nat → Int) (b1n : Nat) (b1f : Nat → Int) (res : AV)
    (h : (decide (t5 < (256 : Int)) = true →
    ∃ (r : Bool),
      Ok Proofs.Try.prog (15 : Nat)
          [AV.ar (4 : Nat) (1 : Nat) fun (i : Nat) => AV.sc (Value.int IntKind.u64 (b0f i)), AV.sc (Value.int IntKind.u8 (IntKind.u8.wrap t5))] []
          (AV.sc (Value.bool r)) [] ∧
        (r = true →
            (out_n ≤ b1n ∧ (0 : Nat) + (1 : Nat) ≤ (1 : Nat) ∧ (out_n + (1 : Nat)) * (1 : Nat) ≤ (140737488355328 : Nat) ∧ out_n + (1 : Nat) ≤ maxLen) ∧
              L14_1 (out_n + (1 : Nat)) t5 b0f (out_n + (1 : Nat))
                (fun (i : Nat) => bif i.blt out_n then b1f i else bif ((0 : Nat) + (i - out_n)).beq (0 : Nat) then IntKind.u8.wrap t5 else (0 : Int)) res) ∧
          (r = false → L14_1 out_n t5 b0f b1n b1f res)) ∧
  (decide (t5 < (256 : Int)) = false →
    ((0 : Nat) + out_n ≤ b1n ∧
        (strOf out_n fun (i : Nat) => b1f ((0 : Nat) + i)).size = out_n ∧
          ∀ (i : Nat),
            i < out_n →
              AV.sc (Value.int IntKind.u8 (b1f ((0 : Nat) + i))) =
                AV.sc (Value.int IntKind.u8 (↑(byteAt (strOf out_n fun (i : Nat) => b1f ((0 : Nat) + i)) i).toNat : Int))) ∧
      Sub (AV.sc (Value.string (strOf out_n fun (i : Nat) => b1f ((0 : Nat) + i)))) res)) :
    L14_0 out_n t5 b0f b1n b1f res :=
  rule Go.Am.Seat.tabOk 14 [] Go.Proofs.Try.f14 hf14 [1, 1, 0, 1, 0, 0] (s14_0 out_n t5 b0f b1n b1f) (m14_0 out_n t5 b0f b1n b1f) res [] 400
    ((Orc.call [] [] (fun (r15 : Bool) => AV.sc (Value.bool r15)) (fun (r15 : Bool) => []) fun (r15 : Bool) =>
      (Orc.cut (nat_lit 2)
            (s14_1 (out_n + (1 : Nat)) t5 b0f (out_n + (1 : Nat)) fun (i : Nat) =>
              bif i.blt out_n then b1f i else bif ((0 : Nat) + (i - out_n)).beq ((0 : Nat), Operand.tmp (14 : Nat)).fst then IntKind.u8.wrap t5 else (0 : Int))
            (m14_1 (out_n + (1 : Nat)) t5 b0f (out_n + (1 : Nat)) fun (i : Nat) =>
              bif i.blt out_n then b1f i else bif ((0 : Nat) + (i - out_n)).beq ((0 : Nat), Operand.tmp (14 : Nat)).fst then IntKind.u8.wrap t5 else (0 : Int))
            [((1000 : Nat), some (1000 : Nat)), ((1001 : Nat), some (16 : Nat))]).br
        (Orc.cut (nat_lit 2) (s14_1 out_n t5 b0f b1n b1f) (m14_1 out_n t5 b0f b1n b1f)
          [((1000 : Nat), some (1000 : Nat)), ((1001 : Nat), some (1001 : Nat))])).br
  (Orc.ch Ch.none
    (Orc.ch (Ch.s (strOf out_n fun (i : Nat) => b1f ((0 : Nat) + i)))
      (Orc.fin (AV.sc (Value.string (strOf out_n fun (i : Nat) => b1f ((0 : Nat) + i)))) [] [])))) _ _ (by kernel_rfl) (by kernel_rfl) (show True ∧
  (decide (t5 < (256 : Int)) = true →
      True ∧
        True ∧
          ((0 : Nat) = (0 : Nat) ∧ True) ∧
            True ∧
              True ∧
                ∃ (r : Bool),
                  ((True ∧ True ∧ True) ∧
                      True ∧
                        Ok Proofs.Try.prog (15 : Nat)
                          [AV.ar (4 : Nat) (1 : Nat) fun (i : Nat) => AV.sc (Value.int IntKind.u64 (b0f i)), AV.sc (Value.int IntKind.u8 (IntKind.u8.wrap t5))]
                          [] (AV.sc (Value.bool r)) []) ∧
                    (r = true →
                        True ∧
                          True ∧
                            True ∧
                              ((True ∧ True) ∧ True) ∧
                                (out_n ≤ b1n ∧
                                    ((0 : Nat) + (1 : Nat) ≤ (1 : Nat) ∧ (1 : Nat) = (1 : Nat)) ∧
                                      (out_n + (1 : Nat)) * (1 : Nat) ≤ (140737488355328 : Nat) ∧ out_n + (1 : Nat) ≤ maxLen) ∧
                                  True ∧
                                    ((True ∧
                                          Sub (AV.pt (1000 : Nat) [] (0 : Nat)) (AV.pt (1000 : Nat) [] (0 : Nat)) ∧
                                            True ∧
                                              Sub (AV.rf (1001 : Nat) (1 : Nat) (0 : Nat) (out_n + (1 : Nat)))
                                                  (AV.rf (1001 : Nat) (1 : Nat) (0 : Nat) (out_n + (1 : Nat))) ∧
                                                True ∧ Sub (AV.sc (Value.int IntKind.i64 t5)) (AV.sc (Value.int IntKind.i64 t5)) ∧ True) ∧
                                        True ∧
                                          SubB (AV.ar (4 : Nat) (1 : Nat) fun (i0 : Nat) => AV.sc (Value.int IntKind.u64 (b0f i0)))
                                              (AV.ar (4 : Nat) (1 : Nat) fun (i0 : Nat) => AV.sc (Value.int IntKind.u64 (b0f i0))) ∧
                                            True ∧
                                              SubB
                                                  (AV.ar (out_n + (1 : Nat)) (1 : Nat) fun (i : Nat) =>
                                                    AV.sc
                                                      (Value.int IntKind.u8
                                                        (bif i.blt out_n then b1f i
                                                        else bif ((0 : Nat) + (i - out_n)).beq (0 : Nat) then IntKind.u8.wrap t5 else (0 : Int))))
                                                  (AV.ar (out_n + (1 : Nat)) (1 : Nat) fun (i0 : Nat) =>
                                                    AV.sc
                                                      (Value.int IntKind.u8
                                                        (bif i0.blt out_n then b1f i0
                                                        else bif ((0 : Nat) + (i0 - out_n)).beq (0 : Nat) then IntKind.u8.wrap t5 else (0 : Int)))) ∧
                                                True) ∧
                                      L14_1 (out_n + (1 : Nat)) t5 b0f (out_n + (1 : Nat))
                                        (fun (i : Nat) =>
                                          bif i.blt out_n then b1f i else bif ((0 : Nat) + (i - out_n)).beq (0 : Nat) then IntKind.u8.wrap t5 else (0 : Int))
                                        res) ∧
                      (r = false →
                        ((True ∧
                              Sub (AV.pt (1000 : Nat) [] (0 : Nat)) (AV.pt (1000 : Nat) [] (0 : Nat)) ∧
                                True ∧
                                  Sub (AV.rf (1001 : Nat) (1 : Nat) (0 : Nat) out_n) (AV.rf (1001 : Nat) (1 : Nat) (0 : Nat) out_n) ∧
                                    True ∧ Sub (AV.sc (Value.int IntKind.i64 t5)) (AV.sc (Value.int IntKind.i64 t5)) ∧ True) ∧
                            True ∧
                              SubB (AV.ar (4 : Nat) (1 : Nat) fun (i0 : Nat) => AV.sc (Value.int IntKind.u64 (b0f i0)))
                                  (AV.ar (4 : Nat) (1 : Nat) fun (i0 : Nat) => AV.sc (Value.int IntKind.u64 (b0f i0))) ∧
                                True ∧
                                  SubB (AV.ar b1n (1 : Nat) fun (i0 : Nat) => AV.sc (Value.int IntKind.u8 (b1f i0)))
                                      (AV.ar b1n (1 : Nat) fun (i0 : Nat) => AV.sc (Value.int IntKind.u8 (b1f i0))) ∧
                                    True) ∧
                          L14_1 out_n t5 b0f b1n b1f res)) ∧
    (decide (t5 < (256 : Int)) = false →
      True ∧
        (((0 : Nat) + out_n ≤ b1n ∧ (1 : Nat) = (1 : Nat)) ∧
            (strOf out_n fun (i : Nat) => b1f ((0 : Nat) + i)).size = out_n ∧
              ∀ (i : Nat),
                i < out_n →
                  AV.sc (Value.int IntKind.u8 (b1f ((0 : Nat) + i))) =
                    AV.sc (Value.int IntKind.u8 (↑(byteAt (strOf out_n fun (i : Nat) => b1f ((0 : Nat) + i)) i).toNat : Int))) ∧
          True ∧
            True ∧
              ((True ∧
                    Sub (AV.sc (Value.string (strOf out_n fun (i : Nat) => b1f ((0 : Nat) + i))))
                        (AV.sc (Value.string (strOf out_n fun (i : Nat) => b1f ((0 : Nat) + i)))) ∧
                      True) ∧
                  True) ∧
                Sub (AV.sc (Value.string (strOf out_n fun (i : Nat) => b1f ((0 : Nat) + i)))) res ∧ SubOut [] []) from
    ⟨trivial, (And.elim (fun h1 k1 => ⟨(fun x2 => (fun h2 => ⟨trivial, ⟨trivial, ⟨⟨rfl, trivial⟩, ⟨trivial, ⟨trivial, (Exists.elim h2 fun x8 h8 => ⟨x8, (And.elim (fun h9 k9 => ⟨⟨⟨trivial, ⟨trivial, trivial⟩⟩, ⟨trivial, h9⟩⟩, (And.elim (fun h10 k10 => ⟨(fun x11 => (fun h11 => ⟨trivial, ⟨trivial, ⟨trivial, ⟨⟨⟨trivial, trivial⟩, trivial⟩, (And.elim (fun h16 k16 => ⟨(And.elim (fun h17 k17 => ⟨h17, (And.elim (fun h18 k18 => ⟨⟨h18, rfl⟩, (And.elim (fun h19 k19 => ⟨h19, k19⟩) k18)⟩) k17)⟩) h16), ⟨trivial, ⟨⟨⟨trivial, ⟨Sub.refl _, ⟨trivial, ⟨Sub.refl _, ⟨trivial, ⟨Sub.refl _, trivial⟩⟩⟩⟩⟩⟩, ⟨trivial, ⟨SubB.refl _, ⟨trivial, ⟨SubB.refl _, trivial⟩⟩⟩⟩⟩, k16⟩⟩⟩) h11)⟩⟩⟩⟩) (h10 x11)), (fun x11 => (fun h11 => ⟨⟨⟨trivial, ⟨Sub.refl _, ⟨trivial, ⟨Sub.refl _, ⟨trivial, ⟨Sub.refl _, trivial⟩⟩⟩⟩⟩⟩, ⟨trivial, ⟨SubB.refl _, ⟨trivial, ⟨SubB.refl _, trivial⟩⟩⟩⟩⟩, h11⟩) (k10 x11))⟩) k9)⟩) h8)⟩)⟩⟩⟩⟩⟩) (h1 x2)), (fun x2 => (fun h2 => ⟨trivial, (And.elim (fun h4 k4 => ⟨(And.elim (fun h5 k5 => ⟨⟨h5, rfl⟩, (And.elim (fun h6 k6 => ⟨h6, (fun x7 => (fun h7 => (fun x8 => (fun h8 => h8) (h7 x8))) (k6 x7))⟩) k5)⟩) h4), ⟨trivial, ⟨trivial, ⟨⟨⟨trivial, ⟨Sub.refl _, trivial⟩⟩, trivial⟩, ⟨k4, trivial⟩⟩⟩⟩⟩) h2)⟩) (k1 x2))⟩) h)⟩)
theorem r14_1 (out_n : Nat) (t5 : Int) (b0f : Nat → Int) (b1n : Nat) (b1f : Nat → Int) (res : AV)
    (h : L14_0 out_n (IntKind.i64.wrap (t5 + (1 : Int))) b0f b1n b1f res) :
    L14_1 out_n t5 b0f b1n b1f res :=
  rule Go.Am.Seat.tabOk 14 [] Go.Proofs.Try.f14 hf14 [1, 1, 0, 1, 0, 0, 1, 1, 1] (s14_1 out_n t5 b0f b1n b1f) (m14_1 out_n t5 b0f b1n b1f) res [] 400
    (Orc.cut (nat_lit 2) (s14_0 out_n (IntKind.i64.wrap (t5 + (1 : Int))) b0f b1n b1f) (m14_0 out_n (IntKind.i64.wrap (t5 + (1 : Int))) b0f b1n b1f)
  [((1000 : Nat), some (1000 : Nat)), ((1001 : Nat), some (1001 : Nat))]) _ _ (by kernel_rfl) (by kernel_rfl) (show True ∧
  True ∧
    ((True ∧
          Sub (AV.pt (1000 : Nat) [] (0 : Nat)) (AV.pt (1000 : Nat) [] (0 : Nat)) ∧
            True ∧
              Sub (AV.rf (1001 : Nat) (1 : Nat) (0 : Nat) out_n) (AV.rf (1001 : Nat) (1 : Nat) (0 : Nat) out_n) ∧
                True ∧
                  Sub (AV.sc (Value.int IntKind.i64 (IntKind.i64.wrap (t5 + (1 : Int))))) (AV.sc (Value.int IntKind.i64 (IntKind.i64.wrap (t5 + (1 : Int))))) ∧
                    True) ∧
        True ∧
          SubB (AV.ar (4 : Nat) (1 : Nat) fun (i0 : Nat) => AV.sc (Value.int IntKind.u64 (b0f i0)))
              (AV.ar (4 : Nat) (1 : Nat) fun (i0 : Nat) => AV.sc (Value.int IntKind.u64 (b0f i0))) ∧
            True ∧
              SubB (AV.ar b1n (1 : Nat) fun (i0 : Nat) => AV.sc (Value.int IntKind.u8 (b1f i0)))
                  (AV.ar b1n (1 : Nat) fun (i0 : Nat) => AV.sc (Value.int IntKind.u8 (b1f i0))) ∧
                True) ∧
      L14_0 out_n (IntKind.i64.wrap (t5 + (1 : Int))) b0f b1n b1f res from
    ⟨trivial, ⟨trivial, ⟨⟨⟨trivial, ⟨Sub.refl _, ⟨trivial, ⟨Sub.refl _, ⟨trivial, ⟨Sub.refl _, trivial⟩⟩⟩⟩⟩⟩, ⟨trivial, ⟨SubB.refl _, ⟨trivial, ⟨SubB.refl _, trivial⟩⟩⟩⟩⟩, h⟩⟩⟩)
theorem hf15 : Go.Proofs.Try.prog.funcs[15]? = some Go.Proofs.Try.f15 := by kernel_rfl
abbrev s15_e (sf : Nat → Int) (b : Int) : List (Nat × AV) := [(0, (.ar 4 1 (fun i0 => (.sc (.int .u64 (sf i0)))))), (1, (.sc (.int .u8 b)))]
abbrev m15_e (sf : Nat → Int) (b : Int) : List (Nat × Nat × AV) := []
def L15_e (sf : Nat → Int) (b : Int) (res : AV) : Prop := Goes ⟨Go.Proofs.Try.prog, 15, [], res, []⟩ (place Go.Proofs.Try.f15 []) (s15_e sf b) (m15_e sf b)
theorem a15_e (sf : Nat → Int) (b : Int) (res : AV) (h : (∀ slot, fact (look .undef (s15_e sf b) slot)) → L15_e sf b res) : L15_e sf b res :=
  assumeRule 15 [] Go.Proofs.Try.f15 hf15 [] (s15_e sf b) (m15_e sf b) res [] _ (by kernel_rfl) h
theorem o15 (sf : Nat → Int) (b : Int) (res : AV) (hnew : newOnly res) (h : L15_e sf b res) : Ok Go.Proofs.Try.prog 15 [(.ar 4 1 (fun i0 => (.sc (.int .u64 (sf i0))))), (.sc (.int .u8 b))] [] res [] :=
  okRule2 15 Go.Proofs.Try.f15 hf15 [(.ar 4 1 (fun i0 => (.sc (.int .u64 (sf i0))))), (.sc (.int .u8 b))] [] res [] [] rfl (by kernel_rfl) (by kernel_rfl) (by kernel_rfl) ⟨hnew, by simp⟩ (L15_e sf b res) (by kernel_rfl) h
theorem r15_e (sf : Nat → Int) (b : Int) (res : AV)
    (h : ((0 : Int) ≤ IntKind.u8.wrap (b.tdiv (64 : Int)) ∧ IntKind.u8.wrap (b.tdiv (64 : Int)) < (↑(4 : Nat) : Int)) ∧
  (IntKind.u8.wrap (b.tdiv (64 : Int))).toNat < (4 : Nat) ∧
    (0 : Int) ≤ b.tmod (64 : Int) ∧
      Sub
        (AV.sc
          (Value.bool
            (IntKind.u64.wrap
                (↑(BitVec.ofInt IntKind.u64.bits
                          ((sf (IntKind.u8.wrap (b.tdiv (64 : Int))).toNat).fdiv ((2 : Int) ^ min (b.tmod (64 : Int)).toNat IntKind.u64.bits)) &&&
                        BitVec.ofInt IntKind.u64.bits (1 : Int)).toNat :
                  Int) ==
              (1 : Int))))
        res) :
    L15_e sf b res :=
  rule Go.Am.Seat.tabOk 15 [] Go.Proofs.Try.f15 hf15 [] (s15_e sf b) (m15_e sf b) res [] 400
    (Orc.fin
  (AV.sc
    (Value.bool
      (IntKind.u64.wrap
          (↑(BitVec.ofInt IntKind.u64.bits
                    ((sf (IntKind.u8.wrap (b.tdiv (64 : Int))).toNat).fdiv ((2 : Int) ^ min (b.tmod (64 : Int)).toNat IntKind.u64.bits)) &&&
                  BitVec.ofInt IntKind.u64.bits (1 : Int)).toNat :
            Int) ==
        (1 : Int))))
  [] []) _ _ (by kernel_rfl) (by kernel_rfl) (show True ∧
  True ∧
    True ∧
      (64 : Int) ≠ (0 : Int) ∧
        ((0 : Int) ≤ IntKind.u8.wrap (b.tdiv (64 : Int)) ∧ IntKind.u8.wrap (b.tdiv (64 : Int)) < (↑(4 : Nat) : Int)) ∧
          ((IntKind.u8.wrap (b.tdiv (64 : Int))).toNat * (1 : Nat) + (0 : Nat) = plus (0 : Nat) ((IntKind.u8.wrap (b.tdiv (64 : Int))).toNat * (1 : Nat)) ∧
              (IntKind.u8.wrap (b.tdiv (64 : Int))).toNat < (4 : Nat) ∧ True) ∧
            True ∧
              (64 : Int) ≠ (0 : Int) ∧
                (0 : Int) ≤ b.tmod (64 : Int) ∧
                  True ∧
                    True ∧
                      True ∧
                        True ∧
                          ((True ∧
                                Sub
                                    (AV.sc
                                      (Value.bool
                                        (IntKind.u64.wrap
                                            (↑(BitVec.ofInt IntKind.u64.bits
                                                      ((sf (IntKind.u8.wrap (b.tdiv (64 : Int))).toNat).fdiv
                                                        ((2 : Int) ^ min (b.tmod (64 : Int)).toNat IntKind.u64.bits)) &&&
                                                    BitVec.ofInt IntKind.u64.bits (1 : Int)).toNat :
                                              Int) ==
                                          (1 : Int))))
                                    (AV.sc
                                      (Value.bool
                                        (IntKind.u64.wrap
                                            (↑(BitVec.ofInt IntKind.u64.bits
                                                      ((sf (IntKind.u8.wrap (b.tdiv (64 : Int))).toNat).fdiv
                                                        ((2 : Int) ^ min (b.tmod (64 : Int)).toNat IntKind.u64.bits)) &&&
                                                    BitVec.ofInt IntKind.u64.bits (1 : Int)).toNat :
                                              Int) ==
                                          (1 : Int)))) ∧
                                  True) ∧
                              True) ∧
                            Sub
                                (AV.sc
                                  (Value.bool
                                    (IntKind.u64.wrap
                                        (↑(BitVec.ofInt IntKind.u64.bits
                                                  ((sf (IntKind.u8.wrap (b.tdiv (64 : Int))).toNat).fdiv
                                                    ((2 : Int) ^ min (b.tmod (64 : Int)).toNat IntKind.u64.bits)) &&&
                                                BitVec.ofInt IntKind.u64.bits (1 : Int)).toNat :
                                          Int) ==
                                      (1 : Int))))
                                res ∧
                              SubOut [] [] from
    ⟨trivial, ⟨trivial, ⟨trivial, ⟨(by decide), (And.elim (fun h4 k4 => ⟨(And.elim (fun h5 k5 => ⟨h5, k5⟩) h4), (And.elim (fun h5 k5 => ⟨⟨rfl, ⟨h5, trivial⟩⟩, ⟨trivial, ⟨(by decide), (And.elim (fun h8 k8 => ⟨h8, ⟨trivial, ⟨trivial, ⟨trivial, ⟨trivial, ⟨⟨⟨trivial, ⟨Sub.refl _, trivial⟩⟩, trivial⟩, ⟨k8, trivial⟩⟩⟩⟩⟩⟩⟩) k5)⟩⟩⟩) k4)⟩) h)⟩⟩⟩⟩)
theorem hf16 : Go.Proofs.Try.prog.funcs[16]? = some Go.Proofs.Try.f16 := by kernel_rfl
abbrev s16_e (sf : Nat → Int) : List (Nat × AV) := [(0, (.ar 4 1 (fun i0 => (.sc (.int .u64 (sf i0))))))]
abbrev m16_e (sf : Nat → Int) : List (Nat × Nat × AV) := []
def L16_e (sf : Nat → Int) (res : AV) : Prop := Goes ⟨Go.Proofs.Try.prog, 16, [], res, []⟩ (place Go.Proofs.Try.f16 []) (s16_e sf) (m16_e sf)
theorem a16_e (sf : Nat → Int) (res : AV) (h : (∀ slot, fact (look .undef (s16_e sf) slot)) → L16_e sf res) : L16_e sf res :=
  assumeRule 16 [] Go.Proofs.Try.f16 hf16 [] (s16_e sf) (m16_e sf) res [] _ (by kernel_rfl) h
abbrev s16_0 (n : Int) (t6f : Nat → Int) (t7 : Int) : List (Nat × AV) := [(3, (.sc (.int .i64 n))), (6, (.ar 4 1 (fun i0 => (.sc (.int .u64 (t6f i0)))))), (7, (.sc (.int .i64 t7)))]
abbrev m16_0 (n : Int) (t6f : Nat → Int) (t7 : Int) : List (Nat × Nat × AV) := []
def L16_0 (n : Int) (t6f : Nat → Int) (t7 : Int) (res : AV) : Prop := Goes ⟨Go.Proofs.Try.prog, 16, [], res, []⟩ (place Go.Proofs.Try.f16 [1, 1, 0, 1, 0, 0]) (s16_0 n t6f t7) (m16_0 n t6f t7)
theorem a16_0 (n : Int) (t6f : Nat → Int) (t7 : Int) (res : AV) (h : (∀ slot, fact (look .undef (s16_0 n t6f t7) slot)) → L16_0 n t6f t7 res) : L16_0 n t6f t7 res :=
  assumeRule 16 [] Go.Proofs.Try.f16 hf16 [1, 1, 0, 1, 0, 0] (s16_0 n t6f t7) (m16_0 n t6f t7) res [] _ (by kernel_rfl) h
theorem o16 (sf : Nat → Int) (res : AV) (hnew : newOnly res) (h : L16_e sf res) : Ok Go.Proofs.Try.prog 16 [(.ar 4 1 (fun i0 => (.sc (.int .u64 (sf i0)))))] [] res [] :=
  okRule2 16 Go.Proofs.Try.f16 hf16 [(.ar 4 1 (fun i0 => (.sc (.int .u64 (sf i0)))))] [] res [] [] rfl (by kernel_rfl) (by kernel_rfl) (by kernel_rfl) ⟨hnew, by simp⟩ (L16_e sf res) (by kernel_rfl) h
theorem r16_e (sf : Nat → Int) (res : AV)
    (h : L16_0 (0 : Int) sf (0 : Int) res) :
    L16_e sf res :=
  rule Go.Am.Seat.tabOk 16 [] Go.Proofs.Try.f16 hf16 [] (s16_e sf) (m16_e sf) res [] 400
    (Orc.cut (nat_lit 9) (s16_0 (0 : Int) sf (0 : Int)) (m16_0 (0 : Int) sf (0 : Int)) []) _ _ (by kernel_rfl) (by kernel_rfl) (show True ∧
  True ∧
    True ∧
      ((0 : Nat) = (0 : Nat) ∧ True) ∧
        True ∧
          ((True ∧
                Sub (AV.sc (Value.int IntKind.i64 (0 : Int))) (AV.sc (Value.int IntKind.i64 (0 : Int))) ∧
                  True ∧
                    Sub (AV.ar (4 : Nat) (1 : Nat) fun (i0 : Nat) => AV.sc (Value.int IntKind.u64 (sf i0)))
                        (AV.ar (4 : Nat) (1 : Nat) fun (i0 : Nat) => AV.sc (Value.int IntKind.u64 (sf i0))) ∧
                      True ∧ Sub (AV.sc (Value.int IntKind.i64 (0 : Int))) (AV.sc (Value.int IntKind.i64 (0 : Int))) ∧ True) ∧
              True) ∧
            L16_0 (0 : Int) sf (0 : Int) res from
    ⟨trivial, ⟨trivial, ⟨trivial, ⟨⟨rfl, trivial⟩, ⟨trivial, ⟨⟨⟨trivial, ⟨Sub.refl _, ⟨trivial, ⟨Sub.refl _, ⟨trivial, ⟨Sub.refl _, trivial⟩⟩⟩⟩⟩⟩, trivial⟩, h⟩⟩⟩⟩⟩⟩)
theorem r16_0 (n : Int) (t6f : Nat → Int) (t7 : Int) (res : AV)
    (h : (decide (t7 < (4 : Int)) = true →
    ((0 : Int) ≤ t7 ∧ t7 < (↑(4 : Nat) : Int) ∧ (AV.sc (Value.int IntKind.u64 (t6f t7.toNat))).sz = (1 : Nat)) ∧
      ∃ (r : Int),
        Ok Proofs.Try.prog (29 : Nat) [AV.sc (Value.int IntKind.u64 (t6f t7.toNat))] [] (AV.sc (Value.int IntKind.i64 r)) [] ∧
          L16_0 (IntKind.i64.wrap (n + r)) t6f (IntKind.i64.wrap (t7 + (1 : Int))) res) ∧
  (decide (t7 < (4 : Int)) = false → Sub (AV.sc (Value.int IntKind.i64 n)) res)) :
    L16_0 n t6f t7 res :=
  rule Go.Am.Seat.tabOk 16 [] Go.Proofs.Try.f16 hf16 [1, 1, 0, 1, 0, 0] (s16_0 n t6f t7) (m16_0 n t6f t7) res [] 400
    ((Orc.call [] [] (fun (r29 : Int) => AV.sc (Value.int IntKind.i64 r29)) (fun (r29 : Int) => []) fun (r29 : Int) =>
      Orc.cut (nat_lit 3) (s16_0 (IntKind.i64.wrap (n + r29)) t6f (IntKind.i64.wrap (t7 + (1 : Int))))
        (m16_0 (IntKind.i64.wrap (n + r29)) t6f (IntKind.i64.wrap (t7 + (1 : Int)))) []).br
  (Orc.fin (AV.sc (Value.int IntKind.i64 n)) [] [])) _ _ (by kernel_rfl) (by kernel_rfl) (show True ∧
  (decide (t7 < (4 : Int)) = true →
      ((0 : Int) ≤ t7 ∧ t7 < (↑(4 : Nat) : Int) ∧ (AV.sc (Value.int IntKind.u64 (t6f t7.toNat))).sz = (1 : Nat) ∧ false = false) ∧
        True ∧
          True ∧
            True ∧
              ∃ (r : Int),
                ((True ∧ True) ∧ True ∧ Ok Proofs.Try.prog (29 : Nat) [AV.sc (Value.int IntKind.u64 (t6f t7.toNat))] [] (AV.sc (Value.int IntKind.i64 r)) []) ∧
                  True ∧
                    True ∧
                      True ∧
                        True ∧
                          ((True ∧
                                Sub (AV.sc (Value.int IntKind.i64 (IntKind.i64.wrap (n + r)))) (AV.sc (Value.int IntKind.i64 (IntKind.i64.wrap (n + r)))) ∧
                                  True ∧
                                    Sub (AV.ar (4 : Nat) (1 : Nat) fun (i0 : Nat) => AV.sc (Value.int IntKind.u64 (t6f i0)))
                                        (AV.ar (4 : Nat) (1 : Nat) fun (i0 : Nat) => AV.sc (Value.int IntKind.u64 (t6f i0))) ∧
                                      True ∧
                                        Sub (AV.sc (Value.int IntKind.i64 (IntKind.i64.wrap (t7 + (1 : Int)))))
                                            (AV.sc (Value.int IntKind.i64 (IntKind.i64.wrap (t7 + (1 : Int))))) ∧
                                          True) ∧
                              True) ∧
                            L16_0 (IntKind.i64.wrap (n + r)) t6f (IntKind.i64.wrap (t7 + (1 : Int))) res) ∧
    (decide (t7 < (4 : Int)) = false →
      True ∧
        True ∧
          True ∧
            ((True ∧ Sub (AV.sc (Value.int IntKind.i64 n)) (AV.sc (Value.int IntKind.i64 n)) ∧ True) ∧ True) ∧
              Sub (AV.sc (Value.int IntKind.i64 n)) res ∧ SubOut [] []) from
    ⟨trivial, (And.elim (fun h1 k1 => ⟨(fun x2 => (fun h2 => (And.elim (fun h3 k3 => ⟨(And.elim (fun h4 k4 => ⟨h4, (And.elim (fun h5 k5 => ⟨h5, ⟨k5, rfl⟩⟩) k4)⟩) h3), ⟨trivial, ⟨trivial, ⟨trivial, (Exists.elim k3 fun x7 h7 => ⟨x7, (And.elim (fun h8 k8 => ⟨⟨⟨trivial, trivial⟩, ⟨trivial, h8⟩⟩, ⟨trivial, ⟨trivial, ⟨trivial, ⟨trivial, ⟨⟨⟨trivial, ⟨Sub.refl _, ⟨trivial, ⟨Sub.refl _, ⟨trivial, ⟨Sub.refl _, trivial⟩⟩⟩⟩⟩⟩, trivial⟩, k8⟩⟩⟩⟩⟩⟩) h7)⟩)⟩⟩⟩⟩) h2)) (h1 x2)), (fun x2 => (fun h2 => ⟨trivial, ⟨trivial, ⟨trivial, ⟨⟨⟨trivial, ⟨Sub.refl _, trivial⟩⟩, trivial⟩, ⟨h2, trivial⟩⟩⟩⟩⟩) (k1 x2))⟩) h)⟩)
theorem hf17 : Go.Proofs.Try.prog.funcs[17]? = some Go.Proofs.Try.f17 := by kernel_rfl
abbrev s17_e (bytes : ByteArray) : List (Nat × AV) := [(0, (.sc (.string bytes)))]
abbrev m17_e (bytes : ByteArray) : List (Nat × Nat × AV) := []
def L17_e (bytes : ByteArray) (res : AV) : Prop := Goes ⟨Go.Proofs.Try.prog, 17, [], res, []⟩ (place Go.Proofs.Try.f17 []) (s17_e bytes) (m17_e bytes)
theorem a17_e (bytes : ByteArray) (res : AV) (h : (∀ slot, fact (look .undef (s17_e bytes) slot)) → L17_e bytes res) : L17_e bytes res :=
  assumeRule 17 [] Go.Proofs.Try.f17 hf17 [] (s17_e bytes) (m17_e bytes) res [] _ (by kernel_rfl) h
abbrev s17_0 (bytes : ByteArray) (t6 : Int) (t7 : Int) (b0f : Nat → Int) (b1f : Nat → Int) : List (Nat × AV) := [(0, (.sc (.string bytes))), (2, (.pt 1000 [] 0)), (3, (.pt 1001 [] 0)), (6, (.sc (.int .i64 t6))), (7, (.sc (.int .i64 t7)))]
abbrev m17_0 (bytes : ByteArray) (t6 : Int) (t7 : Int) (b0f : Nat → Int) (b1f : Nat → Int) : List (Nat × Nat × AV) := [(1000, 24, (.ar 4 1 (fun i0 => (.sc (.int .u64 (b0f i0)))))), (1001, 24, (.ar 4 1 (fun i0 => (.sc (.int .u64 (b1f i0))))))]
def L17_0 (bytes : ByteArray) (t6 : Int) (t7 : Int) (b0f : Nat → Int) (b1f : Nat → Int) (res : AV) : Prop := Goes ⟨Go.Proofs.Try.prog, 17, [], res, []⟩ (place Go.Proofs.Try.f17 [1, 1, 0, 1, 0, 0]) (s17_0 bytes t6 t7 b0f b1f) (m17_0 bytes t6 t7 b0f b1f)
theorem a17_0 (bytes : ByteArray) (t6 : Int) (t7 : Int) (b0f : Nat → Int) (b1f : Nat → Int) (res : AV) (h : (∀ slot, fact (look .undef (s17_0 bytes t6 t7 b0f b1f) slot)) → L17_0 bytes t6 t7 b0f b1f res) : L17_0 bytes t6 t7 b0f b1f res :=
  assumeRule 17 [] Go.Proofs.Try.f17 hf17 [1, 1, 0, 1, 0, 0] (s17_0 bytes t6 t7 b0f b1f) (m17_0 bytes t6 t7 b0f b1f) res [] _ (by kernel_rfl) h
theorem o17 (bytes : ByteArray) (res : AV) (hnew : newOnly res) (h : L17_e bytes res) : Ok Go.Proofs.Try.prog 17 [(.sc (.string bytes))] [] res [] :=
  okRule2 17 Go.Proofs.Try.f17 hf17 [(.sc (.string bytes))] [] res [] [] rfl (by kernel_rfl) (by kernel_rfl) (by kernel_rfl) ⟨hnew, by simp⟩ (L17_e bytes res) (by kernel_rfl) h
theorem r17_e (bytes : ByteArray) (res : AV)
    (h : L17_0 bytes (↑bytes.size : Int) (0 : Int) (fun (x : Nat) => (0 : Int)) (fun (x : Nat) => (0 : Int)) res) :
    L17_e bytes res :=
  rule Go.Am.Seat.tabOk 17 [] Go.Proofs.Try.f17 hf17 [] (s17_e bytes) (m17_e bytes) res [] 400
    (Orc.cut (nat_lit 9) (s17_0 bytes (↑bytes.size : Int) (0 : Int) (fun (x : Nat) => (0 : Int)) fun (x : Nat) => (0 : Int))
  (m17_0 bytes (↑bytes.size : Int) (0 : Int) (fun (x : Nat) => (0 : Int)) fun (x : Nat) => (0 : Int))
  [((1000 : Nat), some (2 : Nat)), ((1001 : Nat), some (3 : Nat))]) _ _ (by kernel_rfl) (by kernel_rfl) (show True ∧
  True ∧
    True ∧
      True ∧
        True ∧
          ((True ∧
                Sub (AV.sc (Value.string bytes)) (AV.sc (Value.string bytes)) ∧
                  True ∧
                    Sub (AV.pt (1000 : Nat) [] (0 : Nat)) (AV.pt (1000 : Nat) [] (0 : Nat)) ∧
                      True ∧
                        Sub (AV.pt (1001 : Nat) [] (0 : Nat)) (AV.pt (1001 : Nat) [] (0 : Nat)) ∧
                          True ∧
                            Sub (AV.sc (Value.int IntKind.i64 (↑bytes.size : Int))) (AV.sc (Value.int IntKind.i64 (↑bytes.size : Int))) ∧
                              True ∧ Sub (AV.sc (Value.int IntKind.i64 (0 : Int))) (AV.sc (Value.int IntKind.i64 (0 : Int))) ∧ True) ∧
              True ∧
                SubB (AV.ar (4 : Nat) (1 : Nat) fun (x : Nat) => AV.sc (Value.int IntKind.u64 (0 : Int)))
                    (AV.ar (4 : Nat) (1 : Nat) fun (i0 : Nat) => AV.sc (Value.int IntKind.u64 (0 : Int))) ∧
                  True ∧
                    SubB (AV.ar (4 : Nat) (1 : Nat) fun (x : Nat) => AV.sc (Value.int IntKind.u64 (0 : Int)))
                        (AV.ar (4 : Nat) (1 : Nat) fun (i0 : Nat) => AV.sc (Value.int IntKind.u64 (0 : Int))) ∧
                      True) ∧
            L17_0 bytes (↑bytes.size : Int) (0 : Int) (fun (x : Nat) => (0 : Int)) (fun (x : Nat) => (0 : Int)) res from
    ⟨trivial, ⟨trivial, ⟨trivial, ⟨trivial, ⟨trivial, ⟨⟨⟨trivial, ⟨Sub.refl _, ⟨trivial, ⟨Sub.refl _, ⟨trivial, ⟨Sub.refl _, ⟨trivial, ⟨Sub.refl _, ⟨trivial, ⟨Sub.refl _, trivial⟩⟩⟩⟩⟩⟩⟩⟩⟩⟩, ⟨trivial, ⟨SubB.refl _, ⟨trivial, ⟨SubB.refl _, trivial⟩⟩⟩⟩⟩, h⟩⟩⟩⟩⟩⟩)
theorem r17_0 (bytes : ByteArray) (t6 : Int) (t7 : Int) (b0f : Nat → Int) (b1f : Nat → Int) (res : AV)
    (h : (decide (t7 < t6) = true →
    ((0 : Int) ≤ t7 ∧ t7 < (↑bytes.size : Int)) ∧
      ∃ (r : Nat → Int),
        Ok Proofs.Try.prog (30 : Nat)
            [AV.ar (4 : Nat) (1 : Nat) fun (i : Nat) => AV.sc (Value.int IntKind.u64 (b1f i)),
              AV.sc (Value.int IntKind.u8 (↑(byteAt bytes t7.toNat).toNat : Int))]
            [] (AV.ar (4 : Nat) (1 : Nat) fun (i0 : Nat) => AV.sc (Value.int IntKind.u64 (r i0))) [] ∧
          L17_0 bytes t6 (IntKind.i64.wrap (t7 + (1 : Int))) b0f r res) ∧
  (decide (t7 < t6) = false → Sub (AV.ar (4 : Nat) (1 : Nat) fun (i0 : Nat) => AV.sc (Value.int IntKind.u64 (b1f i0))) res)) :
    L17_0 bytes t6 t7 b0f b1f res :=
  rule Go.Am.Seat.tabOk 17 [] Go.Proofs.Try.f17 hf17 [1, 1, 0, 1, 0, 0] (s17_0 bytes t6 t7 b0f b1f) (m17_0 bytes t6 t7 b0f b1f) res [] 400
    ((Orc.call [] [] (fun (r30 : Nat → Int) => AV.ar (4 : Nat) (1 : Nat) fun (i0 : Nat) => AV.sc (Value.int IntKind.u64 (r30 i0))) (fun (r30 : Nat → Int) => [])
      fun (r30 : Nat → Int) =>
      Orc.cut (nat_lit 3) (s17_0 bytes t6 (IntKind.i64.wrap (t7 + (1 : Int))) b0f r30) (m17_0 bytes t6 (IntKind.i64.wrap (t7 + (1 : Int))) b0f r30)
        [((1000 : Nat), some (1000 : Nat)), ((1001 : Nat), some (1001 : Nat))]).br
  (Orc.fin (AV.ar (4 : Nat) (1 : Nat) fun (i0 : Nat) => AV.sc (Value.int IntKind.u64 (b1f i0))) [] [])) _ _ (by kernel_rfl) (by kernel_rfl) (show True ∧
  (decide (t7 < t6) = true →
      True ∧
        True ∧
          ((0 : Nat) = (0 : Nat) ∧ True) ∧
            True ∧
              True ∧
                ((0 : Int) ≤ t7 ∧ t7 < (↑bytes.size : Int)) ∧
                  ∃ (r : Nat → Int),
                    ((True ∧ True ∧ True) ∧
                        True ∧
                          Ok Proofs.Try.prog (30 : Nat)
                            [AV.ar (4 : Nat) (1 : Nat) fun (i : Nat) => AV.sc (Value.int IntKind.u64 (b1f i)),
                              AV.sc (Value.int IntKind.u8 (↑(byteAt bytes t7.toNat).toNat : Int))]
                            [] (AV.ar (4 : Nat) (1 : Nat) fun (i0 : Nat) => AV.sc (Value.int IntKind.u64 (r i0))) []) ∧
                      ((0 : Nat) = (0 : Nat) ∧ True) ∧
                        True ∧
                          True ∧
                            ((True ∧
                                  Sub (AV.sc (Value.string bytes)) (AV.sc (Value.string bytes)) ∧
                                    True ∧
                                      Sub (AV.pt (1000 : Nat) [] (0 : Nat)) (AV.pt (1000 : Nat) [] (0 : Nat)) ∧
                                        True ∧
                                          Sub (AV.pt (1001 : Nat) [] (0 : Nat)) (AV.pt (1001 : Nat) [] (0 : Nat)) ∧
                                            True ∧
                                              Sub (AV.sc (Value.int IntKind.i64 t6)) (AV.sc (Value.int IntKind.i64 t6)) ∧
                                                True ∧
                                                  Sub (AV.sc (Value.int IntKind.i64 (IntKind.i64.wrap (t7 + (1 : Int)))))
                                                      (AV.sc (Value.int IntKind.i64 (IntKind.i64.wrap (t7 + (1 : Int))))) ∧
                                                    True) ∧
                                True ∧
                                  SubB (AV.ar (4 : Nat) (1 : Nat) fun (i0 : Nat) => AV.sc (Value.int IntKind.u64 (b0f i0)))
                                      (AV.ar (4 : Nat) (1 : Nat) fun (i0 : Nat) => AV.sc (Value.int IntKind.u64 (b0f i0))) ∧
                                    True ∧
                                      SubB (AV.ar (4 : Nat) (1 : Nat) fun (i0 : Nat) => AV.sc (Value.int IntKind.u64 (r i0)))
                                          (AV.ar (4 : Nat) (1 : Nat) fun (i0 : Nat) => AV.sc (Value.int IntKind.u64 (r i0))) ∧
                                        True) ∧
                              L17_0 bytes t6 (IntKind.i64.wrap (t7 + (1 : Int))) b0f r res) ∧
    (decide (t7 < t6) = false →
      ((0 : Nat) = (0 : Nat) ∧ True) ∧
        ((0 : Nat) = (0 : Nat) ∧ True) ∧
          ((0 : Nat) = (0 : Nat) ∧ True) ∧
            ((True ∧
                  Sub (AV.ar (4 : Nat) (1 : Nat) fun (i0 : Nat) => AV.sc (Value.int IntKind.u64 (b1f i0)))
                      (AV.ar (4 : Nat) (1 : Nat) fun (i0 : Nat) => AV.sc (Value.int IntKind.u64 (b1f i0))) ∧
                    True) ∧
                True) ∧
              Sub (AV.ar (4 : Nat) (1 : Nat) fun (i0 : Nat) => AV.sc (Value.int IntKind.u64 (b1f i0))) res ∧ SubOut [] []) from
    ⟨trivial, (And.elim (fun h1 k1 => ⟨(fun x2 => (fun h2 => ⟨trivial, ⟨trivial, ⟨⟨rfl, trivial⟩, ⟨trivial, ⟨trivial, (And.elim (fun h8 k8 => ⟨(And.elim (fun h9 k9 => ⟨h9, k9⟩) h8), (Exists.elim k8 fun x9 h9 => ⟨x9, (And.elim (fun h10 k10 => ⟨⟨⟨trivial, ⟨trivial, trivial⟩⟩, ⟨trivial, h10⟩⟩, ⟨⟨rfl, trivial⟩, ⟨trivial, ⟨trivial, ⟨⟨⟨trivial, ⟨Sub.refl _, ⟨trivial, ⟨Sub.refl _, ⟨trivial, ⟨Sub.refl _, ⟨trivial, ⟨Sub.refl _, ⟨trivial, ⟨Sub.refl _, trivial⟩⟩⟩⟩⟩⟩⟩⟩⟩⟩, ⟨trivial, ⟨SubB.refl _, ⟨trivial, ⟨SubB.refl _, trivial⟩⟩⟩⟩⟩, k10⟩⟩⟩⟩⟩) h9)⟩)⟩) h2)⟩⟩⟩⟩⟩) (h1 x2)), (fun x2 => (fun h2 => ⟨⟨rfl, trivial⟩, ⟨⟨rfl, trivial⟩, ⟨⟨rfl, trivial⟩, ⟨⟨⟨trivial, ⟨Sub.refl _, trivial⟩⟩, trivial⟩, ⟨h2, trivial⟩⟩⟩⟩⟩) (k1 x2))⟩) h)⟩)
theorem hf18 : Go.Proofs.Try.prog.funcs[18]? = some Go.Proofs.Try.f18 := by kernel_rfl
abbrev s18_e (sf : Nat → Int) : List (Nat × AV) := [(0, (.ar 4 1 (fun i0 => (.sc (.int .u64 (sf i0))))))]
abbrev m18_e (sf : Nat → Int) : List (Nat × Nat × AV) := []
def L18_e (sf : Nat → Int) (res : AV) : Prop := Goes ⟨Go.Proofs.Try.prog, 18, [], res, []⟩ (place Go.Proofs.Try.f18 []) (s18_e sf) (m18_e sf)
theorem a18_e (sf : Nat → Int) (res : AV) (h : (∀ slot, fact (look .undef (s18_e sf) slot)) → L18_e sf res) : L18_e sf res :=
  assumeRule 18 [] Go.Proofs.Try.f18 hf18 [] (s18_e sf) (m18_e sf) res [] _ (by kernel_rfl) h
abbrev s18_0 (b : Int) (b0f : Nat → Int) (b1f : Nat → Bool) (b2f : Nat → Bool) : List (Nat × AV) := [(1, (.pt 1000 [] 0)), (2, (.pt 1001 [] 0)), (3, (.pt 1002 [] 0)), (4, (.sc (.int .i64 b)))]
abbrev m18_0 (b : Int) (b0f : Nat → Int) (b1f : Nat → Bool) (b2f : Nat → Bool) : List (Nat × Nat × AV) := [(1000, 24, (.ar 4 1 (fun i0 => (.sc (.int .u64 (b0f i0)))))), (1001, 38, (.ar 256 1 (fun i0 => (.sc (.bool (b1f i0)))))), (1002, 38, (.ar 256 1 (fun i0 => (.sc (.bool (b2f i0))))))]
def L18_0 (b : Int) (b0f : Nat → Int) (b1f : Nat → Bool) (b2f : Nat → Bool) (res : AV) : Prop := Goes ⟨Go.Proofs.Try.prog, 18, [], res, []⟩ (place Go.Proofs.Try.f18 [1, 1, 0, 1, 0, 0]) (s18_0 b b0f b1f b2f) (m18_0 b b0f b1f b2f)
theorem a18_0 (b : Int) (b0f : Nat → Int) (b1f : Nat → Bool) (b2f : Nat → Bool) (res : AV) (h : (∀ slot, fact (look .undef (s18_0 b b0f b1f b2f) slot)) → L18_0 b b0f b1f b2f res) : L18_0 b b0f b1f b2f res :=
  assumeRule 18 [] Go.Proofs.Try.f18 hf18 [1, 1, 0, 1, 0, 0] (s18_0 b b0f b1f b2f) (m18_0 b b0f b1f b2f) res [] _ (by kernel_rfl) h
abbrev s18_1 (b : Int) (w : Int) (i : Int) (b0f : Nat → Int) (b1f : Nat → Bool) (b2f : Nat → Bool) : List (Nat × AV) := [(1, (.pt 1000 [] 0)), (2, (.pt 1001 [] 0)), (3, (.pt 1002 [] 0)), (4, (.sc (.int .i64 b))), (5, (.sc (.int .u64 w))), (6, (.sc (.int .i64 i)))]
abbrev m18_1 (b : Int) (w : Int) (i : Int) (b0f : Nat → Int) (b1f : Nat → Bool) (b2f : Nat → Bool) : List (Nat × Nat × AV) := [(1000, 24, (.ar 4 1 (fun i0 => (.sc (.int .u64 (b0f i0)))))), (1001, 38, (.ar 256 1 (fun i0 => (.sc (.bool (b1f i0)))))), (1002, 38, (.ar 256 1 (fun i0 => (.sc (.bool (b2f i0))))))]
def L18_1 (b : Int) (w : Int) (i : Int) (b0f : Nat → Int) (b1f : Nat → Bool) (b2f : Nat → Bool) (res : AV) : Prop := Goes ⟨Go.Proofs.Try.prog, 18, [], res, []⟩ (place Go.Proofs.Try.f18 [1, 1, 0, 1, 0, 0, 1, 0, 0, 1, 0, 1, 0, 0]) (s18_1 b w i b0f b1f b2f) (m18_1 b w i b0f b1f b2f)
theorem a18_1 (b : Int) (w : Int) (i : Int) (b0f : Nat → Int) (b1f : Nat → Bool) (b2f : Nat → Bool) (res : AV) (h : (∀ slot, fact (look .undef (s18_1 b w i b0f b1f b2f) slot)) → L18_1 b w i b0f b1f b2f res) : L18_1 b w i b0f b1f b2f res :=
  assumeRule 18 [] Go.Proofs.Try.f18 hf18 [1, 1, 0, 1, 0, 0, 1, 0, 0, 1, 0, 1, 0, 0] (s18_1 b w i b0f b1f b2f) (m18_1 b w i b0f b1f b2f) res [] _ (by kernel_rfl) h
theorem o18 (sf : Nat → Int) (res : AV) (hnew : newOnly res) (h : L18_e sf res) : Ok Go.Proofs.Try.prog 18 [(.ar 4 1 (fun i0 => (.sc (.int .u64 (sf i0)))))] [] res [] :=
  okRule2 18 Go.Proofs.Try.f18 hf18 [(.ar 4 1 (fun i0 => (.sc (.int .u64 (sf i0)))))] [] res [] [] rfl (by kernel_rfl) (by kernel_rfl) (by kernel_rfl) ⟨hnew, by simp⟩ (L18_e sf res) (by kernel_rfl) h
theorem r18_e (sf : Nat → Int) (res : AV)
    (h : L18_0 (0 : Int) sf (fun (x : Nat) => false) (fun (x : Nat) => false) res) :
    L18_e sf res :=
  rule Go.Am.Seat.tabOk 18 [] Go.Proofs.Try.f18 hf18 [] (s18_e sf) (m18_e sf) res [] 400
    (Orc.cut (nat_lit 9) (s18_0 (0 : Int) sf (fun (x : Nat) => false) fun (x : Nat) => false) (m18_0 (0 : Int) sf (fun (x : Nat) => false) fun (x : Nat) => false)
  [((1000 : Nat), some (1 : Nat)), ((1001 : Nat), some (2 : Nat)), ((1002 : Nat), some (3 : Nat))]) _ _ (by kernel_rfl) (by kernel_rfl) (show True ∧
  True ∧
    True ∧
      True ∧
        ((True ∧
              Sub (AV.pt (1000 : Nat) [] (0 : Nat)) (AV.pt (1000 : Nat) [] (0 : Nat)) ∧
                True ∧
                  Sub (AV.pt (1001 : Nat) [] (0 : Nat)) (AV.pt (1001 : Nat) [] (0 : Nat)) ∧
                    True ∧
                      Sub (AV.pt (1002 : Nat) [] (0 : Nat)) (AV.pt (1002 : Nat) [] (0 : Nat)) ∧
                        True ∧ Sub (AV.sc (Value.int IntKind.i64 (0 : Int))) (AV.sc (Value.int IntKind.i64 (0 : Int))) ∧ True) ∧
            True ∧
              SubB (AV.ar (4 : Nat) (1 : Nat) fun (i0 : Nat) => AV.sc (Value.int IntKind.u64 (sf i0)))
                  (AV.ar (4 : Nat) (1 : Nat) fun (i0 : Nat) => AV.sc (Value.int IntKind.u64 (sf i0))) ∧
                True ∧
                  SubB (AV.ar (256 : Nat) (1 : Nat) fun (x : Nat) => AV.sc (Value.bool false))
                      (AV.ar (256 : Nat) (1 : Nat) fun (i0 : Nat) => AV.sc (Value.bool false)) ∧
                    True ∧
                      SubB (AV.ar (256 : Nat) (1 : Nat) fun (x : Nat) => AV.sc (Value.bool false))
                          (AV.ar (256 : Nat) (1 : Nat) fun (i0 : Nat) => AV.sc (Value.bool false)) ∧
                        True) ∧
          L18_0 (0 : Int) sf (fun (x : Nat) => false) (fun (x : Nat) => false) res from
    ⟨trivial, ⟨trivial, ⟨trivial, ⟨trivial, ⟨⟨⟨trivial, ⟨Sub.refl _, ⟨trivial, ⟨Sub.refl _, ⟨trivial, ⟨Sub.refl _, ⟨trivial, ⟨Sub.refl _, trivial⟩⟩⟩⟩⟩⟩⟩⟩, ⟨trivial, ⟨SubB.refl _, ⟨trivial, ⟨SubB.refl _, ⟨trivial, ⟨SubB.refl _, trivial⟩⟩⟩⟩⟩⟩⟩, h⟩⟩⟩⟩⟩)
theorem r18_0 (b : Int) (b0f : Nat → Int) (b1f : Nat → Bool) (b2f : Nat → Bool) (res : AV)
    (h : (decide (b < (256 : Int)) = true →
    ((0 : Int) ≤ IntKind.i64.wrap (b.tdiv (64 : Int)) ∧ IntKind.i64.wrap (b.tdiv (64 : Int)) < (↑(4 : Nat) : Int)) ∧
      (IntKind.i64.wrap (b.tdiv (64 : Int))).toNat < (4 : Nat) ∧ L18_1 b (b0f (IntKind.i64.wrap (b.tdiv (64 : Int))).toNat) (0 : Int) b0f b1f b2f res) ∧
  (decide (b < (256 : Int)) = false → Sub (AV.ar (256 : Nat) (1 : Nat) fun (i0 : Nat) => AV.sc (Value.bool (b2f i0))) res)) :
    L18_0 b b0f b1f b2f res :=
  rule Go.Am.Seat.tabOk 18 [] Go.Proofs.Try.f18 hf18 [1, 1, 0, 1, 0, 0] (s18_0 b b0f b1f b2f) (m18_0 b b0f b1f b2f) res [] 400
    ((Orc.cut (nat_lit 10) (s18_1 b (b0f (IntKind.i64.wrap (b.tdiv (64 : Int))).toNat) (0 : Int) b0f b1f b2f)
      (m18_1 b (b0f (IntKind.i64.wrap (b.tdiv (64 : Int))).toNat) (0 : Int) b0f b1f b2f)
      [((1000 : Nat), some (1000 : Nat)), ((1001 : Nat), some (1001 : Nat)), ((1002 : Nat), some (1002 : Nat))]).br
  (Orc.fin (AV.ar (256 : Nat) (1 : Nat) fun (i0 : Nat) => AV.sc (Value.bool (b2f i0))) [] [])) _ _ (by kernel_rfl) (by kernel_rfl) (show True ∧
  True ∧
    (decide (b < (256 : Int)) = true →
        True ∧
          (64 : Int) ≠ (0 : Int) ∧
            ((0 : Int) ≤ IntKind.i64.wrap (b.tdiv (64 : Int)) ∧ IntKind.i64.wrap (b.tdiv (64 : Int)) < (↑(4 : Nat) : Int)) ∧
              ((IntKind.i64.wrap (b.tdiv (64 : Int))).toNat * (1 : Nat) + (0 : Nat) =
                    plus (0 : Nat) ((IntKind.i64.wrap (b.tdiv (64 : Int))).toNat * (1 : Nat)) ∧
                  (IntKind.i64.wrap (b.tdiv (64 : Int))).toNat < (4 : Nat) ∧ True) ∧
                True ∧
                  True ∧
                    ((True ∧
                          Sub (AV.pt (1000 : Nat) [] (0 : Nat)) (AV.pt (1000 : Nat) [] (0 : Nat)) ∧
                            True ∧
                              Sub (AV.pt (1001 : Nat) [] (0 : Nat)) (AV.pt (1001 : Nat) [] (0 : Nat)) ∧
                                True ∧
                                  Sub (AV.pt (1002 : Nat) [] (0 : Nat)) (AV.pt (1002 : Nat) [] (0 : Nat)) ∧
                                    True ∧
                                      Sub (AV.sc (Value.int IntKind.i64 b)) (AV.sc (Value.int IntKind.i64 b)) ∧
                                        True ∧
                                          Sub (AV.sc (Value.int IntKind.u64 (b0f (IntKind.i64.wrap (b.tdiv (64 : Int))).toNat)))
                                              (AV.sc (Value.int IntKind.u64 (b0f (IntKind.i64.wrap (b.tdiv (64 : Int))).toNat))) ∧
                                            True ∧ Sub (AV.sc (Value.int IntKind.i64 (0 : Int))) (AV.sc (Value.int IntKind.i64 (0 : Int))) ∧ True) ∧
                        True ∧
                          SubB (AV.ar (4 : Nat) (1 : Nat) fun (i0 : Nat) => AV.sc (Value.int IntKind.u64 (b0f i0)))
                              (AV.ar (4 : Nat) (1 : Nat) fun (i0 : Nat) => AV.sc (Value.int IntKind.u64 (b0f i0))) ∧
                            True ∧
                              SubB (AV.ar (256 : Nat) (1 : Nat) fun (i0 : Nat) => AV.sc (Value.bool (b1f i0)))
                                  (AV.ar (256 : Nat) (1 : Nat) fun (i0 : Nat) => AV.sc (Value.bool (b1f i0))) ∧
                                True ∧
                                  SubB (AV.ar (256 : Nat) (1 : Nat) fun (i0 : Nat) => AV.sc (Value.bool (b2f i0)))
                                      (AV.ar (256 : Nat) (1 : Nat) fun (i0 : Nat) => AV.sc (Value.bool (b2f i0))) ∧
                                    True) ∧
                      L18_1 b (b0f (IntKind.i64.wrap (b.tdiv (64 : Int))).toNat) (0 : Int) b0f b1f b2f res) ∧
      (decide (b < (256 : Int)) = false →
        ((0 : Nat) = (0 : Nat) ∧ True) ∧
          ((0 : Nat) = (0 : Nat) ∧ True) ∧
            ((0 : Nat) = (0 : Nat) ∧ True) ∧
              ((True ∧
                    Sub (AV.ar (256 : Nat) (1 : Nat) fun (i0 : Nat) => AV.sc (Value.bool (b2f i0)))
                        (AV.ar (256 : Nat) (1 : Nat) fun (i0 : Nat) => AV.sc (Value.bool (b2f i0))) ∧
                      True) ∧
                  True) ∧
                Sub (AV.ar (256 : Nat) (1 : Nat) fun (i0 : Nat) => AV.sc (Value.bool (b2f i0))) res ∧ SubOut [] []) from
    ⟨trivial, ⟨trivial, (And.elim (fun h2 k2 => ⟨(fun x3 => (fun h3 => ⟨trivial, ⟨(by decide), (And.elim (fun h6 k6 => ⟨(And.elim (fun h7 k7 => ⟨h7, k7⟩) h6), (And.elim (fun h7 k7 => ⟨⟨rfl, ⟨h7, trivial⟩⟩, ⟨trivial, ⟨trivial, ⟨⟨⟨trivial, ⟨Sub.refl _, ⟨trivial, ⟨Sub.refl _, ⟨trivial, ⟨Sub.refl _, ⟨trivial, ⟨Sub.refl _, ⟨trivial, ⟨Sub.refl _, ⟨trivial, ⟨Sub.refl _, trivial⟩⟩⟩⟩⟩⟩⟩⟩⟩⟩⟩⟩, ⟨trivial, ⟨SubB.refl _, ⟨trivial, ⟨SubB.refl _, ⟨trivial, ⟨SubB.refl _, trivial⟩⟩⟩⟩⟩⟩⟩, k7⟩⟩⟩⟩) k6)⟩) h3)⟩⟩) (h2 x3)), (fun x3 => (fun h3 => ⟨⟨rfl, trivial⟩, ⟨⟨rfl, trivial⟩, ⟨⟨rfl, trivial⟩, ⟨⟨⟨trivial, ⟨Sub.refl _, trivial⟩⟩, trivial⟩, ⟨h3, trivial⟩⟩⟩⟩⟩) (k2 x3))⟩) h)⟩⟩)
theorem r18_1 (b : Int) (w : Int) (i : Int) (b0f : Nat → Int) (b1f : Nat → Bool) (b2f : Nat → Bool) (res : AV)
    (h : (decide (i < b.tmod (64 : Int)) = true → L18_1 b (IntKind.u64.wrap (w.tdiv (2 : Int))) (IntKind.i64.wrap (i + (1 : Int))) b0f b1f b2f res) ∧
  (decide (i < b.tmod (64 : Int)) = false →
    ((0 : Int) ≤ b ∧ b < (↑(256 : Nat) : Int)) ∧
      b.toNat < (256 : Nat) ∧
        L18_0 (IntKind.i64.wrap (b + (1 : Int))) b0f b1f (fun (i : Nat) => bif i.beq b.toNat then w.tmod (2 : Int) == (1 : Int) else b2f i) res)) :
    L18_1 b w i b0f b1f b2f res :=
  rule Go.Am.Seat.tabOk 18 [] Go.Proofs.Try.f18 hf18 [1, 1, 0, 1, 0, 0, 1, 0, 0, 1, 0, 1, 0, 0] (s18_1 b w i b0f b1f b2f) (m18_1 b w i b0f b1f b2f) res [] 400
    ((Orc.cut (nat_lit 7) (s18_1 b (IntKind.u64.wrap (w.tdiv (2 : Int))) (IntKind.i64.wrap (i + (1 : Int))) b0f b1f b2f)
      (m18_1 b (IntKind.u64.wrap (w.tdiv (2 : Int))) (IntKind.i64.wrap (i + (1 : Int))) b0f b1f b2f)
      [((1000 : Nat), some (1000 : Nat)), ((1001 : Nat), some (1001 : Nat)), ((1002 : Nat), some (1002 : Nat))]).br
  (Orc.cut (nat_lit 5) (s18_0 (IntKind.i64.wrap (b + (1 : Int))) b0f b1f fun (i : Nat) => bif i.beq b.toNat then w.tmod (2 : Int) == (1 : Int) else b2f i)
    (m18_0 (IntKind.i64.wrap (b + (1 : Int))) b0f b1f fun (i : Nat) => bif i.beq b.toNat then w.tmod (2 : Int) == (1 : Int) else b2f i)
    [((1000 : Nat), some (1000 : Nat)), ((1001 : Nat), some (1001 : Nat)), ((1002 : Nat), some (1002 : Nat))])) _ _ (by kernel_rfl) (by kernel_rfl) (show True ∧
  True ∧
    (64 : Int) ≠ (0 : Int) ∧
      True ∧
        (decide (i < b.tmod (64 : Int)) = true →
            True ∧
              (2 : Int) ≠ (0 : Int) ∧
                True ∧
                  True ∧
                    True ∧
                      True ∧
                        ((True ∧
                              Sub (AV.pt (1000 : Nat) [] (0 : Nat)) (AV.pt (1000 : Nat) [] (0 : Nat)) ∧
                                True ∧
                                  Sub (AV.pt (1001 : Nat) [] (0 : Nat)) (AV.pt (1001 : Nat) [] (0 : Nat)) ∧
                                    True ∧
                                      Sub (AV.pt (1002 : Nat) [] (0 : Nat)) (AV.pt (1002 : Nat) [] (0 : Nat)) ∧
                                        True ∧
                                          Sub (AV.sc (Value.int IntKind.i64 b)) (AV.sc (Value.int IntKind.i64 b)) ∧
                                            True ∧
                                              Sub (AV.sc (Value.int IntKind.u64 (IntKind.u64.wrap (w.tdiv (2 : Int)))))
                                                  (AV.sc (Value.int IntKind.u64 (IntKind.u64.wrap (w.tdiv (2 : Int))))) ∧
                                                True ∧
                                                  Sub (AV.sc (Value.int IntKind.i64 (IntKind.i64.wrap (i + (1 : Int)))))
                                                      (AV.sc (Value.int IntKind.i64 (IntKind.i64.wrap (i + (1 : Int))))) ∧
                                                    True) ∧
                            True ∧
                              SubB (AV.ar (4 : Nat) (1 : Nat) fun (i0 : Nat) => AV.sc (Value.int IntKind.u64 (b0f i0)))
                                  (AV.ar (4 : Nat) (1 : Nat) fun (i0 : Nat) => AV.sc (Value.int IntKind.u64 (b0f i0))) ∧
                                True ∧
                                  SubB (AV.ar (256 : Nat) (1 : Nat) fun (i0 : Nat) => AV.sc (Value.bool (b1f i0)))
                                      (AV.ar (256 : Nat) (1 : Nat) fun (i0 : Nat) => AV.sc (Value.bool (b1f i0))) ∧
                                    True ∧
                                      SubB (AV.ar (256 : Nat) (1 : Nat) fun (i0 : Nat) => AV.sc (Value.bool (b2f i0)))
                                          (AV.ar (256 : Nat) (1 : Nat) fun (i0 : Nat) => AV.sc (Value.bool (b2f i0))) ∧
                                        True) ∧
                          L18_1 b (IntKind.u64.wrap (w.tdiv (2 : Int))) (IntKind.i64.wrap (i + (1 : Int))) b0f b1f b2f res) ∧
          (decide (i < b.tmod (64 : Int)) = false →
            True ∧
              True ∧
                (2 : Int) ≠ (0 : Int) ∧
                  True ∧
                    ((0 : Int) ≤ b ∧ b < (↑(256 : Nat) : Int)) ∧
                      (b.toNat * (1 : Nat) + (0 : Nat) = plus (0 : Nat) (b.toNat * (1 : Nat)) ∧ (b.toNat < (256 : Nat) ∧ True) ∧ True) ∧
                        True ∧
                          True ∧
                            True ∧
                              ((True ∧
                                    Sub (AV.pt (1000 : Nat) [] (0 : Nat)) (AV.pt (1000 : Nat) [] (0 : Nat)) ∧
                                      True ∧
                                        Sub (AV.pt (1001 : Nat) [] (0 : Nat)) (AV.pt (1001 : Nat) [] (0 : Nat)) ∧
                                          True ∧
                                            Sub (AV.pt (1002 : Nat) [] (0 : Nat)) (AV.pt (1002 : Nat) [] (0 : Nat)) ∧
                                              True ∧
                                                Sub (AV.sc (Value.int IntKind.i64 (IntKind.i64.wrap (b + (1 : Int)))))
                                                    (AV.sc (Value.int IntKind.i64 (IntKind.i64.wrap (b + (1 : Int))))) ∧
                                                  True) ∧
                                  True ∧
                                    SubB (AV.ar (4 : Nat) (1 : Nat) fun (i0 : Nat) => AV.sc (Value.int IntKind.u64 (b0f i0)))
                                        (AV.ar (4 : Nat) (1 : Nat) fun (i0 : Nat) => AV.sc (Value.int IntKind.u64 (b0f i0))) ∧
                                      True ∧
                                        SubB (AV.ar (256 : Nat) (1 : Nat) fun (i0 : Nat) => AV.sc (Value.bool (b1f i0)))
                                            (AV.ar (256 : Nat) (1 : Nat) fun (i0 : Nat) => AV.sc (Value.bool (b1f i0))) ∧
                                          True ∧
                                            SubB
                                                (AV.ar (256 : Nat) (1 : Nat) fun (i : Nat) =>
                                                  AV.sc (Value.bool (bif i.beq b.toNat then w.tmod (2 : Int) == (1 : Int) else b2f i)))
                                                (AV.ar (256 : Nat) (1 : Nat) fun (i0 : Nat) =>
                                                  AV.sc (Value.bool (bif i0.beq b.toNat then w.tmod (2 : Int) == (1 : Int) else b2f i0))) ∧
                                              True) ∧
                                L18_0 (IntKind.i64.wrap (b + (1 : Int))) b0f b1f
                                  (fun (i : Nat) => bif i.beq b.toNat then w.tmod (2 : Int) == (1 : Int) else b2f i) res) from
    ⟨trivial, ⟨trivial, ⟨(by decide), ⟨trivial, (And.elim (fun h4 k4 => ⟨(fun x5 => (fun h5 => ⟨trivial, ⟨(by decide), ⟨trivial, ⟨trivial, ⟨trivial, ⟨trivial, ⟨⟨⟨trivial, ⟨Sub.refl _, ⟨trivial, ⟨Sub.refl _, ⟨trivial, ⟨Sub.refl _, ⟨trivial, ⟨Sub.refl _, ⟨trivial, ⟨Sub.refl _, ⟨trivial, ⟨Sub.refl _, trivial⟩⟩⟩⟩⟩⟩⟩⟩⟩⟩⟩⟩, ⟨trivial, ⟨SubB.refl _, ⟨trivial, ⟨SubB.refl _, ⟨trivial, ⟨SubB.refl _, trivial⟩⟩⟩⟩⟩⟩⟩, h5⟩⟩⟩⟩⟩⟩⟩) (h4 x5)), (fun x5 => (fun h5 => ⟨trivial, ⟨trivial, ⟨(by decide), ⟨trivial, (And.elim (fun h10 k10 => ⟨(And.elim (fun h11 k11 => ⟨h11, k11⟩) h10), (And.elim (fun h11 k11 => ⟨⟨rfl, ⟨⟨h11, trivial⟩, trivial⟩⟩, ⟨trivial, ⟨trivial, ⟨trivial, ⟨⟨⟨trivial, ⟨Sub.refl _, ⟨trivial, ⟨Sub.refl _, ⟨trivial, ⟨Sub.refl _, ⟨trivial, ⟨Sub.refl _, trivial⟩⟩⟩⟩⟩⟩⟩⟩, ⟨trivial, ⟨SubB.refl _, ⟨trivial, ⟨SubB.refl _, ⟨trivial, ⟨SubB.refl _, trivial⟩⟩⟩⟩⟩⟩⟩, k11⟩⟩⟩⟩⟩) k10)⟩) h5)⟩⟩⟩⟩) (k4 x5))⟩) h)⟩⟩⟩⟩)
theorem hf19 : Go.Proofs.Try.prog.funcs[19]? = some Go.Proofs.Try.f19 := by kernel_rfl
abbrev s19_e (ff : Nat → Bool) : List (Nat × AV) := [(0, (.ar 256 1 (fun i0 => (.sc (.bool (ff i0))))))]
abbrev m19_e (ff : Nat → Bool) : List (Nat × Nat × AV) := []
def L19_e (ff : Nat → Bool) (res : AV) : Prop := Goes ⟨Go.Proofs.Try.prog, 19, [], res, []⟩ (place Go.Proofs.Try.f19 []) (s19_e ff) (m19_e ff)
theorem a19_e (ff : Nat → Bool) (res : AV) (h : (∀ slot, fact (look .undef (s19_e ff) slot)) → L19_e ff res) : L19_e ff res :=
  assumeRule 19 [] Go.Proofs.Try.f19 hf19 [] (s19_e ff) (m19_e ff) res [] _ (by kernel_rfl) h
abbrev s19_0 (n : Int) (b : Int) (b0f : Nat → Bool) : List (Nat × AV) := [(1, (.pt 1000 [] 0)), (3, (.sc (.int .i64 n))), (4, (.sc (.int .i64 b)))]
abbrev m19_0 (n : Int) (b : Int) (b0f : Nat → Bool) : List (Nat × Nat × AV) := [(1000, 38, (.ar 256 1 (fun i0 => (.sc (.bool (b0f i0))))))]
def L19_0 (n : Int) (b : Int) (b0f : Nat → Bool) (res : AV) : Prop := Goes ⟨Go.Proofs.Try.prog, 19, [], res, []⟩ (place Go.Proofs.Try.f19 [1, 1, 0, 1, 0, 0]) (s19_0 n b b0f) (m19_0 n b b0f)
theorem a19_0 (n : Int) (b : Int) (b0f : Nat → Bool) (res : AV) (h : (∀ slot, fact (look .undef (s19_0 n b b0f) slot)) → L19_0 n b b0f res) : L19_0 n b b0f res :=
  assumeRule 19 [] Go.Proofs.Try.f19 hf19 [1, 1, 0, 1, 0, 0] (s19_0 n b b0f) (m19_0 n b b0f) res [] _ (by kernel_rfl) h
abbrev s19_1 (n : Int) (b : Int) (b0f : Nat → Bool) : List (Nat × AV) := [(1, (.pt 1000 [] 0)), (3, (.sc (.int .i64 n))), (4, (.sc (.int .i64 b)))]
abbrev m19_1 (n : Int) (b : Int) (b0f : Nat → Bool) : List (Nat × Nat × AV) := [(1000, 38, (.ar 256 1 (fun i0 => (.sc (.bool (b0f i0))))))]
def L19_1 (n : Int) (b : Int) (b0f : Nat → Bool) (res : AV) : Prop := Goes ⟨Go.Proofs.Try.prog, 19, [], res, []⟩ (place Go.Proofs.Try.f19 [1, 1, 0, 1, 0, 0, 1, 1]) (s19_1 n b b0f) (m19_1 n b b0f)
theorem a19_1 (n : Int) (b : Int) (b0f : Nat → Bool) (res : AV) (h : (∀ slot, fact (look .undef (s19_1 n b b0f) slot)) → L19_1 n b b0f res) : L19_1 n b b0f res :=
  assumeRule 19 [] Go.Proofs.Try.f19 hf19 [1, 1, 0, 1, 0, 0, 1, 1] (s19_1 n b b0f) (m19_1 n b b0f) res [] _ (by kernel_rfl) h
theorem o19 (ff : Nat → Bool) (res : AV) (hnew : newOnly res) (h : L19_e ff res) : Ok Go.Proofs.Try.prog 19 [(.ar 256 1 (fun i0 => (.sc (.bool (ff i0)))))] [] res [] :=
  okRule2 19 Go.Proofs.Try.f19 hf19 [(.ar 256 1 (fun i0 => (.sc (.bool (ff i0)))))] [] res [] [] rfl (by kernel_rfl) (by kernel_rfl) (by kernel_rfl) ⟨hnew, by simp⟩ (L19_e ff res) (by kernel_rfl) h
theorem r19_e (ff : Nat → Bool) (res : AV)
    (h : L19_0 (0 : Int) (0 : Int) ff res) :
    L19_e ff res :=
  rule Go.Am.Seat.tabOk 19 [] Go.Proofs.Try.f19 hf19 [] (s19_e ff) (m19_e ff) res [] 400
    (Orc.cut (nat_lit 9) (s19_0 (0 : Int) (0 : Int) ff) (m19_0 (0 : Int) (0 : Int) ff) [((1000 : Nat), some (1 : Nat))]) _ _ (by kernel_rfl) (by kernel_rfl) (show True ∧
  True ∧
    True ∧
      True ∧
        ((True ∧
              Sub (AV.pt (1000 : Nat) [] (0 : Nat)) (AV.pt (1000 : Nat) [] (0 : Nat)) ∧
                True ∧
                  Sub (AV.sc (Value.int IntKind.i64 (0 : Int))) (AV.sc (Value.int IntKind.i64 (0 : Int))) ∧
                    True ∧ Sub (AV.sc (Value.int IntKind.i64 (0 : Int))) (AV.sc (Value.int IntKind.i64 (0 : Int))) ∧ True) ∧
            True ∧
              SubB (AV.ar (256 : Nat) (1 : Nat) fun (i0 : Nat) => AV.sc (Value.bool (ff i0)))
                  (AV.ar (256 : Nat) (1 : Nat) fun (i0 : Nat) => AV.sc (Value.bool (ff i0))) ∧
                True) ∧
          L19_0 (0 : Int) (0 : Int) ff res from
    ⟨trivial, ⟨trivial, ⟨trivial, ⟨trivial, ⟨⟨⟨trivial, ⟨Sub.refl _, ⟨trivial, ⟨Sub.refl _, ⟨trivial, ⟨Sub.refl _, trivial⟩⟩⟩⟩⟩⟩, ⟨trivial, ⟨SubB.refl _, trivial⟩⟩⟩, h⟩⟩⟩⟩⟩)
theorem r19_0 (n : Int) (b : Int) (b0f : Nat → Bool) (res : AV)
    (h : (decide (b < (256 : Int)) = true →
    ((0 : Int) ≤ b ∧ b < (↑(256 : Nat) : Int)) ∧
      b.toNat < (256 : Nat) ∧ (b0f b.toNat = true → L19_1 (IntKind.i64.wrap (n + (1 : Int))) b b0f res) ∧ (b0f b.toNat = false → L19_1 n b b0f res)) ∧
  (decide (b < (256 : Int)) = false → Sub (AV.sc (Value.int IntKind.i64 n)) res)) :
    L19_0 n b b0f res :=
  rule Go.Am.Seat.tabOk 19 [] Go.Proofs.Try.f19 hf19 [1, 1, 0, 1, 0, 0] (s19_0 n b b0f) (m19_0 n b b0f) res [] 400
    (((Orc.cut (nat_lit 2) (s19_1 (IntKind.i64.wrap (n + (1 : Int))) b b0f) (m19_1 (IntKind.i64.wrap (n + (1 : Int))) b b0f) [((1000 : Nat), some (1000 : Nat))]).br
      (Orc.cut (nat_lit 2) (s19_1 n b b0f) (m19_1 n b b0f) [((1000 : Nat), some (1000 : Nat))])).br
  (Orc.fin (AV.sc (Value.int IntKind.i64 n)) [] [])) _ _ (by kernel_rfl) (by kernel_rfl) (show True ∧
  True ∧
    (decide (b < (256 : Int)) = true →
        True ∧
          ((0 : Int) ≤ b ∧ b < (↑(256 : Nat) : Int)) ∧
            (b.toNat * (1 : Nat) + (0 : Nat) = plus (0 : Nat) (b.toNat * (1 : Nat)) ∧ b.toNat < (256 : Nat) ∧ True) ∧
              (b0f b.toNat = true →
                  True ∧
                    True ∧
                      True ∧
                        ((True ∧
                              Sub (AV.pt (1000 : Nat) [] (0 : Nat)) (AV.pt (1000 : Nat) [] (0 : Nat)) ∧
                                True ∧
                                  Sub (AV.sc (Value.int IntKind.i64 (IntKind.i64.wrap (n + (1 : Int)))))
                                      (AV.sc (Value.int IntKind.i64 (IntKind.i64.wrap (n + (1 : Int))))) ∧
                                    True ∧ Sub (AV.sc (Value.int IntKind.i64 b)) (AV.sc (Value.int IntKind.i64 b)) ∧ True) ∧
                            True ∧
                              SubB (AV.ar (256 : Nat) (1 : Nat) fun (i0 : Nat) => AV.sc (Value.bool (b0f i0)))
                                  (AV.ar (256 : Nat) (1 : Nat) fun (i0 : Nat) => AV.sc (Value.bool (b0f i0))) ∧
                                True) ∧
                          L19_1 (IntKind.i64.wrap (n + (1 : Int))) b b0f res) ∧
                (b0f b.toNat = false →
                  ((True ∧
                        Sub (AV.pt (1000 : Nat) [] (0 : Nat)) (AV.pt (1000 : Nat) [] (0 : Nat)) ∧
                          True ∧
                            Sub (AV.sc (Value.int IntKind.i64 n)) (AV.sc (Value.int IntKind.i64 n)) ∧
                              True ∧ Sub (AV.sc (Value.int IntKind.i64 b)) (AV.sc (Value.int IntKind.i64 b)) ∧ True) ∧
                      True ∧
                        SubB (AV.ar (256 : Nat) (1 : Nat) fun (i0 : Nat) => AV.sc (Value.bool (b0f i0)))
                            (AV.ar (256 : Nat) (1 : Nat) fun (i0 : Nat) => AV.sc (Value.bool (b0f i0))) ∧
                          True) ∧
                    L19_1 n b b0f res)) ∧
      (decide (b < (256 : Int)) = false →
        True ∧
          True ∧
            True ∧
              ((True ∧ Sub (AV.sc (Value.int IntKind.i64 n)) (AV.sc (Value.int IntKind.i64 n)) ∧ True) ∧ True) ∧
                Sub (AV.sc (Value.int IntKind.i64 n)) res ∧ SubOut [] []) from
    ⟨trivial, ⟨trivial, (And.elim (fun h2 k2 => ⟨(fun x3 => (fun h3 => ⟨trivial, (And.elim (fun h5 k5 => ⟨(And.elim (fun h6 k6 => ⟨h6, k6⟩) h5), (And.elim (fun h6 k6 => ⟨⟨rfl, ⟨h6, trivial⟩⟩, (And.elim (fun h7 k7 => ⟨(fun x8 => (fun h8 => ⟨trivial, ⟨trivial, ⟨trivial, ⟨⟨⟨trivial, ⟨Sub.refl _, ⟨trivial, ⟨Sub.refl _, ⟨trivial, ⟨Sub.refl _, trivial⟩⟩⟩⟩⟩⟩, ⟨trivial, ⟨SubB.refl _, trivial⟩⟩⟩, h8⟩⟩⟩⟩) (h7 x8)), (fun x8 => (fun h8 => ⟨⟨⟨trivial, ⟨Sub.refl _, ⟨trivial, ⟨Sub.refl _, ⟨trivial, ⟨Sub.refl _, trivial⟩⟩⟩⟩⟩⟩, ⟨trivial, ⟨SubB.refl _, trivial⟩⟩⟩, h8⟩) (k7 x8))⟩) k6)⟩) k5)⟩) h3)⟩) (h2 x3)), (fun x3 => (fun h3 => ⟨trivial, ⟨trivial, ⟨trivial, ⟨⟨⟨trivial, ⟨Sub.refl _, trivial⟩⟩, trivial⟩, ⟨h3, trivial⟩⟩⟩⟩⟩) (k2 x3))⟩) h)⟩⟩)
theorem r19_1 (n : Int) (b : Int) (b0f : Nat → Bool) (res : AV)
    (h : L19_0 n (IntKind.i64.wrap (b + (1 : Int))) b0f res) :
    L19_1 n b b0f res :=
  rule Go.Am.Seat.tabOk 19 [] Go.Proofs.Try.f19 hf19 [1, 1, 0, 1, 0, 0, 1, 1] (s19_1 n b b0f) (m19_1 n b b0f) res [] 400
    (Orc.cut (nat_lit 2) (s19_0 n (IntKind.i64.wrap (b + (1 : Int))) b0f) (m19_0 n (IntKind.i64.wrap (b + (1 : Int))) b0f) [((1000 : Nat), some (1000 : Nat))]) _ _ (by kernel_rfl) (by kernel_rfl) (show True ∧
  True ∧
    True ∧
      ((True ∧
            Sub (AV.pt (1000 : Nat) [] (0 : Nat)) (AV.pt (1000 : Nat) [] (0 : Nat)) ∧
              True ∧
                Sub (AV.sc (Value.int IntKind.i64 n)) (AV.sc (Value.int IntKind.i64 n)) ∧
                  True ∧
                    Sub (AV.sc (Value.int IntKind.i64 (IntKind.i64.wrap (b + (1 : Int))))) (AV.sc (Value.int IntKind.i64 (IntKind.i64.wrap (b + (1 : Int))))) ∧
                      True) ∧
          True ∧
            SubB (AV.ar (256 : Nat) (1 : Nat) fun (i0 : Nat) => AV.sc (Value.bool (b0f i0)))
                (AV.ar (256 : Nat) (1 : Nat) fun (i0 : Nat) => AV.sc (Value.bool (b0f i0))) ∧
              True) ∧
        L19_0 n (IntKind.i64.wrap (b + (1 : Int))) b0f res from
    ⟨trivial, ⟨trivial, ⟨trivial, ⟨⟨⟨trivial, ⟨Sub.refl _, ⟨trivial, ⟨Sub.refl _, ⟨trivial, ⟨Sub.refl _, trivial⟩⟩⟩⟩⟩⟩, ⟨trivial, ⟨SubB.refl _, trivial⟩⟩⟩, h⟩⟩⟩⟩)
theorem hf20 : Go.Proofs.Try.prog.funcs[20]? = some Go.Proofs.Try.f20 := by kernel_rfl
abbrev s20_e (ff : Nat → Bool) : List (Nat × AV) := [(0, (.ar 256 1 (fun i0 => (.sc (.bool (ff i0))))))]
abbrev m20_e (ff : Nat → Bool) : List (Nat × Nat × AV) := []
def L20_e (ff : Nat → Bool) (res : AV) : Prop := Goes ⟨Go.Proofs.Try.prog, 20, [], res, []⟩ (place Go.Proofs.Try.f20 []) (s20_e ff) (m20_e ff)
theorem a20_e (ff : Nat → Bool) (res : AV) (h : (∀ slot, fact (look .undef (s20_e ff) slot)) → L20_e ff res) : L20_e ff res :=
  assumeRule 20 [] Go.Proofs.Try.f20 hf20 [] (s20_e ff) (m20_e ff) res [] _ (by kernel_rfl) h
abbrev s20_0 (out_n : Nat) (b : Int) (b0f : Nat → Bool) (b1n : Nat) (b1f : Nat → Int) : List (Nat × AV) := [(1, (.pt 1000 [] 0)), (3, (.rf 1001 1 0 out_n)), (4, (.sc (.int .i64 b)))]
abbrev m20_0 (out_n : Nat) (b : Int) (b0f : Nat → Bool) (b1n : Nat) (b1f : Nat → Int) : List (Nat × Nat × AV) := [(1000, 38, (.ar 256 1 (fun i0 => (.sc (.bool (b0f i0)))))), (1001, 5, (.ar b1n 1 (fun i0 => (.sc (.int .u8 (b1f i0))))))]
def L20_0 (out_n : Nat) (b : Int) (b0f : Nat → Bool) (b1n : Nat) (b1f : Nat → Int) (res : AV) : Prop := Goes ⟨Go.Proofs.Try.prog, 20, [], res, []⟩ (place Go.Proofs.Try.f20 [1, 1, 0, 1, 0, 0]) (s20_0 out_n b b0f b1n b1f) (m20_0 out_n b b0f b1n b1f)
theorem a20_0 (out_n : Nat) (b : Int) (b0f : Nat → Bool) (b1n : Nat) (b1f : Nat → Int) (res : AV) (h : (∀ slot, fact (look .undef (s20_0 out_n b b0f b1n b1f) slot)) → L20_0 out_n b b0f b1n b1f res) : L20_0 out_n b b0f b1n b1f res :=
  assumeRule 20 [] Go.Proofs.Try.f20 hf20 [1, 1, 0, 1, 0, 0] (s20_0 out_n b b0f b1n b1f) (m20_0 out_n b b0f b1n b1f) res [] _ (by kernel_rfl) h
abbrev s20_1 (out_n : Nat) (b : Int) (b0f : Nat → Bool) (b1n : Nat) (b1f : Nat → Int) : List (Nat × AV) := [(1, (.pt 1000 [] 0)), (3, (.rf 1001 1 0 out_n)), (4, (.sc (.int .i64 b)))]
abbrev m20_1 (out_n : Nat) (b : Int) (b0f : Nat → Bool) (b1n : Nat) (b1f : Nat → Int) : List (Nat × Nat × AV) := [(1000, 38, (.ar 256 1 (fun i0 => (.sc (.bool (b0f i0)))))), (1001, 5, (.ar b1n 1 (fun i0 => (.sc (.int .u8 (b1f i0))))))]
def L20_1 (out_n : Nat) (b : Int) (b0f : Nat → Bool) (b1n : Nat) (b1f : Nat → Int) (res : AV) : Prop := Goes ⟨Go.Proofs.Try.prog, 20, [], res, []⟩ (place Go.Proofs.Try.f20 [1, 1, 0, 1, 0, 0, 1, 1]) (s20_1 out_n b b0f b1n b1f) (m20_1 out_n b b0f b1n b1f)
theorem a20_1 (out_n : Nat) (b : Int) (b0f : Nat → Bool) (b1n : Nat) (b1f : Nat → Int) (res : AV) (h : (∀ slot, fact (look .undef (s20_1 out_n b b0f b1n b1f) slot)) → L20_1 out_n b b0f b1n b1f res) : L20_1 out_n b b0f b1n b1f res :=
  assumeRule 20 [] Go.Proofs.Try.f20 hf20 [1, 1, 0, 1, 0, 0, 1, 1] (s20_1 out_n b b0f b1n b1f) (m20_1 out_n b b0f b1n b1f) res [] _ (by kernel_rfl) h
theorem o20 (ff : Nat → Bool) (res : AV) (hnew : newOnly res) (h : L20_e ff res) : Ok Go.Proofs.Try.prog 20 [(.ar 256 1 (fun i0 => (.sc (.bool (ff i0)))))] [] res [] :=
  okRule2 20 Go.Proofs.Try.f20 hf20 [(.ar 256 1 (fun i0 => (.sc (.bool (ff i0)))))] [] res [] [] rfl (by kernel_rfl) (by kernel_rfl) (by kernel_rfl) ⟨hnew, by simp⟩ (L20_e ff res) (by kernel_rfl) h
theorem r20_e (ff : Nat → Bool) (res : AV)
    (h : L20_0 (0 : Nat) (0 : Int) ff (0 : Nat) (fun (i : Nat) => Int.ofNat (0 : Nat)) res) :
    L20_e ff res :=
  rule Go.Am.Seat.tabOk 20 [] Go.Proofs.Try.f20 hf20 [] (s20_e ff) (m20_e ff) res [] 400
    (Orc.cut (nat_lit 9) (s20_0 (0 : Nat) (0 : Int) ff (0 : Nat) fun (i : Nat) => Int.ofNat (0 : Nat))
  (m20_0 (0 : Nat) (0 : Int) ff (0 : Nat) fun (i : Nat) => Int.ofNat (0 : Nat)) [((1000 : Nat), some (1 : Nat)), ((1001 : Nat), none)]) _ _ (by kernel_rfl) (by kernel_rfl) (show True ∧
  True ∧
    True ∧
      True ∧
        ((True ∧
              Sub (AV.pt (1000 : Nat) [] (0 : Nat)) (AV.pt (1000 : Nat) [] (0 : Nat)) ∧
                True ∧ Sub (AV.sc (Value.int IntKind.i64 (0 : Int))) (AV.sc (Value.int IntKind.i64 (0 : Int))) ∧ True) ∧
            True ∧
              SubB (AV.ar (256 : Nat) (1 : Nat) fun (i0 : Nat) => AV.sc (Value.bool (ff i0)))
                  (AV.ar (256 : Nat) (1 : Nat) fun (i0 : Nat) => AV.sc (Value.bool (ff i0))) ∧
                True) ∧
          L20_0 (0 : Nat) (0 : Int) ff (0 : Nat) (fun (i : Nat) => Int.ofNat (0 : Nat)) res from
    ⟨trivial, ⟨trivial, ⟨trivial, ⟨trivial, ⟨⟨⟨trivial, ⟨Sub.refl _, ⟨trivial, ⟨Sub.refl _, trivial⟩⟩⟩⟩, ⟨trivial, ⟨SubB.refl _, trivial⟩⟩⟩, h⟩⟩⟩⟩⟩)
theorem r20_0 (out_n : Nat) (b : Int) (b0f : Nat → Bool) (b1n : Nat) (b1f : Nat → Int) (res : AV)
    (h : (decide (b < (256 : Int)) = true →
    ((0 : Int) ≤ b ∧ b < (↑(256 : Nat) : Int)) ∧
      b.toNat < (256 : Nat) ∧
        (b0f b.toNat = true →
            (out_n ≤ b1n ∧ (0 : Nat) + (1 : Nat) ≤ (1 : Nat) ∧ (out_n + (1 : Nat)) * (1 : Nat) ≤ (140737488355328 : Nat) ∧ out_n + (1 : Nat) ≤ maxLen) ∧
              L20_1 (out_n + (1 : Nat)) b b0f (out_n + (1 : Nat))
                (fun (i : Nat) => bif i.blt out_n then b1f i else bif ((0 : Nat) + (i - out_n)).beq (0 : Nat) then IntKind.u8.wrap b else (0 : Int)) res) ∧
          (b0f b.toNat = false → L20_1 out_n b b0f b1n b1f res)) ∧
  (decide (b < (256 : Int)) = false →
    ((0 : Nat) + out_n ≤ b1n ∧
        (strOf out_n fun (i : Nat) => b1f ((0 : Nat) + i)).size = out_n ∧
          ∀ (i : Nat),
            i < out_n →
              AV.sc (Value.int IntKind.u8 (b1f ((0 : Nat) + i))) =
                AV.sc (Value.int IntKind.u8 (↑(byteAt (strOf out_n fun (i : Nat) => b1f ((0 : Nat) + i)) i).toNat : Int))) ∧
      Sub (AV.sc (Value.string (strOf out_n fun (i : Nat) => b1f ((0 : Nat) + i)))) res)) :
    L20_0 out_n b b0f b1n b1f res :=
  rule Go.Am.Seat.tabOk 20 [] Go.Proofs.Try.f20 hf20 [1, 1, 0, 1, 0, 0] (s20_0 out_n b b0f b1n b1f) (m20_0 out_n b b0f b1n b1f) res [] 400
    (((Orc.cut (nat_lit 2)
          (s20_1 (out_n + (1 : Nat)) b b0f (out_n + (1 : Nat)) fun (i : Nat) =>
            bif i.blt out_n then b1f i else bif ((0 : Nat) + (i - out_n)).beq ((0 : Nat), Operand.tmp (14 : Nat)).fst then IntKind.u8.wrap b else (0 : Int))
          (m20_1 (out_n + (1 : Nat)) b b0f (out_n + (1 : Nat)) fun (i : Nat) =>
            bif i.blt out_n then b1f i else bif ((0 : Nat) + (i - out_n)).beq ((0 : Nat), Operand.tmp (14 : Nat)).fst then IntKind.u8.wrap b else (0 : Int))
          [((1000 : Nat), some (1000 : Nat)), ((1001 : Nat), some (16 : Nat))]).br
      (Orc.cut (nat_lit 2) (s20_1 out_n b b0f b1n b1f) (m20_1 out_n b b0f b1n b1f) [((1000 : Nat), some (1000 : Nat)), ((1001 : Nat), some (1001 : Nat))])).br
  (Orc.ch Ch.none
    (Orc.ch (Ch.s (strOf out_n fun (i : Nat) => b1f ((0 : Nat) + i)))
      (Orc.fin (AV.sc (Value.string (strOf out_n fun (i : Nat) => b1f ((0 : Nat) + i)))) [] [])))) _ _ (by kernel_rfl) (by kernel_rfl) (show True ∧
  True ∧
    (decide (b < (256 : Int)) = true →
        True ∧
          ((0 : Int) ≤ b ∧ b < (↑(256 : Nat) : Int)) ∧
            (b.toNat * (1 : Nat) + (0 : Nat) = plus (0 : Nat) (b.toNat * (1 : Nat)) ∧ b.toNat < (256 : Nat) ∧ True) ∧
              (b0f b.toNat = true →
                  True ∧
                    True ∧
                      True ∧
                        ((True ∧ True) ∧ True) ∧
                          (out_n ≤ b1n ∧
                              ((0 : Nat) + (1 : Nat) ≤ (1 : Nat) ∧ (1 : Nat) = (1 : Nat)) ∧
                                (out_n + (1 : Nat)) * (1 : Nat) ≤ (140737488355328 : Nat) ∧ out_n + (1 : Nat) ≤ maxLen) ∧
                            True ∧
                              ((True ∧
                                    Sub (AV.pt (1000 : Nat) [] (0 : Nat)) (AV.pt (1000 : Nat) [] (0 : Nat)) ∧
                                      True ∧
                                        Sub (AV.rf (1001 : Nat) (1 : Nat) (0 : Nat) (out_n + (1 : Nat)))
                                            (AV.rf (1001 : Nat) (1 : Nat) (0 : Nat) (out_n + (1 : Nat))) ∧
                                          True ∧ Sub (AV.sc (Value.int IntKind.i64 b)) (AV.sc (Value.int IntKind.i64 b)) ∧ True) ∧
                                  True ∧
                                    SubB (AV.ar (256 : Nat) (1 : Nat) fun (i0 : Nat) => AV.sc (Value.bool (b0f i0)))
                                        (AV.ar (256 : Nat) (1 : Nat) fun (i0 : Nat) => AV.sc (Value.bool (b0f i0))) ∧
                                      True ∧
                                        SubB
                                            (AV.ar (out_n + (1 : Nat)) (1 : Nat) fun (i : Nat) =>
                                              AV.sc
                                                (Value.int IntKind.u8
                                                  (bif i.blt out_n then b1f i
                                                  else bif ((0 : Nat) + (i - out_n)).beq (0 : Nat) then IntKind.u8.wrap b else (0 : Int))))
                                            (AV.ar (out_n + (1 : Nat)) (1 : Nat) fun (i0 : Nat) =>
                                              AV.sc
                                                (Value.int IntKind.u8
                                                  (bif i0.blt out_n then b1f i0
                                                  else bif ((0 : Nat) + (i0 - out_n)).beq (0 : Nat) then IntKind.u8.wrap b else (0 : Int)))) ∧
                                          True) ∧
                                L20_1 (out_n + (1 : Nat)) b b0f (out_n + (1 : Nat))
                                  (fun (i : Nat) =>
                                    bif i.blt out_n then b1f i else bif ((0 : Nat) + (i - out_n)).beq (0 : Nat) then IntKind.u8.wrap b else (0 : Int))
                                  res) ∧
                (b0f b.toNat = false →
                  ((True ∧
                        Sub (AV.pt (1000 : Nat) [] (0 : Nat)) (AV.pt (1000 : Nat) [] (0 : Nat)) ∧
                          True ∧
                            Sub (AV.rf (1001 : Nat) (1 : Nat) (0 : Nat) out_n) (AV.rf (1001 : Nat) (1 : Nat) (0 : Nat) out_n) ∧
                              True ∧ Sub (AV.sc (Value.int IntKind.i64 b)) (AV.sc (Value.int IntKind.i64 b)) ∧ True) ∧
                      True ∧
                        SubB (AV.ar (256 : Nat) (1 : Nat) fun (i0 : Nat) => AV.sc (Value.bool (b0f i0)))
                            (AV.ar (256 : Nat) (1 : Nat) fun (i0 : Nat) => AV.sc (Value.bool (b0f i0))) ∧
                          True ∧
                            SubB (AV.ar b1n (1 : Nat) fun (i0 : Nat) => AV.sc (Value.int IntKind.u8 (b1f i0)))
                                (AV.ar b1n (1 : Nat) fun (i0 : Nat) => AV.sc (Value.int IntKind.u8 (b1f i0))) ∧
                              True) ∧
                    L20_1 out_n b b0f b1n b1f res)) ∧
      (decide (b < (256 : Int)) = false →
        True ∧
          (((0 : Nat) + out_n ≤ b1n ∧ (1 : Nat) = (1 : Nat)) ∧
              (strOf out_n fun (i : Nat) => b1f ((0 : Nat) + i)).size = out_n ∧
                ∀ (i : Nat),
                  i < out_n →
                    AV.sc (Value.int IntKind.u8 (b1f ((0 : Nat) + i))) =
                      AV.sc (Value.int IntKind.u8 (↑(byteAt (strOf out_n fun (i : Nat) => b1f ((0 : Nat) + i)) i).toNat : Int))) ∧
            True ∧
              True ∧
                ((True ∧
                      Sub (AV.sc (Value.string (strOf out_n fun (i : Nat) => b1f ((0 : Nat) + i))))
                          (AV.sc (Value.string (strOf out_n fun (i : Nat) => b1f ((0 : Nat) + i)))) ∧
                        True) ∧
                    True) ∧
                  Sub (AV.sc (Value.string (strOf out_n fun (i : Nat) => b1f ((0 : Nat) + i)))) res ∧ SubOut [] []) from
    ⟨trivial, ⟨trivial, (And.elim (fun h2 k2 => ⟨(fun x3 => (fun h3 => ⟨trivial, (And.elim (fun h5 k5 => ⟨(And.elim (fun h6 k6 => ⟨h6, k6⟩) h5), (And.elim (fun h6 k6 => ⟨⟨rfl, ((fun h8 => ⟨h8, trivial⟩) h6)⟩, (And.elim (fun h7 k7 => ⟨(fun x8 => (fun h8 => ⟨trivial, ⟨trivial, ⟨trivial, ⟨⟨⟨trivial, trivial⟩, trivial⟩, (And.elim (fun h13 k13 => ⟨(And.elim (fun h14 k14 => ⟨h14, (And.elim (fun h15 k15 => ⟨((fun h16 => ⟨h16, rfl⟩) h15), (And.elim (fun h16 k16 => ⟨h16, k16⟩) k15)⟩) k14)⟩) h13), ⟨trivial, ⟨⟨⟨trivial, ⟨Sub.refl _, ⟨trivial, ⟨Sub.refl _, ⟨trivial, ⟨Sub.refl _, trivial⟩⟩⟩⟩⟩⟩, ⟨trivial, ⟨SubB.refl _, ⟨trivial, ⟨SubB.refl _, trivial⟩⟩⟩⟩⟩, k13⟩⟩⟩) h8)⟩⟩⟩⟩) (h7 x8)), (fun x8 => (fun h8 => ⟨⟨⟨trivial, ⟨Sub.refl _, ⟨trivial, ⟨Sub.refl _, ⟨trivial, ⟨Sub.refl _, trivial⟩⟩⟩⟩⟩⟩, ⟨trivial, ⟨SubB.refl _, ⟨trivial, ⟨SubB.refl _, trivial⟩⟩⟩⟩⟩, h8⟩) (k7 x8))⟩) k6)⟩) k5)⟩) h3)⟩) (h2 x3)), (fun x3 => (fun h3 => ⟨trivial, (And.elim (fun h5 k5 => ⟨(And.elim (fun h6 k6 => ⟨((fun h7 => ⟨h7, rfl⟩) h6), (And.elim (fun h7 k7 => ⟨h7, (fun x8 => (fun h8 => (fun x9 => (fun h9 => h9) (h8 x9))) (k7 x8))⟩) k6)⟩) h5), ⟨trivial, ⟨trivial, ⟨⟨⟨trivial, ⟨Sub.refl _, trivial⟩⟩, trivial⟩, ((fun h9 => ⟨h9, trivial⟩) k5)⟩⟩⟩⟩) h3)⟩) (k2 x3))⟩) h)⟩⟩)
theorem r20_1 (out_n : Nat) (b : Int) (b0f : Nat → Bool) (b1n : Nat) (b1f : Nat → Int) (res : AV)
    (h : L20_0 out_n (IntKind.i64.wrap (b + (1 : Int))) b0f b1n b1f res) :
    L20_1 out_n b b0f b1n b1f res :=
  rule Go.Am.Seat.tabOk 20 [] Go.Proofs.Try.f20 hf20 [1, 1, 0, 1, 0, 0, 1, 1] (s20_1 out_n b b0f b1n b1f) (m20_1 out_n b b0f b1n b1f) res [] 400
    (Orc.cut (nat_lit 2) (s20_0 out_n (IntKind.i64.wrap (b + (1 : Int))) b0f b1n b1f) (m20_0 out_n (IntKind.i64.wrap (b + (1 : Int))) b0f b1n b1f)
  [((1000 : Nat), some (1000 : Nat)), ((1001 : Nat), some (1001 : Nat))]) _ _ (by kernel_rfl) (by kernel_rfl) (show True ∧
  True ∧
    True ∧
      ((True ∧
            Sub (AV.pt (1000 : Nat) [] (0 : Nat)) (AV.pt (1000 : Nat) [] (0 : Nat)) ∧
              True ∧
                Sub (AV.rf (1001 : Nat) (1 : Nat) (0 : Nat) out_n) (AV.rf (1001 : Nat) (1 : Nat) (0 : Nat) out_n) ∧
                  True ∧
                    Sub (AV.sc (Value.int IntKind.i64 (IntKind.i64.wrap (b + (1 : Int))))) (AV.sc (Value.int IntKind.i64 (IntKind.i64.wrap (b + (1 : Int))))) ∧
                      True) ∧
          True ∧
            SubB (AV.ar (256 : Nat) (1 : Nat) fun (i0 : Nat) => AV.sc (Value.bool (b0f i0)))
                (AV.ar (256 : Nat) (1 : Nat) fun (i0 : Nat) => AV.sc (Value.bool (b0f i0))) ∧
              True ∧
                SubB (AV.ar b1n (1 : Nat) fun (i0 : Nat) => AV.sc (Value.int IntKind.u8 (b1f i0)))
                    (AV.ar b1n (1 : Nat) fun (i0 : Nat) => AV.sc (Value.int IntKind.u8 (b1f i0))) ∧
                  True) ∧
        L20_0 out_n (IntKind.i64.wrap (b + (1 : Int))) b0f b1n b1f res from
    ⟨trivial, ⟨trivial, ⟨trivial, ⟨⟨⟨trivial, ⟨Sub.refl _, ⟨trivial, ⟨Sub.refl _, ⟨trivial, ⟨Sub.refl _, trivial⟩⟩⟩⟩⟩⟩, ⟨trivial, ⟨SubB.refl _, ⟨trivial, ⟨SubB.refl _, trivial⟩⟩⟩⟩⟩, h⟩⟩⟩⟩)
theorem hf21 : Go.Proofs.Try.prog.funcs[21]? = some Go.Proofs.Try.f21 := by kernel_rfl
abbrev s21_e (ff : Nat → Bool) : List (Nat × AV) := [(0, (.ar 256 1 (fun i0 => (.sc (.bool (ff i0))))))]
abbrev m21_e (ff : Nat → Bool) : List (Nat × Nat × AV) := []
def L21_e (ff : Nat → Bool) (res : AV) : Prop := Goes ⟨Go.Proofs.Try.prog, 21, [], res, []⟩ (place Go.Proofs.Try.f21 []) (s21_e ff) (m21_e ff)
theorem a21_e (ff : Nat → Bool) (res : AV) (h : (∀ slot, fact (look .undef (s21_e ff) slot)) → L21_e ff res) : L21_e ff res :=
  assumeRule 21 [] Go.Proofs.Try.f21 hf21 [] (s21_e ff) (m21_e ff) res [] _ (by kernel_rfl) h
abbrev s21_0 (i : Int) (b0f : Nat → Bool) (b1f : Nat → Int) (b2f : Nat → Int) : List (Nat × AV) := [(1, (.pt 1000 [] 0)), (2, (.pt 1001 [] 0)), (3, (.pt 1002 [] 0)), (4, (.sc (.int .i64 i)))]
abbrev m21_0 (i : Int) (b0f : Nat → Bool) (b1f : Nat → Int) (b2f : Nat → Int) : List (Nat × Nat × AV) := [(1000, 38, (.ar 256 1 (fun i0 => (.sc (.bool (b0f i0)))))), (1001, 24, (.ar 4 1 (fun i0 => (.sc (.int .u64 (b1f i0)))))), (1002, 24, (.ar 4 1 (fun i0 => (.sc (.int .u64 (b2f i0))))))]
def L21_0 (i : Int) (b0f : Nat → Bool) (b1f : Nat → Int) (b2f : Nat → Int) (res : AV) : Prop := Goes ⟨Go.Proofs.Try.prog, 21, [], res, []⟩ (place Go.Proofs.Try.f21 [1, 1, 0, 1, 0, 0]) (s21_0 i b0f b1f b2f) (m21_0 i b0f b1f b2f)
theorem a21_0 (i : Int) (b0f : Nat → Bool) (b1f : Nat → Int) (b2f : Nat → Int) (res : AV) (h : (∀ slot, fact (look .undef (s21_0 i b0f b1f b2f) slot)) → L21_0 i b0f b1f b2f res) : L21_0 i b0f b1f b2f res :=
  assumeRule 21 [] Go.Proofs.Try.f21 hf21 [1, 1, 0, 1, 0, 0] (s21_0 i b0f b1f b2f) (m21_0 i b0f b1f b2f) res [] _ (by kernel_rfl) h
abbrev s21_1 (i : Int) (w : Int) (k : Int) (b0f : Nat → Bool) (b1f : Nat → Int) (b2f : Nat → Int) : List (Nat × AV) := [(1, (.pt 1000 [] 0)), (2, (.pt 1001 [] 0)), (3, (.pt 1002 [] 0)), (4, (.sc (.int .i64 i))), (5, (.sc (.int .u64 w))), (6, (.sc (.int .i64 k)))]
abbrev m21_1 (i : Int) (w : Int) (k : Int) (b0f : Nat → Bool) (b1f : Nat → Int) (b2f : Nat → Int) : List (Nat × Nat × AV) := [(1000, 38, (.ar 256 1 (fun i0 => (.sc (.bool (b0f i0)))))), (1001, 24, (.ar 4 1 (fun i0 => (.sc (.int .u64 (b1f i0)))))), (1002, 24, (.ar 4 1 (fun i0 => (.sc (.int .u64 (b2f i0))))))]
def L21_1 (i : Int) (w : Int) (k : Int) (b0f : Nat → Bool) (b1f : Nat → Int) (b2f : Nat → Int) (res : AV) : Prop := Goes ⟨Go.Proofs.Try.prog, 21, [], res, []⟩ (place Go.Proofs.Try.f21 [1, 1, 0, 1, 0, 0, 1, 0, 0, 1, 0, 1, 0, 0]) (s21_1 i w k b0f b1f b2f) (m21_1 i w k b0f b1f b2f)
theorem a21_1 (i : Int) (w : Int) (k : Int) (b0f : Nat → Bool) (b1f : Nat → Int) (b2f : Nat → Int) (res : AV) (h : (∀ slot, fact (look .undef (s21_1 i w k b0f b1f b2f) slot)) → L21_1 i w k b0f b1f b2f res) : L21_1 i w k b0f b1f b2f res :=
  assumeRule 21 [] Go.Proofs.Try.f21 hf21 [1, 1, 0, 1, 0, 0, 1, 0, 0, 1, 0, 1, 0, 0] (s21_1 i w k b0f b1f b2f) (m21_1 i w k b0f b1f b2f) res [] _ (by kernel_rfl) h
abbrev s21_2 (i : Int) (w : Int) (k : Int) (b0f : Nat → Bool) (b1f : Nat → Int) (b2f : Nat → Int) : List (Nat × AV) := [(1, (.pt 1000 [] 0)), (2, (.pt 1001 [] 0)), (3, (.pt 1002 [] 0)), (4, (.sc (.int .i64 i))), (5, (.sc (.int .u64 w))), (6, (.sc (.int .i64 k)))]
abbrev m21_2 (i : Int) (w : Int) (k : Int) (b0f : Nat → Bool) (b1f : Nat → Int) (b2f : Nat → Int) : List (Nat × Nat × AV) := [(1000, 38, (.ar 256 1 (fun i0 => (.sc (.bool (b0f i0)))))), (1001, 24, (.ar 4 1 (fun i0 => (.sc (.int .u64 (b1f i0)))))), (1002, 24, (.ar 4 1 (fun i0 => (.sc (.int .u64 (b2f i0))))))]
def L21_2 (i : Int) (w : Int) (k : Int) (b0f : Nat → Bool) (b1f : Nat → Int) (b2f : Nat → Int) (res : AV) : Prop := Goes ⟨Go.Proofs.Try.prog, 21, [], res, []⟩ (place Go.Proofs.Try.f21 [1, 1, 0, 1, 0, 0, 1, 0, 0, 1, 0, 1, 0, 0, 1, 1]) (s21_2 i w k b0f b1f b2f) (m21_2 i w k b0f b1f b2f)
theorem a21_2 (i : Int) (w : Int) (k : Int) (b0f : Nat → Bool) (b1f : Nat → Int) (b2f : Nat → Int) (res : AV) (h : (∀ slot, fact (look .undef (s21_2 i w k b0f b1f b2f) slot)) → L21_2 i w k b0f b1f b2f res) : L21_2 i w k b0f b1f b2f res :=
  assumeRule 21 [] Go.Proofs.Try.f21 hf21 [1, 1, 0, 1, 0, 0, 1, 0, 0, 1, 0, 1, 0, 0, 1, 1] (s21_2 i w k b0f b1f b2f) (m21_2 i w k b0f b1f b2f) res [] _ (by kernel_rfl) h
theorem o21 (ff : Nat → Bool) (res : AV) (hnew : newOnly res) (h : L21_e ff res) : Ok Go.Proofs.Try.prog 21 [(.ar 256 1 (fun i0 => (.sc (.bool (ff i0)))))] [] res [] :=
  okRule2 21 Go.Proofs.Try.f21 hf21 [(.ar 256 1 (fun i0 => (.sc (.bool (ff i0)))))] [] res [] [] rfl (by kernel_rfl) (by kernel_rfl) (by kernel_rfl) ⟨hnew, by simp⟩ (L21_e ff res) (by kernel_rfl) h
theorem r21_e (ff : Nat → Bool) (res : AV)
    (h : L21_0 (0 : Int) ff (fun (x : Nat) => (0 : Int)) (fun (x : Nat) => (0 : Int)) res) :
    L21_e ff res :=
  rule Go.Am.Seat.tabOk 21 [] Go.Proofs.Try.f21 hf21 [] (s21_e ff) (m21_e ff) res [] 400
    (Orc.cut (nat_lit 9) (s21_0 (0 : Int) ff (fun (x : Nat) => (0 : Int)) fun (x : Nat) => (0 : Int))
  (m21_0 (0 : Int) ff (fun (x : Nat) => (0 : Int)) fun (x : Nat) => (0 : Int))
  [((1000 : Nat), some (1 : Nat)), ((1001 : Nat), some (2 : Nat)), ((1002 : Nat), some (3 : Nat))]) _ _ (by kernel_rfl) (by kernel_rfl) (show True ∧
  True ∧
    True ∧
      True ∧
        ((True ∧
              Sub (AV.pt (1000 : Nat) [] (0 : Nat)) (AV.pt (1000 : Nat) [] (0 : Nat)) ∧
                True ∧
                  Sub (AV.pt (1001 : Nat) [] (0 : Nat)) (AV.pt (1001 : Nat) [] (0 : Nat)) ∧
                    True ∧
                      Sub (AV.pt (1002 : Nat) [] (0 : Nat)) (AV.pt (1002 : Nat) [] (0 : Nat)) ∧
                        True ∧ Sub (AV.sc (Value.int IntKind.i64 (0 : Int))) (AV.sc (Value.int IntKind.i64 (0 : Int))) ∧ True) ∧
            True ∧
              SubB (AV.ar (256 : Nat) (1 : Nat) fun (i0 : Nat) => AV.sc (Value.bool (ff i0)))
                  (AV.ar (256 : Nat) (1 : Nat) fun (i0 : Nat) => AV.sc (Value.bool (ff i0))) ∧
                True ∧
                  SubB (AV.ar (4 : Nat) (1 : Nat) fun (x : Nat) => AV.sc (Value.int IntKind.u64 (0 : Int)))
                      (AV.ar (4 : Nat) (1 : Nat) fun (i0 : Nat) => AV.sc (Value.int IntKind.u64 (0 : Int))) ∧
                    True ∧
                      SubB (AV.ar (4 : Nat) (1 : Nat) fun (x : Nat) => AV.sc (Value.int IntKind.u64 (0 : Int)))
                          (AV.ar (4 : Nat) (1 : Nat) fun (i0 : Nat) => AV.sc (Value.int IntKind.u64 (0 : Int))) ∧
                        True) ∧
          L21_0 (0 : Int) ff (fun (x : Nat) => (0 : Int)) (fun (x : Nat) => (0 : Int)) res from
    ⟨trivial, ⟨trivial, ⟨trivial, ⟨trivial, ⟨⟨⟨trivial, ⟨Sub.refl _, ⟨trivial, ⟨Sub.refl _, ⟨trivial, ⟨Sub.refl _, ⟨trivial, ⟨Sub.refl _, trivial⟩⟩⟩⟩⟩⟩⟩⟩, ⟨trivial, ⟨SubB.refl _, ⟨trivial, ⟨SubB.refl _, ⟨trivial, ⟨SubB.refl _, trivial⟩⟩⟩⟩⟩⟩⟩, h⟩⟩⟩⟩⟩)
theorem r21_0 (i : Int) (b0f : Nat → Bool) (b1f : Nat → Int) (b2f : Nat → Int) (res : AV)
    (h : (decide (i < (4 : Int)) = true → L21_1 i (0 : Int) (63 : Int) b0f b1f b2f res) ∧
  (decide (i < (4 : Int)) = false → Sub (AV.ar (4 : Nat) (1 : Nat) fun (i0 : Nat) => AV.sc (Value.int IntKind.u64 (b2f i0))) res)) :
    L21_0 i b0f b1f b2f res :=
  rule Go.Am.Seat.tabOk 21 [] Go.Proofs.Try.f21 hf21 [1, 1, 0, 1, 0, 0] (s21_0 i b0f b1f b2f) (m21_0 i b0f b1f b2f) res [] 400
    ((Orc.cut (nat_lit 10) (s21_1 i (0 : Int) (63 : Int) b0f b1f b2f) (m21_1 i (0 : Int) (63 : Int) b0f b1f b2f)
      [((1000 : Nat), some (1000 : Nat)), ((1001 : Nat), some (1001 : Nat)), ((1002 : Nat), some (1002 : Nat))]).br
  (Orc.fin (AV.ar (4 : Nat) (1 : Nat) fun (i0 : Nat) => AV.sc (Value.int IntKind.u64 (b2f i0))) [] [])) _ _ (by kernel_rfl) (by kernel_rfl) (show True ∧
  True ∧
    (decide (i < (4 : Int)) = true →
        True ∧
          True ∧
            ((True ∧
                  Sub (AV.pt (1000 : Nat) [] (0 : Nat)) (AV.pt (1000 : Nat) [] (0 : Nat)) ∧
                    True ∧
                      Sub (AV.pt (1001 : Nat) [] (0 : Nat)) (AV.pt (1001 : Nat) [] (0 : Nat)) ∧
                        True ∧
                          Sub (AV.pt (1002 : Nat) [] (0 : Nat)) (AV.pt (1002 : Nat) [] (0 : Nat)) ∧
                            True ∧
                              Sub (AV.sc (Value.int IntKind.i64 i)) (AV.sc (Value.int IntKind.i64 i)) ∧
                                True ∧
                                  Sub (AV.sc (Value.int IntKind.u64 (0 : Int))) (AV.sc (Value.int IntKind.u64 (0 : Int))) ∧
                                    True ∧ Sub (AV.sc (Value.int IntKind.i64 (63 : Int))) (AV.sc (Value.int IntKind.i64 (63 : Int))) ∧ True) ∧
                True ∧
                  SubB (AV.ar (256 : Nat) (1 : Nat) fun (i0 : Nat) => AV.sc (Value.bool (b0f i0)))
                      (AV.ar (256 : Nat) (1 : Nat) fun (i0 : Nat) => AV.sc (Value.bool (b0f i0))) ∧
                    True ∧
                      SubB (AV.ar (4 : Nat) (1 : Nat) fun (i0 : Nat) => AV.sc (Value.int IntKind.u64 (b1f i0)))
                          (AV.ar (4 : Nat) (1 : Nat) fun (i0 : Nat) => AV.sc (Value.int IntKind.u64 (b1f i0))) ∧
                        True ∧
                          SubB (AV.ar (4 : Nat) (1 : Nat) fun (i0 : Nat) => AV.sc (Value.int IntKind.u64 (b2f i0)))
                              (AV.ar (4 : Nat) (1 : Nat) fun (i0 : Nat) => AV.sc (Value.int IntKind.u64 (b2f i0))) ∧
                            True) ∧
              L21_1 i (0 : Int) (63 : Int) b0f b1f b2f res) ∧
      (decide (i < (4 : Int)) = false →
        ((0 : Nat) = (0 : Nat) ∧ True) ∧
          ((0 : Nat) = (0 : Nat) ∧ True) ∧
            ((0 : Nat) = (0 : Nat) ∧ True) ∧
              ((True ∧
                    Sub (AV.ar (4 : Nat) (1 : Nat) fun (i0 : Nat) => AV.sc (Value.int IntKind.u64 (b2f i0)))
                        (AV.ar (4 : Nat) (1 : Nat) fun (i0 : Nat) => AV.sc (Value.int IntKind.u64 (b2f i0))) ∧
                      True) ∧
                  True) ∧
                Sub (AV.ar (4 : Nat) (1 : Nat) fun (i0 : Nat) => AV.sc (Value.int IntKind.u64 (b2f i0))) res ∧ SubOut [] []) from
    ⟨trivial, ⟨trivial, (And.elim (fun h2 k2 => ⟨(fun x3 => (fun h3 => ⟨trivial, ⟨trivial, ⟨⟨⟨trivial, ⟨Sub.refl _, ⟨trivial, ⟨Sub.refl _, ⟨trivial, ⟨Sub.refl _, ⟨trivial, ⟨Sub.refl _, ⟨trivial, ⟨Sub.refl _, ⟨trivial, ⟨Sub.refl _, trivial⟩⟩⟩⟩⟩⟩⟩⟩⟩⟩⟩⟩, ⟨trivial, ⟨SubB.refl _, ⟨trivial, ⟨SubB.refl _, ⟨trivial, ⟨SubB.refl _, trivial⟩⟩⟩⟩⟩⟩⟩, h3⟩⟩⟩) (h2 x3)), (fun x3 => (fun h3 => ⟨⟨rfl, trivial⟩, ⟨⟨rfl, trivial⟩, ⟨⟨rfl, trivial⟩, ⟨⟨⟨trivial, ⟨Sub.refl _, trivial⟩⟩, trivial⟩, ((fun h8 => ⟨h8, trivial⟩) h3)⟩⟩⟩⟩) (k2 x3))⟩) h)⟩⟩)
theorem r21_1 (i : Int) (w : Int) (k : Int) (b0f : Nat → Bool) (b1f : Nat → Int) (b2f : Nat → Int) (res : AV)
    (h : (decide (k ≥ (0 : Int)) = true →
    ((0 : Int) ≤ IntKind.i64.wrap (IntKind.i64.wrap (i * (64 : Int)) + k) ∧ IntKind.i64.wrap (IntKind.i64.wrap (i * (64 : Int)) + k) < (↑(256 : Nat) : Int)) ∧
      (IntKind.i64.wrap (IntKind.i64.wrap (i * (64 : Int)) + k)).toNat < (256 : Nat) ∧
        (b0f (IntKind.i64.wrap (IntKind.i64.wrap (i * (64 : Int)) + k)).toNat = true →
            L21_2 i (IntKind.u64.wrap (IntKind.u64.wrap (w * (2 : Int)) + (1 : Int))) k b0f b1f b2f res) ∧
          (b0f (IntKind.i64.wrap (IntKind.i64.wrap (i * (64 : Int)) + k)).toNat = false → L21_2 i (IntKind.u64.wrap (w * (2 : Int))) k b0f b1f b2f res)) ∧
  (decide (k ≥ (0 : Int)) = false →
    ((0 : Int) ≤ i ∧ i < (↑(4 : Nat) : Int)) ∧
      i.toNat < (4 : Nat) ∧ L21_0 (IntKind.i64.wrap (i + (1 : Int))) b0f b1f (fun (i_1 : Nat) => bif i_1.beq i.toNat then w else b2f i_1) res)) :
    L21_1 i w k b0f b1f b2f res :=
  rule Go.Am.Seat.tabOk 21 [] Go.Proofs.Try.f21 hf21 [1, 1, 0, 1, 0, 0, 1, 0, 0, 1, 0, 1, 0, 0] (s21_1 i w k b0f b1f b2f) (m21_1 i w k b0f b1f b2f) res [] 400
    (((Orc.cut (nat_lit 2) (s21_2 i (IntKind.u64.wrap (IntKind.u64.wrap (w * (2 : Int)) + (1 : Int))) k b0f b1f b2f)
          (m21_2 i (IntKind.u64.wrap (IntKind.u64.wrap (w * (2 : Int)) + (1 : Int))) k b0f b1f b2f)
          [((1000 : Nat), some (1000 : Nat)), ((1001 : Nat), some (1001 : Nat)), ((1002 : Nat), some (1002 : Nat))]).br
      (Orc.cut (nat_lit 2) (s21_2 i (IntKind.u64.wrap (w * (2 : Int))) k b0f b1f b2f) (m21_2 i (IntKind.u64.wrap (w * (2 : Int))) k b0f b1f b2f)
        [((1000 : Nat), some (1000 : Nat)), ((1001 : Nat), some (1001 : Nat)), ((1002 : Nat), some (1002 : Nat))])).br
  (Orc.cut (nat_lit 5) (s21_0 (IntKind.i64.wrap (i + (1 : Int))) b0f b1f fun (i_1 : Nat) => bif i_1.beq i.toNat then w else b2f i_1)
    (m21_0 (IntKind.i64.wrap (i + (1 : Int))) b0f b1f fun (i_1 : Nat) => bif i_1.beq i.toNat then w else b2f i_1)
    [((1000 : Nat), some (1000 : Nat)), ((1001 : Nat), some (1001 : Nat)), ((1002 : Nat), some (1002 : Nat))])) _ _ (by kernel_rfl) (by kernel_rfl) (show True ∧
  True ∧
    (decide (k ≥ (0 : Int)) = true →
        True ∧
          True ∧
            True ∧
              True ∧
                True ∧
                  True ∧
                    True ∧
                      ((0 : Int) ≤ IntKind.i64.wrap (IntKind.i64.wrap (i * (64 : Int)) + k) ∧
                          IntKind.i64.wrap (IntKind.i64.wrap (i * (64 : Int)) + k) < (↑(256 : Nat) : Int)) ∧
                        ((IntKind.i64.wrap (IntKind.i64.wrap (i * (64 : Int)) + k)).toNat * (1 : Nat) + (0 : Nat) =
                              plus (0 : Nat) ((IntKind.i64.wrap (IntKind.i64.wrap (i * (64 : Int)) + k)).toNat * (1 : Nat)) ∧
                            (IntKind.i64.wrap (IntKind.i64.wrap (i * (64 : Int)) + k)).toNat < (256 : Nat) ∧ True) ∧
                          (b0f (IntKind.i64.wrap (IntKind.i64.wrap (i * (64 : Int)) + k)).toNat = true →
                              True ∧
                                True ∧
                                  True ∧
                                    ((True ∧
                                          Sub (AV.pt (1000 : Nat) [] (0 : Nat)) (AV.pt (1000 : Nat) [] (0 : Nat)) ∧
                                            True ∧
                                              Sub (AV.pt (1001 : Nat) [] (0 : Nat)) (AV.pt (1001 : Nat) [] (0 : Nat)) ∧
                                                True ∧
                                                  Sub (AV.pt (1002 : Nat) [] (0 : Nat)) (AV.pt (1002 : Nat) [] (0 : Nat)) ∧
                                                    True ∧
                                                      Sub (AV.sc (Value.int IntKind.i64 i)) (AV.sc (Value.int IntKind.i64 i)) ∧
                                                        True ∧
                                                          Sub (AV.sc (Value.int IntKind.u64 (IntKind.u64.wrap (IntKind.u64.wrap (w * (2 : Int)) + (1 : Int)))))
                                                              (AV.sc
                                                                (Value.int IntKind.u64 (IntKind.u64.wrap (IntKind.u64.wrap (w * (2 : Int)) + (1 : Int))))) ∧
                                                            True ∧ Sub (AV.sc (Value.int IntKind.i64 k)) (AV.sc (Value.int IntKind.i64 k)) ∧ True) ∧
                                        True ∧
                                          SubB (AV.ar (256 : Nat) (1 : Nat) fun (i0 : Nat) => AV.sc (Value.bool (b0f i0)))
                                              (AV.ar (256 : Nat) (1 : Nat) fun (i0 : Nat) => AV.sc (Value.bool (b0f i0))) ∧
                                            True ∧
                                              SubB (AV.ar (4 : Nat) (1 : Nat) fun (i0 : Nat) => AV.sc (Value.int IntKind.u64 (b1f i0)))
                                                  (AV.ar (4 : Nat) (1 : Nat) fun (i0 : Nat) => AV.sc (Value.int IntKind.u64 (b1f i0))) ∧
                                                True ∧
                                                  SubB (AV.ar (4 : Nat) (1 : Nat) fun (i0 : Nat) => AV.sc (Value.int IntKind.u64 (b2f i0)))
                                                      (AV.ar (4 : Nat) (1 : Nat) fun (i0 : Nat) => AV.sc (Value.int IntKind.u64 (b2f i0))) ∧
                                                    True) ∧
                                      L21_2 i (IntKind.u64.wrap (IntKind.u64.wrap (w * (2 : Int)) + (1 : Int))) k b0f b1f b2f res) ∧
                            (b0f (IntKind.i64.wrap (IntKind.i64.wrap (i * (64 : Int)) + k)).toNat = false →
                              ((True ∧
                                    Sub (AV.pt (1000 : Nat) [] (0 : Nat)) (AV.pt (1000 : Nat) [] (0 : Nat)) ∧
                                      True ∧
                                        Sub (AV.pt (1001 : Nat) [] (0 : Nat)) (AV.pt (1001 : Nat) [] (0 : Nat)) ∧
                                          True ∧
                                            Sub (AV.pt (1002 : Nat) [] (0 : Nat)) (AV.pt (1002 : Nat) [] (0 : Nat)) ∧
                                              True ∧
                                                Sub (AV.sc (Value.int IntKind.i64 i)) (AV.sc (Value.int IntKind.i64 i)) ∧
                                                  True ∧
                                                    Sub (AV.sc (Value.int IntKind.u64 (IntKind.u64.wrap (w * (2 : Int)))))
                                                        (AV.sc (Value.int IntKind.u64 (IntKind.u64.wrap (w * (2 : Int))))) ∧
                                                      True ∧ Sub (AV.sc (Value.int IntKind.i64 k)) (AV.sc (Value.int IntKind.i64 k)) ∧ True) ∧
                                  True ∧
                                    SubB (AV.ar (256 : Nat) (1 : Nat) fun (i0 : Nat) => AV.sc (Value.bool (b0f i0)))
                                        (AV.ar (256 : Nat) (1 : Nat) fun (i0 : Nat) => AV.sc (Value.bool (b0f i0))) ∧
                                      True ∧
                                        SubB (AV.ar (4 : Nat) (1 : Nat) fun (i0 : Nat) => AV.sc (Value.int IntKind.u64 (b1f i0)))
                                            (AV.ar (4 : Nat) (1 : Nat) fun (i0 : Nat) => AV.sc (Value.int IntKind.u64 (b1f i0))) ∧
                                          True ∧
                                            SubB (AV.ar (4 : Nat) (1 : Nat) fun (i0 : Nat) => AV.sc (Value.int IntKind.u64 (b2f i0)))
                                                (AV.ar (4 : Nat) (1 : Nat) fun (i0 : Nat) => AV.sc (Value.int IntKind.u64 (b2f i0))) ∧
                                              True) ∧
                                L21_2 i (IntKind.u64.wrap (w * (2 : Int))) k b0f b1f b2f res)) ∧
      (decide (k ≥ (0 : Int)) = false →
        True ∧
          True ∧
            ((0 : Int) ≤ i ∧ i < (↑(4 : Nat) : Int)) ∧
              (i.toNat * (1 : Nat) + (0 : Nat) = plus (0 : Nat) (i.toNat * (1 : Nat)) ∧ (i.toNat < (4 : Nat) ∧ True) ∧ True) ∧
                True ∧
                  True ∧
                    True ∧
                      ((True ∧
                            Sub (AV.pt (1000 : Nat) [] (0 : Nat)) (AV.pt (1000 : Nat) [] (0 : Nat)) ∧
                              True ∧
                                Sub (AV.pt (1001 : Nat) [] (0 : Nat)) (AV.pt (1001 : Nat) [] (0 : Nat)) ∧
                                  True ∧
                                    Sub (AV.pt (1002 : Nat) [] (0 : Nat)) (AV.pt (1002 : Nat) [] (0 : Nat)) ∧
                                      True ∧
                                        Sub (AV.sc (Value.int IntKind.i64 (IntKind.i64.wrap (i + (1 : Int)))))
                                            (AV.sc (Value.int IntKind.i64 (IntKind.i64.wrap (i + (1 : Int))))) ∧
                                          True) ∧
                          True ∧
                            SubB (AV.ar (256 : Nat) (1 : Nat) fun (i0 : Nat) => AV.sc (Value.bool (b0f i0)))
                                (AV.ar (256 : Nat) (1 : Nat) fun (i0 : Nat) => AV.sc (Value.bool (b0f i0))) ∧
                              True ∧
                                SubB (AV.ar (4 : Nat) (1 : Nat) fun (i0 : Nat) => AV.sc (Value.int IntKind.u64 (b1f i0)))
                                    (AV.ar (4 : Nat) (1 : Nat) fun (i0 : Nat) => AV.sc (Value.int IntKind.u64 (b1f i0))) ∧
                                  True ∧
                                    SubB (AV.ar (4 : Nat) (1 : Nat) fun (i_1 : Nat) => AV.sc (Value.int IntKind.u64 (bif i_1.beq i.toNat then w else b2f i_1)))
                                        (AV.ar (4 : Nat) (1 : Nat) fun (i0 : Nat) => AV.sc (Value.int IntKind.u64 (bif i0.beq i.toNat then w else b2f i0))) ∧
                                      True) ∧
                        L21_0 (IntKind.i64.wrap (i + (1 : Int))) b0f b1f (fun (i_1 : Nat) => bif i_1.beq i.toNat then w else b2f i_1) res) from
    ⟨trivial, ⟨trivial, (And.elim (fun h2 k2 => ⟨(fun x3 => (fun h3 => ⟨trivial, ⟨trivial, ⟨trivial, ⟨trivial, ⟨trivial, ⟨trivial, ⟨trivial, (And.elim (fun h11 k11 => ⟨(And.elim (fun h12 k12 => ⟨h12, k12⟩) h11), (And.elim (fun h12 k12 => ⟨⟨rfl, ((fun h14 => ⟨h14, trivial⟩) h12)⟩, (And.elim (fun h13 k13 => ⟨(fun x14 => (fun h14 => ⟨trivial, ⟨trivial, ⟨trivial, ⟨⟨⟨trivial, ⟨Sub.refl _, ⟨trivial, ⟨Sub.refl _, ⟨trivial, ⟨Sub.refl _, ⟨trivial, ⟨Sub.refl _, ⟨trivial, ⟨Sub.refl _, ⟨trivial, ⟨Sub.refl _, trivial⟩⟩⟩⟩⟩⟩⟩⟩⟩⟩⟩⟩, ⟨trivial, ⟨SubB.refl _, ⟨trivial, ⟨SubB.refl _, ⟨trivial, ⟨SubB.refl _, trivial⟩⟩⟩⟩⟩⟩⟩, h14⟩⟩⟩⟩) (h13 x14)), (fun x14 => (fun h14 => ⟨⟨⟨trivial, ⟨Sub.refl _, ⟨trivial, ⟨Sub.refl _, ⟨trivial, ⟨Sub.refl _, ⟨trivial, ⟨Sub.refl _, ⟨trivial, ⟨Sub.refl _, ⟨trivial, ⟨Sub.refl _, trivial⟩⟩⟩⟩⟩⟩⟩⟩⟩⟩⟩⟩, ⟨trivial, ⟨SubB.refl _, ⟨trivial, ⟨SubB.refl _, ⟨trivial, ⟨SubB.refl _, trivial⟩⟩⟩⟩⟩⟩⟩, h14⟩) (k13 x14))⟩) k12)⟩) k11)⟩) h3)⟩⟩⟩⟩⟩⟩⟩) (h2 x3)), (fun x3 => (fun h3 => ⟨trivial, ⟨trivial, (And.elim (fun h6 k6 => ⟨(And.elim (fun h7 k7 => ⟨h7, k7⟩) h6), (And.elim (fun h7 k7 => ⟨⟨rfl, ((fun h9 => ⟨((fun h10 => ⟨h10, trivial⟩) h9), trivial⟩) h7)⟩, ⟨trivial, ⟨trivial, ⟨trivial, ⟨⟨⟨trivial, ⟨Sub.refl _, ⟨trivial, ⟨Sub.refl _, ⟨trivial, ⟨Sub.refl _, ⟨trivial, ⟨Sub.refl _, trivial⟩⟩⟩⟩⟩⟩⟩⟩, ⟨trivial, ⟨SubB.refl _, ⟨trivial, ⟨SubB.refl _, ⟨trivial, ⟨SubB.refl _, trivial⟩⟩⟩⟩⟩⟩⟩, k7⟩⟩⟩⟩⟩) k6)⟩) h3)⟩⟩) (k2 x3))⟩) h)⟩⟩)
theorem r21_2 (i : Int) (w : Int) (k : Int) (b0f : Nat → Bool) (b1f : Nat → Int) (b2f : Nat → Int) (res : AV)
    (h : L21_1 i w (IntKind.i64.wrap (k - (1 : Int))) b0f b1f b2f res) :
    L21_2 i w k b0f b1f b2f res :=
  rule Go.Am.Seat.tabOk 21 [] Go.Proofs.Try.f21 hf21 [1, 1, 0, 1, 0, 0, 1, 0, 0, 1, 0, 1, 0, 0, 1, 1] (s21_2 i w k b0f b1f b2f) (m21_2 i w k b0f b1f b2f) res [] 400
    (Orc.cut (nat_lit 2) (s21_1 i w (IntKind.i64.wrap (k - (1 : Int))) b0f b1f b2f) (m21_1 i w (IntKind.i64.wrap (k - (1 : Int))) b0f b1f b2f)
  [((1000 : Nat), some (1000 : Nat)), ((1001 : Nat), some (1001 : Nat)), ((1002 : Nat), some (1002 : Nat))]) _ _ (by kernel_rfl) (by kernel_rfl) (show True ∧
  True ∧
    True ∧
      ((True ∧
            Sub (AV.pt (1000 : Nat) [] (0 : Nat)) (AV.pt (1000 : Nat) [] (0 : Nat)) ∧
              True ∧
                Sub (AV.pt (1001 : Nat) [] (0 : Nat)) (AV.pt (1001 : Nat) [] (0 : Nat)) ∧
                  True ∧
                    Sub (AV.pt (1002 : Nat) [] (0 : Nat)) (AV.pt (1002 : Nat) [] (0 : Nat)) ∧
                      True ∧
                        Sub (AV.sc (Value.int IntKind.i64 i)) (AV.sc (Value.int IntKind.i64 i)) ∧
                          True ∧
                            Sub (AV.sc (Value.int IntKind.u64 w)) (AV.sc (Value.int IntKind.u64 w)) ∧
                              True ∧
                                Sub (AV.sc (Value.int IntKind.i64 (IntKind.i64.wrap (k - (1 : Int)))))
                                    (AV.sc (Value.int IntKind.i64 (IntKind.i64.wrap (k - (1 : Int))))) ∧
                                  True) ∧
          True ∧
            SubB (AV.ar (256 : Nat) (1 : Nat) fun (i0 : Nat) => AV.sc (Value.bool (b0f i0)))
                (AV.ar (256 : Nat) (1 : Nat) fun (i0 : Nat) => AV.sc (Value.bool (b0f i0))) ∧
              True ∧
                SubB (AV.ar (4 : Nat) (1 : Nat) fun (i0 : Nat) => AV.sc (Value.int IntKind.u64 (b1f i0)))
                    (AV.ar (4 : Nat) (1 : Nat) fun (i0 : Nat) => AV.sc (Value.int IntKind.u64 (b1f i0))) ∧
                  True ∧
                    SubB (AV.ar (4 : Nat) (1 : Nat) fun (i0 : Nat) => AV.sc (Value.int IntKind.u64 (b2f i0)))
                        (AV.ar (4 : Nat) (1 : Nat) fun (i0 : Nat) => AV.sc (Value.int IntKind.u64 (b2f i0))) ∧
                      True) ∧
        L21_1 i w (IntKind.i64.wrap (k - (1 : Int))) b0f b1f b2f res from
    ⟨trivial, ⟨trivial, ⟨trivial, ⟨⟨⟨trivial, ⟨Sub.refl _, ⟨trivial, ⟨Sub.refl _, ⟨trivial, ⟨Sub.refl _, ⟨trivial, ⟨Sub.refl _, ⟨trivial, ⟨Sub.refl _, ⟨trivial, ⟨Sub.refl _, trivial⟩⟩⟩⟩⟩⟩⟩⟩⟩⟩⟩⟩, ⟨trivial, ⟨SubB.refl _, ⟨trivial, ⟨SubB.refl _, ⟨trivial, ⟨SubB.refl _, trivial⟩⟩⟩⟩⟩⟩⟩, h⟩⟩⟩⟩)
theorem hf22 : Go.Proofs.Try.prog.funcs[22]? = some Go.Proofs.Try.f22 := by kernel_rfl
abbrev s22_e (a : Int) (b : Int) : List (Nat × AV) := [(0, (.sc (.int .u8 a))), (1, (.sc (.int .u8 b)))]
abbrev m22_e (a : Int) (b : Int) : List (Nat × Nat × AV) := []
def L22_e (a : Int) (b : Int) (res : AV) : Prop := Goes ⟨Go.Proofs.Try.prog, 22, [], res, []⟩ (place Go.Proofs.Try.f22 []) (s22_e a b) (m22_e a b)
theorem a22_e (a : Int) (b : Int) (res : AV) (h : (∀ slot, fact (look .undef (s22_e a b) slot)) → L22_e a b res) : L22_e a b res :=
  assumeRule 22 [] Go.Proofs.Try.f22 hf22 [] (s22_e a b) (m22_e a b) res [] _ (by kernel_rfl) h
abbrev s22_0 (b : Int) (c : Int) (b0f : Nat → Int) (b1f : Nat → Int) : List (Nat × AV) := [(1, (.sc (.int .u8 b))), (4, (.pt 1000 [] 0)), (5, (.pt 1001 [] 0)), (6, (.sc (.int .i64 c)))]
abbrev m22_0 (b : Int) (c : Int) (b0f : Nat → Int) (b1f : Nat → Int) : List (Nat × Nat × AV) := [(1000, 24, (.ar 4 1 (fun i0 => (.sc (.int .u64 (b0f i0)))))), (1001, 24, (.ar 4 1 (fun i0 => (.sc (.int .u64 (b1f i0))))))]
def L22_0 (b : Int) (c : Int) (b0f : Nat → Int) (b1f : Nat → Int) (res : AV) : Prop := Goes ⟨Go.Proofs.Try.prog, 22, [], res, []⟩ (place Go.Proofs.Try.f22 [1, 1, 0, 1, 0, 0]) (s22_0 b c b0f b1f) (m22_0 b c b0f b1f)
theorem a22_0 (b : Int) (c : Int) (b0f : Nat → Int) (b1f : Nat → Int) (res : AV) (h : (∀ slot, fact (look .undef (s22_0 b c b0f b1f) slot)) → L22_0 b c b0f b1f res) : L22_0 b c b0f b1f res :=
  assumeRule 22 [] Go.Proofs.Try.f22 hf22 [1, 1, 0, 1, 0, 0] (s22_0 b c b0f b1f) (m22_0 b c b0f b1f) res [] _ (by kernel_rfl) h
theorem o22 (a : Int) (b : Int) (res : AV) (hnew : newOnly res) (h : L22_e a b res) : Ok Go.Proofs.Try.prog 22 [(.sc (.int .u8 a)), (.sc (.int .u8 b))] [] res [] :=
  okRule2 22 Go.Proofs.Try.f22 hf22 [(.sc (.int .u8 a)), (.sc (.int .u8 b))] [] res [] [] rfl (by kernel_rfl) (by kernel_rfl) (by kernel_rfl) ⟨hnew, by simp⟩ (L22_e a b res) (by kernel_rfl) h
theorem r22_e (a : Int) (b : Int) (res : AV)
    (h : L22_0 b (IntKind.i64.wrap a) (fun (x : Nat) => (0 : Int)) (fun (x : Nat) => (0 : Int)) res) :
    L22_e a b res :=
  rule Go.Am.Seat.tabOk 22 [] Go.Proofs.Try.f22 hf22 [] (s22_e a b) (m22_e a b) res [] 400
    (Orc.cut (nat_lit 9) (s22_0 b (IntKind.i64.wrap a) (fun (x : Nat) => (0 : Int)) fun (x : Nat) => (0 : Int))
  (m22_0 b (IntKind.i64.wrap a) (fun (x : Nat) => (0 : Int)) fun (x : Nat) => (0 : Int)) [((1000 : Nat), some (4 : Nat)), ((1001 : Nat), some (5 : Nat))]) _ _ (by kernel_rfl) (by kernel_rfl) (show True ∧
  True ∧
    True ∧
      True ∧
        True ∧
          ((True ∧
                Sub (AV.sc (Value.int IntKind.u8 b)) (AV.sc (Value.int IntKind.u8 b)) ∧
                  True ∧
                    Sub (AV.pt (1000 : Nat) [] (0 : Nat)) (AV.pt (1000 : Nat) [] (0 : Nat)) ∧
                      True ∧
                        Sub (AV.pt (1001 : Nat) [] (0 : Nat)) (AV.pt (1001 : Nat) [] (0 : Nat)) ∧
                          True ∧ Sub (AV.sc (Value.int IntKind.i64 (IntKind.i64.wrap a))) (AV.sc (Value.int IntKind.i64 (IntKind.i64.wrap a))) ∧ True) ∧
              True ∧
                SubB (AV.ar (4 : Nat) (1 : Nat) fun (x : Nat) => AV.sc (Value.int IntKind.u64 (0 : Int)))
                    (AV.ar (4 : Nat) (1 : Nat) fun (i0 : Nat) => AV.sc (Value.int IntKind.u64 (0 : Int))) ∧
                  True ∧
                    SubB (AV.ar (4 : Nat) (1 : Nat) fun (x : Nat) => AV.sc (Value.int IntKind.u64 (0 : Int)))
                        (AV.ar (4 : Nat) (1 : Nat) fun (i0 : Nat) => AV.sc (Value.int IntKind.u64 (0 : Int))) ∧
                      True) ∧
            L22_0 b (IntKind.i64.wrap a) (fun (x : Nat) => (0 : Int)) (fun (x : Nat) => (0 : Int)) res from
    ⟨trivial, ⟨trivial, ⟨trivial, ⟨trivial, ⟨trivial, ⟨⟨⟨trivial, ⟨Sub.refl _, ⟨trivial, ⟨Sub.refl _, ⟨trivial, ⟨Sub.refl _, ⟨trivial, ⟨Sub.refl _, trivial⟩⟩⟩⟩⟩⟩⟩⟩, ⟨trivial, ⟨SubB.refl _, ⟨trivial, ⟨SubB.refl _, trivial⟩⟩⟩⟩⟩, h⟩⟩⟩⟩⟩⟩)
theorem r22_0 (b : Int) (c : Int) (b0f : Nat → Int) (b1f : Nat → Int) (res : AV)
    (h : (decide (c ≤ IntKind.i64.wrap b) = true →
    ∃ (r : Nat → Int),
      Ok Proofs.Try.prog (30 : Nat)
          [AV.ar (4 : Nat) (1 : Nat) fun (i : Nat) => AV.sc (Value.int IntKind.u64 (b1f i)), AV.sc (Value.int IntKind.u8 (IntKind.u8.wrap c))] []
          (AV.ar (4 : Nat) (1 : Nat) fun (i0 : Nat) => AV.sc (Value.int IntKind.u64 (r i0))) [] ∧
        L22_0 b (IntKind.i64.wrap (c + (1 : Int))) b0f r res) ∧
  (decide (c ≤ IntKind.i64.wrap b) = false → Sub (AV.ar (4 : Nat) (1 : Nat) fun (i0 : Nat) => AV.sc (Value.int IntKind.u64 (b1f i0))) res)) :
    L22_0 b c b0f b1f res :=
  rule Go.Am.Seat.tabOk 22 [] Go.Proofs.Try.f22 hf22 [1, 1, 0, 1, 0, 0] (s22_0 b c b0f b1f) (m22_0 b c b0f b1f) res [] 400
    ((Orc.call [] [] (fun (r30 : Nat → Int) => AV.ar (4 : Nat) (1 : Nat) fun (i0 : Nat) => AV.sc (Value.int IntKind.u64 (r30 i0))) (fun (r30 : Nat → Int) => [])
      fun (r30 : Nat → Int) =>
      Orc.cut (nat_lit 3) (s22_0 b (IntKind.i64.wrap (c + (1 : Int))) b0f r30) (m22_0 b (IntKind.i64.wrap (c + (1 : Int))) b0f r30)
        [((1000 : Nat), some (1000 : Nat)), ((1001 : Nat), some (1001 : Nat))]).br
  (Orc.fin (AV.ar (4 : Nat) (1 : Nat) fun (i0 : Nat) => AV.sc (Value.int IntKind.u64 (b1f i0))) [] [])) _ _ (by kernel_rfl) (by kernel_rfl) (show True ∧
  True ∧
    True ∧
      True ∧
        (decide (c ≤ IntKind.i64.wrap b) = true →
            ((0 : Nat) = (0 : Nat) ∧ True) ∧
              True ∧
                True ∧
                  ∃ (r : Nat → Int),
                    ((True ∧ True ∧ True) ∧
                        True ∧
                          Ok Proofs.Try.prog (30 : Nat)
                            [AV.ar (4 : Nat) (1 : Nat) fun (i : Nat) => AV.sc (Value.int IntKind.u64 (b1f i)), AV.sc (Value.int IntKind.u8 (IntKind.u8.wrap c))]
                            [] (AV.ar (4 : Nat) (1 : Nat) fun (i0 : Nat) => AV.sc (Value.int IntKind.u64 (r i0))) []) ∧
                      ((0 : Nat) = (0 : Nat) ∧ True) ∧
                        True ∧
                          True ∧
                            True ∧
                              ((True ∧
                                    Sub (AV.sc (Value.int IntKind.u8 b)) (AV.sc (Value.int IntKind.u8 b)) ∧
                                      True ∧
                                        Sub (AV.pt (1000 : Nat) [] (0 : Nat)) (AV.pt (1000 : Nat) [] (0 : Nat)) ∧
                                          True ∧
                                            Sub (AV.pt (1001 : Nat) [] (0 : Nat)) (AV.pt (1001 : Nat) [] (0 : Nat)) ∧
                                              True ∧
                                                Sub (AV.sc (Value.int IntKind.i64 (IntKind.i64.wrap (c + (1 : Int)))))
                                                    (AV.sc (Value.int IntKind.i64 (IntKind.i64.wrap (c + (1 : Int))))) ∧
                                                  True) ∧
                                  True ∧
                                    SubB (AV.ar (4 : Nat) (1 : Nat) fun (i0 : Nat) => AV.sc (Value.int IntKind.u64 (b0f i0)))
                                        (AV.ar (4 : Nat) (1 : Nat) fun (i0 : Nat) => AV.sc (Value.int IntKind.u64 (b0f i0))) ∧
                                      True ∧
                                        SubB (AV.ar (4 : Nat) (1 : Nat) fun (i0 : Nat) => AV.sc (Value.int IntKind.u64 (r i0)))
                                            (AV.ar (4 : Nat) (1 : Nat) fun (i0 : Nat) => AV.sc (Value.int IntKind.u64 (r i0))) ∧
                                          True) ∧
                                L22_0 b (IntKind.i64.wrap (c + (1 : Int))) b0f r res) ∧
          (decide (c ≤ IntKind.i64.wrap b) = false →
            ((0 : Nat) = (0 : Nat) ∧ True) ∧
              ((0 : Nat) = (0 : Nat) ∧ True) ∧
                ((0 : Nat) = (0 : Nat) ∧ True) ∧
                  ((True ∧
                        Sub (AV.ar (4 : Nat) (1 : Nat) fun (i0 : Nat) => AV.sc (Value.int IntKind.u64 (b1f i0)))
                            (AV.ar (4 : Nat) (1 : Nat) fun (i0 : Nat) => AV.sc (Value.int IntKind.u64 (b1f i0))) ∧
                          True) ∧
                      True) ∧
                    Sub (AV.ar (4 : Nat) (1 : Nat) fun (i0 : Nat) => AV.sc (Value.int IntKind.u64 (b1f i0))) res ∧ SubOut [] []) from
    ⟨trivial, ⟨trivial, ⟨trivial, ⟨trivial, (And.elim (fun h4 k4 => ⟨(fun x5 => (fun h5 => ⟨⟨rfl, trivial⟩, ⟨trivial, ⟨trivial, (Exists.elim h5 fun x9 h9 => ⟨x9, (And.elim (fun h10 k10 => ⟨⟨⟨trivial, ⟨trivial, trivial⟩⟩, ⟨trivial, h10⟩⟩, ⟨⟨rfl, trivial⟩, ⟨trivial, ⟨trivial, ⟨trivial, ⟨⟨⟨trivial, ⟨Sub.refl _, ⟨trivial, ⟨Sub.refl _, ⟨trivial, ⟨Sub.refl _, ⟨trivial, ⟨Sub.refl _, trivial⟩⟩⟩⟩⟩⟩⟩⟩, ⟨trivial, ⟨SubB.refl _, ⟨trivial, ⟨SubB.refl _, trivial⟩⟩⟩⟩⟩, k10⟩⟩⟩⟩⟩⟩) h9)⟩)⟩⟩⟩) (h4 x5)), (fun x5 => (fun h5 => ⟨⟨rfl, trivial⟩, ⟨⟨rfl, trivial⟩, ⟨⟨rfl, trivial⟩, ⟨⟨⟨trivial, ⟨Sub.refl _, trivial⟩⟩, trivial⟩, ((fun h10 => ⟨h10, trivial⟩) h5)⟩⟩⟩⟩) (k4 x5))⟩) h)⟩⟩⟩⟩)
theorem hf23 : Go.Proofs.Try.prog.funcs[23]? = some Go.Proofs.Try.f23 := by kernel_rfl
abbrev s23_e (sf : Nat → Int) (tf : Nat → Int) : List (Nat × AV) := [(0, (.ar 4 1 (fun i0 => (.sc (.int .u64 (sf i0)))))), (1, (.ar 4 1 (fun i0 => (.sc (.int .u64 (tf i0))))))]
abbrev m23_e (sf : Nat → Int) (tf : Nat → Int) : List (Nat × Nat × AV) := []
def L23_e (sf : Nat → Int) (tf : Nat → Int) (res : AV) : Prop := Goes ⟨Go.Proofs.Try.prog, 23, [], res, []⟩ (place Go.Proofs.Try.f23 []) (s23_e sf tf) (m23_e sf tf)
theorem a23_e (sf : Nat → Int) (tf : Nat → Int) (res : AV) (h : (∀ slot, fact (look .undef (s23_e sf tf) slot)) → L23_e sf tf res) : L23_e sf tf res :=
  assumeRule 23 [] Go.Proofs.Try.f23 hf23 [] (s23_e sf tf) (m23_e sf tf) res [] _ (by kernel_rfl) h
abbrev s23_0 (t6 : Int) (b0f : Nat → Int) (b1f : Nat → Int) (b2f : Nat → Int) : List (Nat × AV) := [(2, (.pt 1000 [] 0)), (3, (.pt 1001 [] 0)), (4, (.pt 1002 [] 0)), (6, (.sc (.int .i64 t6)))]
abbrev m23_0 (t6 : Int) (b0f : Nat → Int) (b1f : Nat → Int) (b2f : Nat → Int) : List (Nat × Nat × AV) := [(1000, 24, (.ar 4 1 (fun i0 => (.sc (.int .u64 (b0f i0)))))), (1001, 24, (.ar 4 1 (fun i0 => (.sc (.int .u64 (b1f i0)))))), (1002, 24, (.ar 4 1 (fun i0 => (.sc (.int .u64 (b2f i0))))))]
def L23_0 (t6 : Int) (b0f : Nat → Int) (b1f : Nat → Int) (b2f : Nat → Int) (res : AV) : Prop := Goes ⟨Go.Proofs.Try.prog, 23, [], res, []⟩ (place Go.Proofs.Try.f23 [1, 0, 1, 0, 0]) (s23_0 t6 b0f b1f b2f) (m23_0 t6 b0f b1f b2f)
theorem a23_0 (t6 : Int) (b0f : Nat → Int) (b1f : Nat → Int) (b2f : Nat → Int) (res : AV) (h : (∀ slot, fact (look .undef (s23_0 t6 b0f b1f b2f) slot)) → L23_0 t6 b0f b1f b2f res) : L23_0 t6 b0f b1f b2f res :=
  assumeRule 23 [] Go.Proofs.Try.f23 hf23 [1, 0, 1, 0, 0] (s23_0 t6 b0f b1f b2f) (m23_0 t6 b0f b1f b2f) res [] _ (by kernel_rfl) h
theorem o23 (sf : Nat → Int) (tf : Nat → Int) (res : AV) (hnew : newOnly res) (h : L23_e sf tf res) : Ok Go.Proofs.Try.prog 23 [(.ar 4 1 (fun i0 => (.sc (.int .u64 (sf i0))))), (.ar 4 1 (fun i0 => (.sc (.int .u64 (tf i0)))))] [] res [] :=
  okRule2 23 Go.Proofs.Try.f23 hf23 [(.ar 4 1 (fun i0 => (.sc (.int .u64 (sf i0))))), (.ar 4 1 (fun i0 => (.sc (.int .u64 (tf i0)))))] [] res [] [] rfl (by kernel_rfl) (by kernel_rfl) (by kernel_rfl) ⟨hnew, by simp⟩ (L23_e sf tf res) (by kernel_rfl) h
theorem r23_e (sf : Nat → Int) (tf : Nat → Int) (res : AV)
    (h : L23_0 (0 : Int) sf tf (fun (x : Nat) => (0 : Int)) res) :
    L23_e sf tf res :=
  rule Go.Am.Seat.tabOk 23 [] Go.Proofs.Try.f23 hf23 [] (s23_e sf tf) (m23_e sf tf) res [] 400
    (Orc.cut (nat_lit 7) (s23_0 (0 : Int) sf tf fun (x : Nat) => (0 : Int)) (m23_0 (0 : Int) sf tf fun (x : Nat) => (0 : Int))
  [((1000 : Nat), some (2 : Nat)), ((1001 : Nat), some (3 : Nat)), ((1002 : Nat), some (4 : Nat))]) _ _ (by kernel_rfl) (by kernel_rfl) (show True ∧
  True ∧
    True ∧
      True ∧
        ((True ∧
              Sub (AV.pt (1000 : Nat) [] (0 : Nat)) (AV.pt (1000 : Nat) [] (0 : Nat)) ∧
                True ∧
                  Sub (AV.pt (1001 : Nat) [] (0 : Nat)) (AV.pt (1001 : Nat) [] (0 : Nat)) ∧
                    True ∧
                      Sub (AV.pt (1002 : Nat) [] (0 : Nat)) (AV.pt (1002 : Nat) [] (0 : Nat)) ∧
                        True ∧ Sub (AV.sc (Value.int IntKind.i64 (0 : Int))) (AV.sc (Value.int IntKind.i64 (0 : Int))) ∧ True) ∧
            True ∧
              SubB (AV.ar (4 : Nat) (1 : Nat) fun (i0 : Nat) => AV.sc (Value.int IntKind.u64 (sf i0)))
                  (AV.ar (4 : Nat) (1 : Nat) fun (i0 : Nat) => AV.sc (Value.int IntKind.u64 (sf i0))) ∧
                True ∧
                  SubB (AV.ar (4 : Nat) (1 : Nat) fun (i0 : Nat) => AV.sc (Value.int IntKind.u64 (tf i0)))
                      (AV.ar (4 : Nat) (1 : Nat) fun (i0 : Nat) => AV.sc (Value.int IntKind.u64 (tf i0))) ∧
                    True ∧
                      SubB (AV.ar (4 : Nat) (1 : Nat) fun (x : Nat) => AV.sc (Value.int IntKind.u64 (0 : Int)))
                          (AV.ar (4 : Nat) (1 : Nat) fun (i0 : Nat) => AV.sc (Value.int IntKind.u64 (0 : Int))) ∧
                        True) ∧
          L23_0 (0 : Int) sf tf (fun (x : Nat) => (0 : Int)) res from
    ⟨trivial, ⟨trivial, ⟨trivial, ⟨trivial, ⟨⟨⟨trivial, ⟨Sub.refl _, ⟨trivial, ⟨Sub.refl _, ⟨trivial, ⟨Sub.refl _, ⟨trivial, ⟨Sub.refl _, trivial⟩⟩⟩⟩⟩⟩⟩⟩, ⟨trivial, ⟨SubB.refl _, ⟨trivial, ⟨SubB.refl _, ⟨trivial, ⟨SubB.refl _, trivial⟩⟩⟩⟩⟩⟩⟩, h⟩⟩⟩⟩⟩)
theorem r23_0 (t6 : Int) (b0f : Nat → Int) (b1f : Nat → Int) (b2f : Nat → Int) (res : AV)
    (h : (decide (t6 < (4 : Int)) = true →
    ((0 : Int) ≤ t6 ∧ t6 < (↑(4 : Nat) : Int)) ∧
      t6.toNat < (4 : Nat) ∧
        L23_0 (IntKind.i64.wrap (t6 + (1 : Int)))
          (fun (i : Nat) =>
            bif i.beq t6.toNat then
              IntKind.u64.wrap (↑(BitVec.ofInt IntKind.u64.bits (b0f t6.toNat) ||| BitVec.ofInt IntKind.u64.bits (b1f t6.toNat)).toNat : Int)
            else b0f i)
          b1f b2f res) ∧
  (decide (t6 < (4 : Int)) = false → Sub (AV.ar (4 : Nat) (1 : Nat) fun (i0 : Nat) => AV.sc (Value.int IntKind.u64 (b0f i0))) res)) :
    L23_0 t6 b0f b1f b2f res :=
  rule Go.Am.Seat.tabOk 23 [] Go.Proofs.Try.f23 hf23 [1, 0, 1, 0, 0] (s23_0 t6 b0f b1f b2f) (m23_0 t6 b0f b1f b2f) res [] 400
    ((Orc.cut (nat_lit 9)
      (s23_0 (IntKind.i64.wrap (t6 + (1 : Int)))
        (fun (i : Nat) =>
          bif i.beq t6.toNat then
            IntKind.u64.wrap (↑(BitVec.ofInt IntKind.u64.bits (b0f t6.toNat) ||| BitVec.ofInt IntKind.u64.bits (b1f t6.toNat)).toNat : Int)
          else b0f i)
        b1f b2f)
      (m23_0 (IntKind.i64.wrap (t6 + (1 : Int)))
        (fun (i : Nat) =>
          bif i.beq t6.toNat then
            IntKind.u64.wrap (↑(BitVec.ofInt IntKind.u64.bits (b0f t6.toNat) ||| BitVec.ofInt IntKind.u64.bits (b1f t6.toNat)).toNat : Int)
          else b0f i)
        b1f b2f)
      [((1000 : Nat), some (1000 : Nat)), ((1001 : Nat), some (1001 : Nat)), ((1002 : Nat), some (1002 : Nat))]).br
  (Orc.fin (AV.ar (4 : Nat) (1 : Nat) fun (i0 : Nat) => AV.sc (Value.int IntKind.u64 (b0f i0))) [] [])) _ _ (by kernel_rfl) (by kernel_rfl) (show True ∧
  (decide (t6 < (4 : Int)) = true →
      True ∧
        True ∧
          True ∧
            ((0 : Int) ≤ t6 ∧ t6 < (↑(4 : Nat) : Int)) ∧
              (t6.toNat * (1 : Nat) + (0 : Nat) = plus (0 : Nat) (t6.toNat * (1 : Nat)) ∧ t6.toNat < (4 : Nat) ∧ True) ∧
                True ∧
                  ((0 : Int) ≤ t6 ∧ t6 < (↑(4 : Nat) : Int)) ∧
                    (t6.toNat * (1 : Nat) + (0 : Nat) = plus (0 : Nat) (t6.toNat * (1 : Nat)) ∧ t6.toNat < (4 : Nat) ∧ True) ∧
                      True ∧
                        ((0 : Int) ≤ t6 ∧ t6 < (↑(4 : Nat) : Int)) ∧
                          (t6.toNat * (1 : Nat) + (0 : Nat) = plus (0 : Nat) (t6.toNat * (1 : Nat)) ∧ (t6.toNat < (4 : Nat) ∧ True) ∧ True) ∧
                            True ∧
                              True ∧
                                ((True ∧
                                      Sub (AV.pt (1000 : Nat) [] (0 : Nat)) (AV.pt (1000 : Nat) [] (0 : Nat)) ∧
                                        True ∧
                                          Sub (AV.pt (1001 : Nat) [] (0 : Nat)) (AV.pt (1001 : Nat) [] (0 : Nat)) ∧
                                            True ∧
                                              Sub (AV.pt (1002 : Nat) [] (0 : Nat)) (AV.pt (1002 : Nat) [] (0 : Nat)) ∧
                                                True ∧
                                                  Sub (AV.sc (Value.int IntKind.i64 (IntKind.i64.wrap (t6 + (1 : Int)))))
                                                      (AV.sc (Value.int IntKind.i64 (IntKind.i64.wrap (t6 + (1 : Int))))) ∧
                                                    True) ∧
                                    True ∧
                                      SubB
                                          (AV.ar (4 : Nat) (1 : Nat) fun (i : Nat) =>
                                            AV.sc
                                              (Value.int IntKind.u64
                                                (bif i.beq t6.toNat then
                                                  IntKind.u64.wrap
                                                    (↑(BitVec.ofInt IntKind.u64.bits (b0f t6.toNat) ||| BitVec.ofInt IntKind.u64.bits (b1f t6.toNat)).toNat :
                                                      Int)
                                                else b0f i)))
                                          (AV.ar (4 : Nat) (1 : Nat) fun (i0 : Nat) =>
                                            AV.sc
                                              (Value.int IntKind.u64
                                                (bif i0.beq t6.toNat then
                                                  IntKind.u64.wrap
                                                    (↑(BitVec.ofInt IntKind.u64.bits (b0f t6.toNat) ||| BitVec.ofInt IntKind.u64.bits (b1f t6.toNat)).toNat :
                                                      Int)
                                                else b0f i0))) ∧
                                        True ∧
                                          SubB (AV.ar (4 : Nat) (1 : Nat) fun (i0 : Nat) => AV.sc (Value.int IntKind.u64 (b1f i0)))
                                              (AV.ar (4 : Nat) (1 : Nat) fun (i0 : Nat) => AV.sc (Value.int IntKind.u64 (b1f i0))) ∧
                                            True ∧
                                              SubB (AV.ar (4 : Nat) (1 : Nat) fun (i0 : Nat) => AV.sc (Value.int IntKind.u64 (b2f i0)))
                                                  (AV.ar (4 : Nat) (1 : Nat) fun (i0 : Nat) => AV.sc (Value.int IntKind.u64 (b2f i0))) ∧
                                                True) ∧
                                  L23_0 (IntKind.i64.wrap (t6 + (1 : Int)))
                                    (fun (i : Nat) =>
                                      bif i.beq t6.toNat then
                                        IntKind.u64.wrap
                                          (↑(BitVec.ofInt IntKind.u64.bits (b0f t6.toNat) ||| BitVec.ofInt IntKind.u64.bits (b1f t6.toNat)).toNat : Int)
                                      else b0f i)
                                    b1f b2f res) ∧
    (decide (t6 < (4 : Int)) = false →
      ((0 : Nat) = (0 : Nat) ∧ True) ∧
        ((0 : Nat) = (0 : Nat) ∧ True) ∧
          ((0 : Nat) = (0 : Nat) ∧ True) ∧
            ((True ∧
                  Sub (AV.ar (4 : Nat) (1 : Nat) fun (i0 : Nat) => AV.sc (Value.int IntKind.u64 (b0f i0)))
                      (AV.ar (4 : Nat) (1 : Nat) fun (i0 : Nat) => AV.sc (Value.int IntKind.u64 (b0f i0))) ∧
                    True) ∧
                True) ∧
              Sub (AV.ar (4 : Nat) (1 : Nat) fun (i0 : Nat) => AV.sc (Value.int IntKind.u64 (b0f i0))) res ∧ SubOut [] []) from
    ⟨trivial, (And.elim (fun h1 k1 => ⟨(fun x2 => (fun h2 => ⟨trivial, ⟨trivial, ⟨trivial, (And.elim (fun h6 k6 => ⟨(And.elim (fun h7 k7 => ⟨h7, k7⟩) h6), (And.elim (fun h7 k7 => ⟨⟨rfl, ((fun h9 => ⟨h9, trivial⟩) h7)⟩, ⟨trivial, ⟨(And.elim (fun h10 k10 => ⟨h10, k10⟩) h6), ⟨⟨rfl, ⟨h7, trivial⟩⟩, ⟨trivial, ⟨(And.elim (fun h13 k13 => ⟨h13, k13⟩) h6), ⟨⟨rfl, ⟨⟨h7, trivial⟩, trivial⟩⟩, ⟨trivial, ⟨trivial, ⟨⟨⟨trivial, ⟨Sub.refl _, ⟨trivial, ⟨Sub.refl _, ⟨trivial, ⟨Sub.refl _, ⟨trivial, ⟨Sub.refl _, trivial⟩⟩⟩⟩⟩⟩⟩⟩, ⟨trivial, ⟨SubB.refl _, ⟨trivial, ⟨SubB.refl _, ⟨trivial, ⟨SubB.refl _, trivial⟩⟩⟩⟩⟩⟩⟩, k7⟩⟩⟩⟩⟩⟩⟩⟩⟩⟩) k6)⟩) h2)⟩⟩⟩) (h1 x2)), (fun x2 => (fun h2 => ⟨⟨rfl, trivial⟩, ⟨⟨rfl, trivial⟩, ⟨⟨rfl, trivial⟩, ⟨⟨⟨trivial, ⟨Sub.refl _, trivial⟩⟩, trivial⟩, ((fun h7 => ⟨h7, trivial⟩) h2)⟩⟩⟩⟩) (k1 x2))⟩) h)⟩)
theorem hf24 : Go.Proofs.Try.prog.funcs[24]? = some Go.Proofs.Try.f24 := by kernel_rfl
abbrev s24_e (sf : Nat → Int) (tf : Nat → Int) : List (Nat × AV) := [(0, (.ar 4 1 (fun i0 => (.sc (.int .u64 (sf i0)))))), (1, (.ar 4 1 (fun i0 => (.sc (.int .u64 (tf i0))))))]
abbrev m24_e (sf : Nat → Int) (tf : Nat → Int) : List (Nat × Nat × AV) := []
def L24_e (sf : Nat → Int) (tf : Nat → Int) (res : AV) : Prop := Goes ⟨Go.Proofs.Try.prog, 24, [], res, []⟩ (place Go.Proofs.Try.f24 []) (s24_e sf tf) (m24_e sf tf)
theorem a24_e (sf : Nat → Int) (tf : Nat → Int) (res : AV) (h : (∀ slot, fact (look .undef (s24_e sf tf) slot)) → L24_e sf tf res) : L24_e sf tf res :=
  assumeRule 24 [] Go.Proofs.Try.f24 hf24 [] (s24_e sf tf) (m24_e sf tf) res [] _ (by kernel_rfl) h
abbrev s24_0 (t6 : Int) (b0f : Nat → Int) (b1f : Nat → Int) (b2f : Nat → Int) : List (Nat × AV) := [(2, (.pt 1000 [] 0)), (3, (.pt 1001 [] 0)), (4, (.pt 1002 [] 0)), (6, (.sc (.int .i64 t6)))]
abbrev m24_0 (t6 : Int) (b0f : Nat → Int) (b1f : Nat → Int) (b2f : Nat → Int) : List (Nat × Nat × AV) := [(1000, 24, (.ar 4 1 (fun i0 => (.sc (.int .u64 (b0f i0)))))), (1001, 24, (.ar 4 1 (fun i0 => (.sc (.int .u64 (b1f i0)))))), (1002, 24, (.ar 4 1 (fun i0 => (.sc (.int .u64 (b2f i0))))))]
def L24_0 (t6 : Int) (b0f : Nat → Int) (b1f : Nat → Int) (b2f : Nat → Int) (res : AV) : Prop := Goes ⟨Go.Proofs.Try.prog, 24, [], res, []⟩ (place Go.Proofs.Try.f24 [1, 0, 1, 0, 0]) (s24_0 t6 b0f b1f b2f) (m24_0 t6 b0f b1f b2f)
theorem a24_0 (t6 : Int) (b0f : Nat → Int) (b1f : Nat → Int) (b2f : Nat → Int) (res : AV) (h : (∀ slot, fact (look .undef (s24_0 t6 b0f b1f b2f) slot)) → L24_0 t6 b0f b1f b2f res) : L24_0 t6 b0f b1f b2f res :=
  assumeRule 24 [] Go.Proofs.Try.f24 hf24 [1, 0, 1, 0, 0] (s24_0 t6 b0f b1f b2f) (m24_0 t6 b0f b1f b2f) res [] _ (by kernel_rfl) h
theorem o24 (sf : Nat → Int) (tf : Nat → Int) (res : AV) (hnew : newOnly res) (h : L24_e sf tf res) : Ok Go.Proofs.Try.prog 24 [(.ar 4 1 (fun i0 => (.sc (.int .u64 (sf i0))))), (.ar 4 1 (fun i0 => (.sc (.int .u64 (tf i0)))))] [] res [] :=
  okRule2 24 Go.Proofs.Try.f24 hf24 [(.ar 4 1 (fun i0 => (.sc (.int .u64 (sf i0))))), (.ar 4 1 (fun i0 => (.sc (.int .u64 (tf i0)))))] [] res [] [] rfl (by kernel_rfl) (by kernel_rfl) (by kernel_rfl) ⟨hnew, by simp⟩ (L24_e sf tf res) (by kernel_rfl) h
theorem r24_e (sf : Nat → Int) (tf : Nat → Int) (res : AV)
    (h : L24_0 (0 : Int) sf tf (fun (x : Nat) => (0 : Int)) res) :
    L24_e sf tf res :=
  rule Go.Am.Seat.tabOk 24 [] Go.Proofs.Try.f24 hf24 [] (s24_e sf tf) (m24_e sf tf) res [] 400
    (Orc.cut (nat_lit 7) (s24_0 (0 : Int) sf tf fun (x : Nat) => (0 : Int)) (m24_0 (0 : Int) sf tf fun (x : Nat) => (0 : Int))
  [((1000 : Nat), some (2 : Nat)), ((1001 : Nat), some (3 : Nat)), ((1002 : Nat), some (4 : Nat))]) _ _ (by kernel_rfl) (by kernel_rfl) (show True ∧
  True ∧
    True ∧
      True ∧
        ((True ∧
              Sub (AV.pt (1000 : Nat) [] (0 : Nat)) (AV.pt (1000 : Nat) [] (0 : Nat)) ∧
                True ∧
                  Sub (AV.pt (1001 : Nat) [] (0 : Nat)) (AV.pt (1001 : Nat) [] (0 : Nat)) ∧
                    True ∧
                      Sub (AV.pt (1002 : Nat) [] (0 : Nat)) (AV.pt (1002 : Nat) [] (0 : Nat)) ∧
                        True ∧ Sub (AV.sc (Value.int IntKind.i64 (0 : Int))) (AV.sc (Value.int IntKind.i64 (0 : Int))) ∧ True) ∧
            True ∧
              SubB (AV.ar (4 : Nat) (1 : Nat) fun (i0 : Nat) => AV.sc (Value.int IntKind.u64 (sf i0)))
                  (AV.ar (4 : Nat) (1 : Nat) fun (i0 : Nat) => AV.sc (Value.int IntKind.u64 (sf i0))) ∧
                True ∧
                  SubB (AV.ar (4 : Nat) (1 : Nat) fun (i0 : Nat) => AV.sc (Value.int IntKind.u64 (tf i0)))
                      (AV.ar (4 : Nat) (1 : Nat) fun (i0 : Nat) => AV.sc (Value.int IntKind.u64 (tf i0))) ∧
                    True ∧
                      SubB (AV.ar (4 : Nat) (1 : Nat) fun (x : Nat) => AV.sc (Value.int IntKind.u64 (0 : Int)))
                          (AV.ar (4 : Nat) (1 : Nat) fun (i0 : Nat) => AV.sc (Value.int IntKind.u64 (0 : Int))) ∧
                        True) ∧
          L24_0 (0 : Int) sf tf (fun (x : Nat) => (0 : Int)) res from
    ⟨trivial, ⟨trivial, ⟨trivial, ⟨trivial, ⟨⟨⟨trivial, ⟨Sub.refl _, ⟨trivial, ⟨Sub.refl _, ⟨trivial, ⟨Sub.refl _, ⟨trivial, ⟨Sub.refl _, trivial⟩⟩⟩⟩⟩⟩⟩⟩, ⟨trivial, ⟨SubB.refl _, ⟨trivial, ⟨SubB.refl _, ⟨trivial, ⟨SubB.refl _, trivial⟩⟩⟩⟩⟩⟩⟩, h⟩⟩⟩⟩⟩)
theorem r24_0 (t6 : Int) (b0f : Nat → Int) (b1f : Nat → Int) (b2f : Nat → Int) (res : AV)
    (h : (decide (t6 < (4 : Int)) = true →
    ((0 : Int) ≤ t6 ∧ t6 < (↑(4 : Nat) : Int)) ∧
      t6.toNat < (4 : Nat) ∧
        L24_0 (IntKind.i64.wrap (t6 + (1 : Int)))
          (fun (i : Nat) =>
            bif i.beq t6.toNat then
              IntKind.u64.wrap (↑(BitVec.ofInt IntKind.u64.bits (b0f t6.toNat) &&& BitVec.ofInt IntKind.u64.bits (b1f t6.toNat)).toNat : Int)
            else b0f i)
          b1f b2f res) ∧
  (decide (t6 < (4 : Int)) = false → Sub (AV.ar (4 : Nat) (1 : Nat) fun (i0 : Nat) => AV.sc (Value.int IntKind.u64 (b0f i0))) res)) :
    L24_0 t6 b0f b1f b2f res :=
  rule Go.Am.Seat.tabOk 24 [] Go.Proofs.Try.f24 hf24 [1, 0, 1, 0, 0] (s24_0 t6 b0f b1f b2f) (m24_0 t6 b0f b1f b2f) res [] 400
    ((Orc.cut (nat_lit 9)
      (s24_0 (IntKind.i64.wrap (t6 + (1 : Int)))
        (fun (i : Nat) =>
          bif i.beq t6.toNat then
            IntKind.u64.wrap (↑(BitVec.ofInt IntKind.u64.bits (b0f t6.toNat) &&& BitVec.ofInt IntKind.u64.bits (b1f t6.toNat)).toNat : Int)
          else b0f i)
        b1f b2f)
      (m24_0 (IntKind.i64.wrap (t6 + (1 : Int)))
        (fun (i : Nat) =>
          bif i.beq t6.toNat then
            IntKind.u64.wrap (↑(BitVec.ofInt IntKind.u64.bits (b0f t6.toNat) &&& BitVec.ofInt IntKind.u64.bits (b1f t6.toNat)).toNat : Int)
          else b0f i)
        b1f b2f)
      [((1000 : Nat), some (1000 : Nat)), ((1001 : Nat), some (1001 : Nat)), ((1002 : Nat), some (1002 : Nat))]).br
  (Orc.fin (AV.ar (4 : Nat) (1 : Nat) fun (i0 : Nat) => AV.sc (Value.int IntKind.u64 (b0f i0))) [] [])) _ _ (by kernel_rfl) (by kernel_rfl) (show True ∧
  (decide (t6 < (4 : Int)) = true →
      True ∧
        True ∧
          True ∧
            ((0 : Int) ≤ t6 ∧ t6 < (↑(4 : Nat) : Int)) ∧
              (t6.toNat * (1 : Nat) + (0 : Nat) = plus (0 : Nat) (t6.toNat * (1 : Nat)) ∧ t6.toNat < (4 : Nat) ∧ True) ∧
                True ∧
                  ((0 : Int) ≤ t6 ∧ t6 < (↑(4 : Nat) : Int)) ∧
                    (t6.toNat * (1 : Nat) + (0 : Nat) = plus (0 : Nat) (t6.toNat * (1 : Nat)) ∧ t6.toNat < (4 : Nat) ∧ True) ∧
                      True ∧
                        ((0 : Int) ≤ t6 ∧ t6 < (↑(4 : Nat) : Int)) ∧
                          (t6.toNat * (1 : Nat) + (0 : Nat) = plus (0 : Nat) (t6.toNat * (1 : Nat)) ∧ (t6.toNat < (4 : Nat) ∧ True) ∧ True) ∧
                            True ∧
                              True ∧
                                ((True ∧
                                      Sub (AV.pt (1000 : Nat) [] (0 : Nat)) (AV.pt (1000 : Nat) [] (0 : Nat)) ∧
                                        True ∧
                                          Sub (AV.pt (1001 : Nat) [] (0 : Nat)) (AV.pt (1001 : Nat) [] (0 : Nat)) ∧
                                            True ∧
                                              Sub (AV.pt (1002 : Nat) [] (0 : Nat)) (AV.pt (1002 : Nat) [] (0 : Nat)) ∧
                                                True ∧
                                                  Sub (AV.sc (Value.int IntKind.i64 (IntKind.i64.wrap (t6 + (1 : Int)))))
                                                      (AV.sc (Value.int IntKind.i64 (IntKind.i64.wrap (t6 + (1 : Int))))) ∧
                                                    True) ∧
                                    True ∧
                                      SubB
                                          (AV.ar (4 : Nat) (1 : Nat) fun (i : Nat) =>
                                            AV.sc
                                              (Value.int IntKind.u64
                                                (bif i.beq t6.toNat then
                                                  IntKind.u64.wrap
                                                    (↑(BitVec.ofInt IntKind.u64.bits (b0f t6.toNat) &&& BitVec.ofInt IntKind.u64.bits (b1f t6.toNat)).toNat :
                                                      Int)
                                                else b0f i)))
                                          (AV.ar (4 : Nat) (1 : Nat) fun (i0 : Nat) =>
                                            AV.sc
                                              (Value.int IntKind.u64
                                                (bif i0.beq t6.toNat then
                                                  IntKind.u64.wrap
                                                    (↑(BitVec.ofInt IntKind.u64.bits (b0f t6.toNat) &&& BitVec.ofInt IntKind.u64.bits (b1f t6.toNat)).toNat :
                                                      Int)
                                                else b0f i0))) ∧
                                        True ∧
                                          SubB (AV.ar (4 : Nat) (1 : Nat) fun (i0 : Nat) => AV.sc (Value.int IntKind.u64 (b1f i0)))
                                              (AV.ar (4 : Nat) (1 : Nat) fun (i0 : Nat) => AV.sc (Value.int IntKind.u64 (b1f i0))) ∧
                                            True ∧
                                              SubB (AV.ar (4 : Nat) (1 : Nat) fun (i0 : Nat) => AV.sc (Value.int IntKind.u64 (b2f i0)))
                                                  (AV.ar (4 : Nat) (1 : Nat) fun (i0 : Nat) => AV.sc (Value.int IntKind.u64 (b2f i0))) ∧
                                                True) ∧
                                  L24_0 (IntKind.i64.wrap (t6 + (1 : Int)))
                                    (fun (i : Nat) =>
                                      bif i.beq t6.toNat then
                                        IntKind.u64.wrap
                                          (↑(BitVec.ofInt IntKind.u64.bits (b0f t6.toNat) &&& BitVec.ofInt IntKind.u64.bits (b1f t6.toNat)).toNat : Int)
                                      else b0f i)
                                    b1f b2f res) ∧
    (decide (t6 < (4 : Int)) = false →
      ((0 : Nat) = (0 : Nat) ∧ True) ∧
        ((0 : Nat) = (0 : Nat) ∧ True) ∧
          ((0 : Nat) = (0 : Nat) ∧ True) ∧
            ((True ∧
                  Sub (AV.ar (4 : Nat) (1 : Nat) fun (i0 : Nat) => AV.sc (Value.int IntKind.u64 (b0f i0)))
                      (AV.ar (4 : Nat) (1 : Nat) fun (i0 : Nat) => AV.sc (Value.int IntKind.u64 (b0f i0))) ∧
                    True) ∧
                True) ∧
              Sub (AV.ar (4 : Nat) (1 : Nat) fun (i0 : Nat) => AV.sc (Value.int IntKind.u64 (b0f i0))) res ∧ SubOut [] []) from
    ⟨trivial, (And.elim (fun h1 k1 => ⟨(fun x2 => (fun h2 => ⟨trivial, ⟨trivial, ⟨trivial, (And.elim (fun h6 k6 => ⟨(And.elim (fun h7 k7 => ⟨h7, k7⟩) h6), (And.elim (fun h7 k7 => ⟨⟨rfl, ((fun h9 => ⟨h9, trivial⟩) h7)⟩, ⟨trivial, ⟨(And.elim (fun h10 k10 => ⟨h10, k10⟩) h6), ⟨⟨rfl, ⟨h7, trivial⟩⟩, ⟨trivial, ⟨(And.elim (fun h13 k13 => ⟨h13, k13⟩) h6), ⟨⟨rfl, ⟨⟨h7, trivial⟩, trivial⟩⟩, ⟨trivial, ⟨trivial, ⟨⟨⟨trivial, ⟨Sub.refl _, ⟨trivial, ⟨Sub.refl _, ⟨trivial, ⟨Sub.refl _, ⟨trivial, ⟨Sub.refl _, trivial⟩⟩⟩⟩⟩⟩⟩⟩, ⟨trivial, ⟨SubB.refl _, ⟨trivial, ⟨SubB.refl _, ⟨trivial, ⟨SubB.refl _, trivial⟩⟩⟩⟩⟩⟩⟩, k7⟩⟩⟩⟩⟩⟩⟩⟩⟩⟩) k6)⟩) h2)⟩⟩⟩) (h1 x2)), (fun x2 => (fun h2 => ⟨⟨rfl, trivial⟩, ⟨⟨rfl, trivial⟩, ⟨⟨rfl, trivial⟩, ⟨⟨⟨trivial, ⟨Sub.refl _, trivial⟩⟩, trivial⟩, ((fun h7 => ⟨h7, trivial⟩) h2)⟩⟩⟩⟩) (k1 x2))⟩) h)⟩)
theorem hf25 : Go.Proofs.Try.prog.funcs[25]? = some Go.Proofs.Try.f25 := by kernel_rfl
abbrev s25_e (sf : Nat → Int) : List (Nat × AV) := [(0, (.ar 4 1 (fun i0 => (.sc (.int .u64 (sf i0))))))]
abbrev m25_e (sf : Nat → Int) : List (Nat × Nat × AV) := []
def L25_e (sf : Nat → Int) (res : AV) : Prop := Goes ⟨Go.Proofs.Try.prog, 25, [], res, []⟩ (place Go.Proofs.Try.f25 []) (s25_e sf) (m25_e sf)
theorem a25_e (sf : Nat → Int) (res : AV) (h : (∀ slot, fact (look .undef (s25_e sf) slot)) → L25_e sf res) : L25_e sf res :=
  assumeRule 25 [] Go.Proofs.Try.f25 hf25 [] (s25_e sf) (m25_e sf) res [] _ (by kernel_rfl) h
abbrev s25_0 (t4 : Int) (b0f : Nat → Int) (b1f : Nat → Int) : List (Nat × AV) := [(1, (.pt 1000 [] 0)), (2, (.pt 1001 [] 0)), (4, (.sc (.int .i64 t4)))]
abbrev m25_0 (t4 : Int) (b0f : Nat → Int) (b1f : Nat → Int) : List (Nat × Nat × AV) := [(1000, 24, (.ar 4 1 (fun i0 => (.sc (.int .u64 (b0f i0)))))), (1001, 24, (.ar 4 1 (fun i0 => (.sc (.int .u64 (b1f i0))))))]
def L25_0 (t4 : Int) (b0f : Nat → Int) (b1f : Nat → Int) (res : AV) : Prop := Goes ⟨Go.Proofs.Try.prog, 25, [], res, []⟩ (place Go.Proofs.Try.f25 [1, 0, 1, 0, 0]) (s25_0 t4 b0f b1f) (m25_0 t4 b0f b1f)
theorem a25_0 (t4 : Int) (b0f : Nat → Int) (b1f : Nat → Int) (res : AV) (h : (∀ slot, fact (look .undef (s25_0 t4 b0f b1f) slot)) → L25_0 t4 b0f b1f res) : L25_0 t4 b0f b1f res :=
  assumeRule 25 [] Go.Proofs.Try.f25 hf25 [1, 0, 1, 0, 0] (s25_0 t4 b0f b1f) (m25_0 t4 b0f b1f) res [] _ (by kernel_rfl) h
theorem o25 (sf : Nat → Int) (res : AV) (hnew : newOnly res) (h : L25_e sf res) : Ok Go.Proofs.Try.prog 25 [(.ar 4 1 (fun i0 => (.sc (.int .u64 (sf i0)))))] [] res [] :=
  okRule2 25 Go.Proofs.Try.f25 hf25 [(.ar 4 1 (fun i0 => (.sc (.int .u64 (sf i0)))))] [] res [] [] rfl (by kernel_rfl) (by kernel_rfl) (by kernel_rfl) ⟨hnew, by simp⟩ (L25_e sf res) (by kernel_rfl) h
theorem r25_e (sf : Nat → Int) (res : AV)
    (h : L25_0 (0 : Int) sf (fun (x : Nat) => (0 : Int)) res) :
    L25_e sf res :=
  rule Go.Am.Seat.tabOk 25 [] Go.Proofs.Try.f25 hf25 [] (s25_e sf) (m25_e sf) res [] 400
    (Orc.cut (nat_lit 7) (s25_0 (0 : Int) sf fun (x : Nat) => (0 : Int)) (m25_0 (0 : Int) sf fun (x : Nat) => (0 : Int))
  [((1000 : Nat), some (1 : Nat)), ((1001 : Nat), some (2 : Nat))]) _ _ (by kernel_rfl) (by kernel_rfl) (show True ∧
  True ∧
    True ∧
      ((True ∧
            Sub (AV.pt (1000 : Nat) [] (0 : Nat)) (AV.pt (1000 : Nat) [] (0 : Nat)) ∧
              True ∧
                Sub (AV.pt (1001 : Nat) [] (0 : Nat)) (AV.pt (1001 : Nat) [] (0 : Nat)) ∧
                  True ∧ Sub (AV.sc (Value.int IntKind.i64 (0 : Int))) (AV.sc (Value.int IntKind.i64 (0 : Int))) ∧ True) ∧
          True ∧
            SubB (AV.ar (4 : Nat) (1 : Nat) fun (i0 : Nat) => AV.sc (Value.int IntKind.u64 (sf i0)))
                (AV.ar (4 : Nat) (1 : Nat) fun (i0 : Nat) => AV.sc (Value.int IntKind.u64 (sf i0))) ∧
              True ∧
                SubB (AV.ar (4 : Nat) (1 : Nat) fun (x : Nat) => AV.sc (Value.int IntKind.u64 (0 : Int)))
                    (AV.ar (4 : Nat) (1 : Nat) fun (i0 : Nat) => AV.sc (Value.int IntKind.u64 (0 : Int))) ∧
                  True) ∧
        L25_0 (0 : Int) sf (fun (x : Nat) => (0 : Int)) res from
    ⟨trivial, ⟨trivial, ⟨trivial, ⟨⟨⟨trivial, ⟨Sub.refl _, ⟨trivial, ⟨Sub.refl _, ⟨trivial, ⟨Sub.refl _, trivial⟩⟩⟩⟩⟩⟩, ⟨trivial, ⟨SubB.refl _, ⟨trivial, ⟨SubB.refl _, trivial⟩⟩⟩⟩⟩, h⟩⟩⟩⟩)
theorem r25_0 (t4 : Int) (b0f : Nat → Int) (b1f : Nat → Int) (res : AV)
    (h : (decide (t4 < (4 : Int)) = true →
    ((0 : Int) ≤ t4 ∧ t4 < (↑(4 : Nat) : Int)) ∧
      t4.toNat < (4 : Nat) ∧
        ((0 : Int) ≤ t4 ∧ t4 < (↑(4 : Nat) : Int)) ∧
          t4.toNat < (4 : Nat) ∧
            L25_0 (IntKind.i64.wrap (t4 + (1 : Int)))
              (fun (i : Nat) =>
                bif i.beq t4.toNat then
                  IntKind.u64.wrap
                    (↑(BitVec.ofInt IntKind.u64.bits (if IntKind.u64.signed = true then (-1 : Int) else IntKind.u64.max) ^^^
                            BitVec.ofInt IntKind.u64.bits (b0f t4.toNat)).toNat :
                      Int)
                else b0f i)
              b1f res) ∧
  (decide (t4 < (4 : Int)) = false → Sub (AV.ar (4 : Nat) (1 : Nat) fun (i0 : Nat) => AV.sc (Value.int IntKind.u64 (b0f i0))) res)) :
    L25_0 t4 b0f b1f res :=
  rule Go.Am.Seat.tabOk 25 [] Go.Proofs.Try.f25 hf25 [1, 0, 1, 0, 0] (s25_0 t4 b0f b1f) (m25_0 t4 b0f b1f) res [] 400
    ((Orc.cut (nat_lit 9)
      (s25_0 (IntKind.i64.wrap (t4 + (1 : Int)))
        (fun (i : Nat) =>
          bif i.beq t4.toNat then
            IntKind.u64.wrap
              (↑(BitVec.ofInt IntKind.u64.bits (if IntKind.u64.signed = true then (-1 : Int) else IntKind.u64.max) ^^^
                      BitVec.ofInt IntKind.u64.bits (b0f t4.toNat)).toNat :
                Int)
          else b0f i)
        b1f)
      (m25_0 (IntKind.i64.wrap (t4 + (1 : Int)))
        (fun (i : Nat) =>
          bif i.beq t4.toNat then
            IntKind.u64.wrap
              (↑(BitVec.ofInt IntKind.u64.bits (if IntKind.u64.signed = true then (-1 : Int) else IntKind.u64.max) ^^^
                      BitVec.ofInt IntKind.u64.bits (b0f t4.toNat)).toNat :
                Int)
          else b0f i)
        b1f)
      [((1000 : Nat), some (1000 : Nat)), ((1001 : Nat), some (1001 : Nat))]).br
  (Orc.fin (AV.ar (4 : Nat) (1 : Nat) fun (i0 : Nat) => AV.sc (Value.int IntKind.u64 (b0f i0))) [] [])) _ _ (by kernel_rfl) (by kernel_rfl) (show True ∧
  (decide (t4 < (4 : Int)) = true →
      True ∧
        True ∧
          True ∧
            True ∧
              ((0 : Int) ≤ t4 ∧ t4 < (↑(4 : Nat) : Int)) ∧
                (t4.toNat * (1 : Nat) + (0 : Nat) = plus (0 : Nat) (t4.toNat * (1 : Nat)) ∧ t4.toNat < (4 : Nat) ∧ True) ∧
                  True ∧
                    ((0 : Int) ≤ t4 ∧ t4 < (↑(4 : Nat) : Int)) ∧
                      (t4.toNat * (1 : Nat) + (0 : Nat) = plus (0 : Nat) (t4.toNat * (1 : Nat)) ∧ (t4.toNat < (4 : Nat) ∧ True) ∧ True) ∧
                        True ∧
                          True ∧
                            ((True ∧
                                  Sub (AV.pt (1000 : Nat) [] (0 : Nat)) (AV.pt (1000 : Nat) [] (0 : Nat)) ∧
                                    True ∧
                                      Sub (AV.pt (1001 : Nat) [] (0 : Nat)) (AV.pt (1001 : Nat) [] (0 : Nat)) ∧
                                        True ∧
                                          Sub (AV.sc (Value.int IntKind.i64 (IntKind.i64.wrap (t4 + (1 : Int)))))
                                              (AV.sc (Value.int IntKind.i64 (IntKind.i64.wrap (t4 + (1 : Int))))) ∧
                                            True) ∧
                                True ∧
                                  SubB
                                      (AV.ar (4 : Nat) (1 : Nat) fun (i : Nat) =>
                                        AV.sc
                                          (Value.int IntKind.u64
                                            (bif i.beq t4.toNat then
                                              IntKind.u64.wrap
                                                (↑(BitVec.ofInt IntKind.u64.bits (if IntKind.u64.signed = true then (-1 : Int) else IntKind.u64.max) ^^^
                                                        BitVec.ofInt IntKind.u64.bits (b0f t4.toNat)).toNat :
                                                  Int)
                                            else b0f i)))
                                      (AV.ar (4 : Nat) (1 : Nat) fun (i0 : Nat) =>
                                        AV.sc
                                          (Value.int IntKind.u64
                                            (bif i0.beq t4.toNat then
                                              IntKind.u64.wrap
                                                (↑(BitVec.ofInt IntKind.u64.bits (if IntKind.u64.signed = true then (-1 : Int) else IntKind.u64.max) ^^^
                                                        BitVec.ofInt IntKind.u64.bits (b0f t4.toNat)).toNat :
                                                  Int)
                                            else b0f i0))) ∧
                                    True ∧
                                      SubB (AV.ar (4 : Nat) (1 : Nat) fun (i0 : Nat) => AV.sc (Value.int IntKind.u64 (b1f i0)))
                                          (AV.ar (4 : Nat) (1 : Nat) fun (i0 : Nat) => AV.sc (Value.int IntKind.u64 (b1f i0))) ∧
                                        True) ∧
                              L25_0 (IntKind.i64.wrap (t4 + (1 : Int)))
                                (fun (i : Nat) =>
                                  bif i.beq t4.toNat then
                                    IntKind.u64.wrap
                                      (↑(BitVec.ofInt IntKind.u64.bits (if IntKind.u64.signed = true then (-1 : Int) else IntKind.u64.max) ^^^
                                              BitVec.ofInt IntKind.u64.bits (b0f t4.toNat)).toNat :
                                        Int)
                                  else b0f i)
                                b1f res) ∧
    (decide (t4 < (4 : Int)) = false →
      ((0 : Nat) = (0 : Nat) ∧ True) ∧
        ((0 : Nat) = (0 : Nat) ∧ True) ∧
          ((0 : Nat) = (0 : Nat) ∧ True) ∧
            ((True ∧
                  Sub (AV.ar (4 : Nat) (1 : Nat) fun (i0 : Nat) => AV.sc (Value.int IntKind.u64 (b0f i0)))
                      (AV.ar (4 : Nat) (1 : Nat) fun (i0 : Nat) => AV.sc (Value.int IntKind.u64 (b0f i0))) ∧
                    True) ∧
                True) ∧
              Sub (AV.ar (4 : Nat) (1 : Nat) fun (i0 : Nat) => AV.sc (Value.int IntKind.u64 (b0f i0))) res ∧ SubOut [] []) from
    ⟨trivial, (And.elim (fun h1 k1 => ⟨(fun x2 => (fun h2 => ⟨trivial, ⟨trivial, ⟨trivial, ⟨trivial, (And.elim (fun h7 k7 => ⟨(And.elim (fun h8 k8 => ⟨h8, k8⟩) h7), (And.elim (fun h8 k8 => ⟨⟨rfl, ⟨h8, trivial⟩⟩, ⟨trivial, (And.elim (fun h10 k10 => ⟨(And.elim (fun h11 k11 => ⟨h11, k11⟩) h10), (And.elim (fun h11 k11 => ⟨⟨rfl, ⟨⟨h11, trivial⟩, trivial⟩⟩, ⟨trivial, ⟨trivial, ⟨⟨⟨trivial, ⟨Sub.refl _, ⟨trivial, ⟨Sub.refl _, ⟨trivial, ⟨Sub.refl _, trivial⟩⟩⟩⟩⟩⟩, ⟨trivial, ⟨SubB.refl _, ⟨trivial, ⟨SubB.refl _, trivial⟩⟩⟩⟩⟩, k11⟩⟩⟩⟩) k10)⟩) k8)⟩⟩) k7)⟩) h2)⟩⟩⟩⟩) (h1 x2)), (fun x2 => (fun h2 => ⟨⟨rfl, trivial⟩, ⟨⟨rfl, trivial⟩, ⟨⟨rfl, trivial⟩, ⟨⟨⟨trivial, ⟨Sub.refl _, trivial⟩⟩, trivial⟩, ⟨h2, trivial⟩⟩⟩⟩⟩) (k1 x2))⟩) h)⟩)
end Go.Am.Seat
