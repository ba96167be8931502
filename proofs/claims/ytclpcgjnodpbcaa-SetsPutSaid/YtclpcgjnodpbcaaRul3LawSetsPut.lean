/- The rules of 5 functions: from what is owed at each place of a function the function goes on as it is told there. Printed by a program of this seat; Lean checks each. -/
import Derived.Test.YtclpcgjnodpbcaaAmZ2
import Derived.Test.YtclpcgjnodpbcaaTab
open Go Go.Am Go.Am.Seat
namespace Go.Am.Seat
set_option linter.unusedVariables false
set_option maxRecDepth 100000
theorem hf31 : Go.Proofs.Try.prog.funcs[31]? = some Go.Proofs.Try.f31 := by kernel_rfl
abbrev s31_e (s : ByteArray) (at_ : Int) : List (Nat × AV) := [(0, (.sc (.string s))), (1, (.sc (.int .i64 at_)))]
abbrev m31_e (s : ByteArray) (at_ : Int) : List (Nat × Nat × AV) := []
def L31_e (s : ByteArray) (at_ : Int) (res : AV) : Prop := Goes ⟨Go.Proofs.Try.prog, 31, [], res, []⟩ (place Go.Proofs.Try.f31 []) (s31_e s at_) (m31_e s at_)
theorem a31_e (s : ByteArray) (at_ : Int) (res : AV) (h : (∀ slot, fact (look .undef (s31_e s at_) slot)) → L31_e s at_ res) : L31_e s at_ res :=
  assumeRule 31 [] Go.Proofs.Try.f31 hf31 [] (s31_e s at_) (m31_e s at_) res [] _ (by kernel_rfl) h
theorem o31 (s : ByteArray) (at_ : Int) (res : AV) (hnew : newOnly res) (h : L31_e s at_ res) : Ok Go.Proofs.Try.prog 31 [(.sc (.string s)), (.sc (.int .i64 at_))] [] res [] :=
  okRule2 31 Go.Proofs.Try.f31 hf31 [(.sc (.string s)), (.sc (.int .i64 at_))] [] res [] [] rfl (by kernel_rfl) (by kernel_rfl) (by kernel_rfl) ⟨hnew, by simp⟩ (L31_e s at_ res) (by kernel_rfl) h
theorem r31_e (s : ByteArray) (at_ : Int) (res : AV)
    (h : (decide (at_ ≥ (↑s.size : Int)) = true →
    Sub
      (AV.cons (1 : Nat) (AV.sc (Value.int IntKind.u8 (0 : Int)))
          (AV.cons (1 : Nat) (AV.sc (Value.int IntKind.i64 at_)) (AV.cons (1 : Nat) (AV.sc (Value.bool false)) AV.nil))).tup
      res) ∧
  (decide (at_ ≥ (↑s.size : Int)) = false →
    ((0 : Int) ≤ at_ ∧ at_ < (↑s.size : Int)) ∧
      (((↑(byteAt s at_.toNat).toNat : Int) != (92 : Int)) = true →
          ((0 : Int) ≤ at_ ∧ at_ < (↑s.size : Int)) ∧
            ∃ (r : Bool),
              Ok Proofs.Try.prog (35 : Nat) [AV.sc (Value.int IntKind.u8 (↑(byteAt s at_.toNat).toNat : Int))] [] (AV.sc (Value.bool r)) [] ∧
                (r = true →
                    Sub
                      (AV.cons (1 : Nat) (AV.sc (Value.int IntKind.u8 (0 : Int)))
                          (AV.cons (1 : Nat) (AV.sc (Value.int IntKind.i64 at_)) (AV.cons (1 : Nat) (AV.sc (Value.bool false)) AV.nil))).tup
                      res) ∧
                  (r = false →
                    ((0 : Int) ≤ at_ ∧ at_ < (↑s.size : Int)) ∧
                      Sub
                        (AV.cons (1 : Nat) (AV.sc (Value.int IntKind.u8 (↑(byteAt s at_.toNat).toNat : Int)))
                            (AV.cons (1 : Nat) (AV.sc (Value.int IntKind.i64 (IntKind.i64.wrap (at_ + (1 : Int)))))
                              (AV.cons (1 : Nat) (AV.sc (Value.bool true)) AV.nil))).tup
                        res)) ∧
        (((↑(byteAt s at_.toNat).toNat : Int) != (92 : Int)) = false →
          (decide (IntKind.i64.wrap (at_ + (1 : Int)) ≥ (↑s.size : Int)) = true →
              Sub
                (AV.cons (1 : Nat) (AV.sc (Value.int IntKind.u8 (0 : Int)))
                    (AV.cons (1 : Nat) (AV.sc (Value.int IntKind.i64 (IntKind.i64.wrap (at_ + (1 : Int)))))
                      (AV.cons (1 : Nat) (AV.sc (Value.bool false)) AV.nil))).tup
                res) ∧
            (decide (IntKind.i64.wrap (at_ + (1 : Int)) ≥ (↑s.size : Int)) = false →
              ((0 : Int) ≤ IntKind.i64.wrap (at_ + (1 : Int)) ∧ IntKind.i64.wrap (at_ + (1 : Int)) < (↑s.size : Int)) ∧
                ∃ (r : Int × Bool),
                  Ok Proofs.Try.prog (36 : Nat) [AV.sc (Value.int IntKind.u8 (↑(byteAt s (IntKind.i64.wrap (at_ + (1 : Int))).toNat).toNat : Int))] []
                      (AV.cons (1 : Nat) (AV.sc (Value.int IntKind.u8 r.fst)) (AV.cons (1 : Nat) (AV.sc (Value.bool r.snd)) AV.nil)).tup [] ∧
                    (r.snd = true →
                        Sub
                          (AV.cons (1 : Nat) (AV.sc (Value.int IntKind.u8 r.fst))
                              (AV.cons (1 : Nat) (AV.sc (Value.int IntKind.i64 (IntKind.i64.wrap (at_ + (2 : Int)))))
                                (AV.cons (1 : Nat) (AV.sc (Value.bool true)) AV.nil))).tup
                          res) ∧
                      (r.snd = false →
                        ((0 : Int) ≤ IntKind.i64.wrap (at_ + (1 : Int)) ∧ IntKind.i64.wrap (at_ + (1 : Int)) < (↑s.size : Int)) ∧
                          ∃ (r : Bool),
                            Ok Proofs.Try.prog (35 : Nat) [AV.sc (Value.int IntKind.u8 (↑(byteAt s (IntKind.i64.wrap (at_ + (1 : Int))).toNat).toNat : Int))] []
                                (AV.sc (Value.bool r)) [] ∧
                              (r = true →
                                  ((0 : Int) ≤ IntKind.i64.wrap (at_ + (1 : Int)) ∧ IntKind.i64.wrap (at_ + (1 : Int)) < (↑s.size : Int)) ∧
                                    Sub
                                      (AV.cons (1 : Nat) (AV.sc (Value.int IntKind.u8 (↑(byteAt s (IntKind.i64.wrap (at_ + (1 : Int))).toNat).toNat : Int)))
                                          (AV.cons (1 : Nat) (AV.sc (Value.int IntKind.i64 (IntKind.i64.wrap (at_ + (2 : Int)))))
                                            (AV.cons (1 : Nat) (AV.sc (Value.bool true)) AV.nil))).tup
                                      res) ∧
                                (r = false →
                                  Sub
                                    (AV.cons (1 : Nat) (AV.sc (Value.int IntKind.u8 (0 : Int)))
                                        (AV.cons (1 : Nat) (AV.sc (Value.int IntKind.i64 (IntKind.i64.wrap (at_ + (1 : Int)))))
                                          (AV.cons (1 : Nat) (AV.sc (Value.bool false)) AV.nil))).tup
                                    res)))))) :
    L31_e s at_ res :=
  rule Go.Am.Seat.tabOk 31 [] Go.Proofs.Try.f31 hf31 [] (s31_e s at_) (m31_e s at_) res [] 400
    ((Orc.fin
      (AV.cons (1 : Nat) (AV.sc (Value.int IntKind.u8 (0 : Int)))
          (AV.cons (1 : Nat) (AV.sc (Value.int IntKind.i64 at_)) (AV.cons (1 : Nat) (AV.sc (Value.bool false)) AV.nil))).tup
      [] []).br
  ((Orc.call [] [] (fun (r35 : Bool) => AV.sc (Value.bool r35)) (fun (r35 : Bool) => []) fun (r35 : Bool) =>
        (Orc.fin
              (AV.cons (1 : Nat) (AV.sc (Value.int IntKind.u8 (0 : Int)))
                  (AV.cons (1 : Nat) (AV.sc (Value.int IntKind.i64 at_)) (AV.cons (1 : Nat) (AV.sc (Value.bool false)) AV.nil))).tup
              [] []).br
          (Orc.fin
            (AV.cons (1 : Nat) (AV.sc (Value.int IntKind.u8 (↑(byteAt s at_.toNat).toNat : Int)))
                (AV.cons (1 : Nat) (AV.sc (Value.int IntKind.i64 (IntKind.i64.wrap (at_ + (1 : Int)))))
                  (AV.cons (1 : Nat) (AV.sc (Value.bool true)) AV.nil))).tup
            [] [])).br
    ((Orc.fin
          (AV.cons (1 : Nat) (AV.sc (Value.int IntKind.u8 (0 : Int)))
              (AV.cons (1 : Nat) (AV.sc (Value.int IntKind.i64 (IntKind.i64.wrap (at_ + (1 : Int)))))
                (AV.cons (1 : Nat) (AV.sc (Value.bool false)) AV.nil))).tup
          [] []).br
      (Orc.call [] []
        (fun (r36 : Int × Bool) => (AV.cons (1 : Nat) (AV.sc (Value.int IntKind.u8 r36.fst)) (AV.cons (1 : Nat) (AV.sc (Value.bool r36.snd)) AV.nil)).tup)
        (fun (r36 : Int × Bool) => []) fun (r36 : Int × Bool) =>
        (Orc.fin
              (AV.cons (1 : Nat) (AV.sc (Value.int IntKind.u8 r36.fst))
                  (AV.cons (1 : Nat) (AV.sc (Value.int IntKind.i64 (IntKind.i64.wrap (at_ + (2 : Int)))))
                    (AV.cons (1 : Nat) (AV.sc (Value.bool true)) AV.nil))).tup
              [] []).br
          (Orc.call [] [] (fun (r35 : Bool) => AV.sc (Value.bool r35)) (fun (r35 : Bool) => []) fun (r35 : Bool) =>
            (Orc.fin
                  (AV.cons (1 : Nat) (AV.sc (Value.int IntKind.u8 (↑(byteAt s (IntKind.i64.wrap (at_ + (1 : Int))).toNat).toNat : Int)))
                      (AV.cons (1 : Nat) (AV.sc (Value.int IntKind.i64 (IntKind.i64.wrap (at_ + (2 : Int)))))
                        (AV.cons (1 : Nat) (AV.sc (Value.bool true)) AV.nil))).tup
                  [] []).br
              (Orc.fin
                (AV.cons (1 : Nat) (AV.sc (Value.int IntKind.u8 (0 : Int)))
                    (AV.cons (1 : Nat) (AV.sc (Value.int IntKind.i64 (IntKind.i64.wrap (at_ + (1 : Int)))))
                      (AV.cons (1 : Nat) (AV.sc (Value.bool false)) AV.nil))).tup
                [] [])))))) _ _ (by kernel_rfl) (by kernel_rfl) (show True ∧
  True ∧
    True ∧
      True ∧
        True ∧
          True ∧
            True ∧
              True ∧
                (decide (at_ ≥ (↑s.size : Int)) = true →
                    True ∧
                      True ∧
                        True ∧
                          True ∧
                            (True ∧ True ∧ True ∧ True) ∧
                              (((True ∧ True ∧ True ∧ True) ∧
                                    Sub
                                        (AV.cons (1 : Nat) (AV.sc (Value.int IntKind.u8 (0 : Int)))
                                            (AV.cons (1 : Nat) (AV.sc (Value.int IntKind.i64 at_)) (AV.cons (1 : Nat) (AV.sc (Value.bool false)) AV.nil))).tup
                                        (AV.cons (1 : Nat) (AV.sc (Value.int IntKind.u8 (0 : Int)))
                                            (AV.cons (1 : Nat) (AV.sc (Value.int IntKind.i64 at_)) (AV.cons (1 : Nat) (AV.sc (Value.bool false)) AV.nil))).tup ∧
                                      True) ∧
                                  True) ∧
                                Sub
                                    (AV.cons (1 : Nat) (AV.sc (Value.int IntKind.u8 (0 : Int)))
                                        (AV.cons (1 : Nat) (AV.sc (Value.int IntKind.i64 at_)) (AV.cons (1 : Nat) (AV.sc (Value.bool false)) AV.nil))).tup
                                    res ∧
                                  SubOut [] []) ∧
                  (decide (at_ ≥ (↑s.size : Int)) = false →
                    True ∧
                      True ∧
                        ((0 : Int) ≤ at_ ∧ at_ < (↑s.size : Int)) ∧
                          True ∧
                            True ∧
                              (((↑(byteAt s at_.toNat).toNat : Int) != (92 : Int)) = true →
                                  True ∧
                                    True ∧
                                      ((0 : Int) ≤ at_ ∧ at_ < (↑s.size : Int)) ∧
                                        ∃ (r : Bool),
                                          ((True ∧ True) ∧
                                              True ∧
                                                Ok Proofs.Try.prog (35 : Nat) [AV.sc (Value.int IntKind.u8 (↑(byteAt s at_.toNat).toNat : Int))] []
                                                  (AV.sc (Value.bool r)) []) ∧
                                            (r = true →
                                                True ∧
                                                  True ∧
                                                    True ∧
                                                      True ∧
                                                        (True ∧ True ∧ True ∧ True) ∧
                                                          (((True ∧ True ∧ True ∧ True) ∧
                                                                Sub
                                                                    (AV.cons (1 : Nat) (AV.sc (Value.int IntKind.u8 (0 : Int)))
                                                                        (AV.cons (1 : Nat) (AV.sc (Value.int IntKind.i64 at_))
                                                                          (AV.cons (1 : Nat) (AV.sc (Value.bool false)) AV.nil))).tup
                                                                    (AV.cons (1 : Nat) (AV.sc (Value.int IntKind.u8 (0 : Int)))
                                                                        (AV.cons (1 : Nat) (AV.sc (Value.int IntKind.i64 at_))
                                                                          (AV.cons (1 : Nat) (AV.sc (Value.bool false)) AV.nil))).tup ∧
                                                                  True) ∧
                                                              True) ∧
                                                            Sub
                                                                (AV.cons (1 : Nat) (AV.sc (Value.int IntKind.u8 (0 : Int)))
                                                                    (AV.cons (1 : Nat) (AV.sc (Value.int IntKind.i64 at_))
                                                                      (AV.cons (1 : Nat) (AV.sc (Value.bool false)) AV.nil))).tup
                                                                res ∧
                                                              SubOut [] []) ∧
                                              (r = false →
                                                True ∧
                                                  True ∧
                                                    ((0 : Int) ≤ at_ ∧ at_ < (↑s.size : Int)) ∧
                                                      True ∧
                                                        True ∧
                                                          True ∧
                                                            True ∧
                                                              True ∧
                                                                (True ∧ True ∧ True ∧ True) ∧
                                                                  (((True ∧ True ∧ True ∧ True) ∧
                                                                        Sub
                                                                            (AV.cons (1 : Nat)
                                                                                (AV.sc (Value.int IntKind.u8 (↑(byteAt s at_.toNat).toNat : Int)))
                                                                                (AV.cons (1 : Nat)
                                                                                  (AV.sc (Value.int IntKind.i64 (IntKind.i64.wrap (at_ + (1 : Int)))))
                                                                                  (AV.cons (1 : Nat) (AV.sc (Value.bool true)) AV.nil))).tup
                                                                            (AV.cons (1 : Nat)
                                                                                (AV.sc (Value.int IntKind.u8 (↑(byteAt s at_.toNat).toNat : Int)))
                                                                                (AV.cons (1 : Nat)
                                                                                  (AV.sc (Value.int IntKind.i64 (IntKind.i64.wrap (at_ + (1 : Int)))))
                                                                                  (AV.cons (1 : Nat) (AV.sc (Value.bool true)) AV.nil))).tup ∧
                                                                          True) ∧
                                                                      True) ∧
                                                                    Sub
                                                                        (AV.cons (1 : Nat) (AV.sc (Value.int IntKind.u8 (↑(byteAt s at_.toNat).toNat : Int)))
                                                                            (AV.cons (1 : Nat)
                                                                              (AV.sc (Value.int IntKind.i64 (IntKind.i64.wrap (at_ + (1 : Int)))))
                                                                              (AV.cons (1 : Nat) (AV.sc (Value.bool true)) AV.nil))).tup
                                                                        res ∧
                                                                      SubOut [] [])) ∧
                                (((↑(byteAt s at_.toNat).toNat : Int) != (92 : Int)) = false →
                                  True ∧
                                    True ∧
                                      True ∧
                                        True ∧
                                          True ∧
                                            True ∧
                                              (decide (IntKind.i64.wrap (at_ + (1 : Int)) ≥ (↑s.size : Int)) = true →
                                                  True ∧
                                                    True ∧
                                                      True ∧
                                                        True ∧
                                                          True ∧
                                                            (True ∧ True ∧ True ∧ True) ∧
                                                              (((True ∧ True ∧ True ∧ True) ∧
                                                                    Sub
                                                                        (AV.cons (1 : Nat) (AV.sc (Value.int IntKind.u8 (0 : Int)))
                                                                            (AV.cons (1 : Nat)
                                                                              (AV.sc (Value.int IntKind.i64 (IntKind.i64.wrap (at_ + (1 : Int)))))
                                                                              (AV.cons (1 : Nat) (AV.sc (Value.bool false)) AV.nil))).tup
                                                                        (AV.cons (1 : Nat) (AV.sc (Value.int IntKind.u8 (0 : Int)))
                                                                            (AV.cons (1 : Nat)
                                                                              (AV.sc (Value.int IntKind.i64 (IntKind.i64.wrap (at_ + (1 : Int)))))
                                                                              (AV.cons (1 : Nat) (AV.sc (Value.bool false)) AV.nil))).tup ∧
                                                                      True) ∧
                                                                  True) ∧
                                                                Sub
                                                                    (AV.cons (1 : Nat) (AV.sc (Value.int IntKind.u8 (0 : Int)))
                                                                        (AV.cons (1 : Nat) (AV.sc (Value.int IntKind.i64 (IntKind.i64.wrap (at_ + (1 : Int)))))
                                                                          (AV.cons (1 : Nat) (AV.sc (Value.bool false)) AV.nil))).tup
                                                                    res ∧
                                                                  SubOut [] []) ∧
                                                (decide (IntKind.i64.wrap (at_ + (1 : Int)) ≥ (↑s.size : Int)) = false →
                                                  True ∧
                                                    True ∧
                                                      True ∧
                                                        ((0 : Int) ≤ IntKind.i64.wrap (at_ + (1 : Int)) ∧
                                                            IntKind.i64.wrap (at_ + (1 : Int)) < (↑s.size : Int)) ∧
                                                          ∃ (r : Int × Bool),
                                                            ((True ∧ True) ∧
                                                                True ∧
                                                                  Ok Proofs.Try.prog (36 : Nat)
                                                                    [AV.sc
                                                                        (Value.int IntKind.u8
                                                                          (↑(byteAt s (IntKind.i64.wrap (at_ + (1 : Int))).toNat).toNat : Int))]
                                                                    []
                                                                    (AV.cons (1 : Nat) (AV.sc (Value.int IntKind.u8 r.fst))
                                                                        (AV.cons (1 : Nat) (AV.sc (Value.bool r.snd)) AV.nil)).tup
                                                                    []) ∧
                                                              True ∧
                                                                True ∧
                                                                  True ∧
                                                                    True ∧
                                                                      True ∧
                                                                        True ∧
                                                                          (r.snd = true →
                                                                              True ∧
                                                                                True ∧
                                                                                  True ∧
                                                                                    True ∧
                                                                                      True ∧
                                                                                        True ∧
                                                                                          (True ∧ True ∧ True ∧ True) ∧
                                                                                            (((True ∧ True ∧ True ∧ True) ∧
                                                                                                  Sub
                                                                                                      (AV.cons (1 : Nat) (AV.sc (Value.int IntKind.u8 r.fst))
                                                                                                          (AV.cons (1 : Nat)
                                                                                                            (AV.sc
                                                                                                              (Value.int IntKind.i64
                                                                                                                (IntKind.i64.wrap (at_ + (2 : Int)))))
                                                                                                            (AV.cons (1 : Nat) (AV.sc (Value.bool true))
                                                                                                              AV.nil))).tup
                                                                                                      (AV.cons (1 : Nat) (AV.sc (Value.int IntKind.u8 r.fst))
                                                                                                          (AV.cons (1 : Nat)
                                                                                                            (AV.sc
                                                                                                              (Value.int IntKind.i64
                                                                                                                (IntKind.i64.wrap (at_ + (2 : Int)))))
                                                                                                            (AV.cons (1 : Nat) (AV.sc (Value.bool true))
                                                                                                              AV.nil))).tup ∧
                                                                                                    True) ∧
                                                                                                True) ∧
                                                                                              Sub
                                                                                                  (AV.cons (1 : Nat) (AV.sc (Value.int IntKind.u8 r.fst))
                                                                                                      (AV.cons (1 : Nat)
                                                                                                        (AV.sc
                                                                                                          (Value.int IntKind.i64
                                                                                                            (IntKind.i64.wrap (at_ + (2 : Int)))))
                                                                                                        (AV.cons (1 : Nat) (AV.sc (Value.bool true))
                                                                                                          AV.nil))).tup
                                                                                                  res ∧
                                                                                                SubOut [] []) ∧
                                                                            (r.snd = false →
                                                                              True ∧
                                                                                True ∧
                                                                                  True ∧
                                                                                    ((0 : Int) ≤ IntKind.i64.wrap (at_ + (1 : Int)) ∧
                                                                                        IntKind.i64.wrap (at_ + (1 : Int)) < (↑s.size : Int)) ∧
                                                                                      ∃ (r : Bool),
                                                                                        ((True ∧ True) ∧
                                                                                            True ∧
                                                                                              Ok Proofs.Try.prog (35 : Nat)
                                                                                                [AV.sc
                                                                                                    (Value.int IntKind.u8
                                                                                                      (↑(byteAt s
                                                                                                              (IntKind.i64.wrap
                                                                                                                  (at_ + (1 : Int))).toNat).toNat :
                                                                                                        Int))]
                                                                                                [] (AV.sc (Value.bool r)) []) ∧
                                                                                          (r = true →
                                                                                              True ∧
                                                                                                True ∧
                                                                                                  True ∧
                                                                                                    ((0 : Int) ≤ IntKind.i64.wrap (at_ + (1 : Int)) ∧
                                                                                                        IntKind.i64.wrap (at_ + (1 : Int)) < (↑s.size : Int)) ∧
                                                                                                      True ∧
                                                                                                        True ∧
                                                                                                          True ∧
                                                                                                            True ∧
                                                                                                              True ∧
                                                                                                                (True ∧ True ∧ True ∧ True) ∧
                                                                                                                  (((True ∧ True ∧ True ∧ True) ∧
                                                                                                                        Sub
                                                                                                                            (AV.cons (1 : Nat)
                                                                                                                                (AV.sc
                                                                                                                                  (Value.int IntKind.u8
                                                                                                                                    (↑(byteAt s
                                                                                                                                            (IntKind.i64.wrap
                                                                                                                                                (at_ +
                                                                                                                                                  (1 :
                                                                                                                                                    Int))).toNat).toNat :
                                                                                                                                      Int)))
                                                                                                                                (AV.cons (1 : Nat)
                                                                                                                                  (AV.sc
                                                                                                                                    (Value.int IntKind.i64
                                                                                                                                      (IntKind.i64.wrap
                                                                                                                                        (at_ + (2 : Int)))))
                                                                                                                                  (AV.cons (1 : Nat)
                                                                                                                                    (AV.sc (Value.bool true))
                                                                                                                                    AV.nil))).tup
                                                                                                                            (AV.cons (1 : Nat)
                                                                                                                                (AV.sc
                                                                                                                                  (Value.int IntKind.u8
                                                                                                                                    (↑(byteAt s
                                                                                                                                            (IntKind.i64.wrap
                                                                                                                                                (at_ +
                                                                                                                                                  (1 :
                                                                                                                                                    Int))).toNat).toNat :
                                                                                                                                      Int)))
                                                                                                                                (AV.cons (1 : Nat)
                                                                                                                                  (AV.sc
                                                                                                                                    (Value.int IntKind.i64
                                                                                                                                      (IntKind.i64.wrap
                                                                                                                                        (at_ + (2 : Int)))))
                                                                                                                                  (AV.cons (1 : Nat)
                                                                                                                                    (AV.sc (Value.bool true))
                                                                                                                                    AV.nil))).tup ∧
                                                                                                                          True) ∧
                                                                                                                      True) ∧
                                                                                                                    Sub
                                                                                                                        (AV.cons (1 : Nat)
                                                                                                                            (AV.sc
                                                                                                                              (Value.int IntKind.u8
                                                                                                                                (↑(byteAt s
                                                                                                                                        (IntKind.i64.wrap
                                                                                                                                            (at_ +
                                                                                                                                              (1 :
                                                                                                                                                Int))).toNat).toNat :
                                                                                                                                  Int)))
                                                                                                                            (AV.cons (1 : Nat)
                                                                                                                              (AV.sc
                                                                                                                                (Value.int IntKind.i64
                                                                                                                                  (IntKind.i64.wrap
                                                                                                                                    (at_ + (2 : Int)))))
                                                                                                                              (AV.cons (1 : Nat)
                                                                                                                                (AV.sc (Value.bool true))
                                                                                                                                AV.nil))).tup
                                                                                                                        res ∧
                                                                                                                      SubOut [] []) ∧
                                                                                            (r = false →
                                                                                              True ∧
                                                                                                True ∧
                                                                                                  True ∧
                                                                                                    True ∧
                                                                                                      True ∧
                                                                                                        (True ∧ True ∧ True ∧ True) ∧
                                                                                                          (((True ∧ True ∧ True ∧ True) ∧
                                                                                                                Sub
                                                                                                                    (AV.cons (1 : Nat)
                                                                                                                        (AV.sc (Value.int IntKind.u8 (0 : Int)))
                                                                                                                        (AV.cons (1 : Nat)
                                                                                                                          (AV.sc
                                                                                                                            (Value.int IntKind.i64
                                                                                                                              (IntKind.i64.wrap
                                                                                                                                (at_ + (1 : Int)))))
                                                                                                                          (AV.cons (1 : Nat)
                                                                                                                            (AV.sc (Value.bool false))
                                                                                                                            AV.nil))).tup
                                                                                                                    (AV.cons (1 : Nat)
                                                                                                                        (AV.sc (Value.int IntKind.u8 (0 : Int)))
                                                                                                                        (AV.cons (1 : Nat)
                                                                                                                          (AV.sc
                                                                                                                            (Value.int IntKind.i64
                                                                                                                              (IntKind.i64.wrap
                                                                                                                                (at_ + (1 : Int)))))
                                                                                                                          (AV.cons (1 : Nat)
                                                                                                                            (AV.sc (Value.bool false))
                                                                                                                            AV.nil))).tup ∧
                                                                                                                  True) ∧
                                                                                                              True) ∧
                                                                                                            Sub
                                                                                                                (AV.cons (1 : Nat)
                                                                                                                    (AV.sc (Value.int IntKind.u8 (0 : Int)))
                                                                                                                    (AV.cons (1 : Nat)
                                                                                                                      (AV.sc
                                                                                                                        (Value.int IntKind.i64
                                                                                                                          (IntKind.i64.wrap (at_ + (1 : Int)))))
                                                                                                                      (AV.cons (1 : Nat)
                                                                                                                        (AV.sc (Value.bool false)) AV.nil))).tup
                                                                                                                res ∧
                                                                                                              SubOut [] []))))) from
    ⟨trivial, ⟨trivial, ⟨trivial, ⟨trivial, ⟨trivial, ⟨trivial, ⟨trivial, ⟨trivial, (And.elim (fun h8 k8 => ⟨(fun x9 => (fun h9 => ⟨trivial, ⟨trivial, ⟨trivial, ⟨trivial, ⟨⟨trivial, ⟨trivial, ⟨trivial, trivial⟩⟩⟩, ⟨⟨⟨⟨trivial, ⟨trivial, ⟨trivial, trivial⟩⟩⟩, ⟨Sub.refl _, trivial⟩⟩, trivial⟩, ⟨h9, trivial⟩⟩⟩⟩⟩⟩⟩) (h8 x9)), (fun x9 => (fun h9 => ⟨trivial, ⟨trivial, (And.elim (fun h12 k12 => ⟨(And.elim (fun h13 k13 => ⟨h13, k13⟩) h12), ⟨trivial, ⟨trivial, (And.elim (fun h15 k15 => ⟨(fun x16 => (fun h16 => ⟨trivial, ⟨trivial, (And.elim (fun h19 k19 => ⟨(And.elim (fun h20 k20 => ⟨h20, k20⟩) h19), (Exists.elim k19 fun x20 h20 => ⟨x20, (And.elim (fun h21 k21 => ⟨⟨⟨trivial, trivial⟩, ⟨trivial, h21⟩⟩, (And.elim (fun h22 k22 => ⟨(fun x23 => (fun h23 => ⟨trivial, ⟨trivial, ⟨trivial, ⟨trivial, ⟨⟨trivial, ⟨trivial, ⟨trivial, trivial⟩⟩⟩, ⟨⟨⟨⟨trivial, ⟨trivial, ⟨trivial, trivial⟩⟩⟩, ⟨Sub.refl _, trivial⟩⟩, trivial⟩, ⟨h23, trivial⟩⟩⟩⟩⟩⟩⟩) (h22 x23)), (fun x23 => (fun h23 => ⟨trivial, ⟨trivial, (And.elim (fun h26 k26 => ⟨(And.elim (fun h27 k27 => ⟨h27, k27⟩) h26), ⟨trivial, ⟨trivial, ⟨trivial, ⟨trivial, ⟨trivial, ⟨⟨trivial, ⟨trivial, ⟨trivial, trivial⟩⟩⟩, ⟨⟨⟨⟨trivial, ⟨trivial, ⟨trivial, trivial⟩⟩⟩, ⟨Sub.refl _, trivial⟩⟩, trivial⟩, ⟨k26, trivial⟩⟩⟩⟩⟩⟩⟩⟩⟩) h23)⟩⟩) (k22 x23))⟩) k21)⟩) h20)⟩)⟩) h16)⟩⟩) (h15 x16)), (fun x16 => (fun h16 => ⟨trivial, ⟨trivial, ⟨trivial, ⟨trivial, ⟨trivial, ⟨trivial, (And.elim (fun h23 k23 => ⟨(fun x24 => (fun h24 => ⟨trivial, ⟨trivial, ⟨trivial, ⟨trivial, ⟨trivial, ⟨⟨trivial, ⟨trivial, ⟨trivial, trivial⟩⟩⟩, ⟨⟨⟨⟨trivial, ⟨trivial, ⟨trivial, trivial⟩⟩⟩, ⟨Sub.refl _, trivial⟩⟩, trivial⟩, ⟨h24, trivial⟩⟩⟩⟩⟩⟩⟩⟩) (h23 x24)), (fun x24 => (fun h24 => ⟨trivial, ⟨trivial, ⟨trivial, (And.elim (fun h28 k28 => ⟨(And.elim (fun h29 k29 => ⟨h29, k29⟩) h28), (Exists.elim k28 fun x29 h29 => ⟨x29, (And.elim (fun h30 k30 => ⟨⟨⟨trivial, trivial⟩, ⟨trivial, h30⟩⟩, ⟨trivial, ⟨trivial, ⟨trivial, ⟨trivial, ⟨trivial, ⟨trivial, (And.elim (fun h37 k37 => ⟨(fun x38 => (fun h38 => ⟨trivial, ⟨trivial, ⟨trivial, ⟨trivial, ⟨trivial, ⟨trivial, ⟨⟨trivial, ⟨trivial, ⟨trivial, trivial⟩⟩⟩, ⟨⟨⟨⟨trivial, ⟨trivial, ⟨trivial, trivial⟩⟩⟩, ⟨Sub.refl _, trivial⟩⟩, trivial⟩, ⟨h38, trivial⟩⟩⟩⟩⟩⟩⟩⟩⟩) (h37 x38)), (fun x38 => (fun h38 => ⟨trivial, ⟨trivial, ⟨trivial, (And.elim (fun h42 k42 => ⟨(And.elim (fun h43 k43 => ⟨h43, k43⟩) h42), (Exists.elim k42 fun x43 h43 => ⟨x43, (And.elim (fun h44 k44 => ⟨⟨⟨trivial, trivial⟩, ⟨trivial, h44⟩⟩, (And.elim (fun h45 k45 => ⟨(fun x46 => (fun h46 => ⟨trivial, ⟨trivial, ⟨trivial, (And.elim (fun h50 k50 => ⟨(And.elim (fun h51 k51 => ⟨h51, k51⟩) h50), ⟨trivial, ⟨trivial, ⟨trivial, ⟨trivial, ⟨trivial, ⟨⟨trivial, ⟨trivial, ⟨trivial, trivial⟩⟩⟩, ⟨⟨⟨⟨trivial, ⟨trivial, ⟨trivial, trivial⟩⟩⟩, ⟨Sub.refl _, trivial⟩⟩, trivial⟩, ⟨k50, trivial⟩⟩⟩⟩⟩⟩⟩⟩⟩) h46)⟩⟩⟩) (h45 x46)), (fun x46 => (fun h46 => ⟨trivial, ⟨trivial, ⟨trivial, ⟨trivial, ⟨trivial, ⟨⟨trivial, ⟨trivial, ⟨trivial, trivial⟩⟩⟩, ⟨⟨⟨⟨trivial, ⟨trivial, ⟨trivial, trivial⟩⟩⟩, ⟨Sub.refl _, trivial⟩⟩, trivial⟩, ⟨h46, trivial⟩⟩⟩⟩⟩⟩⟩⟩) (k45 x46))⟩) k44)⟩) h43)⟩)⟩) h38)⟩⟩⟩) (k37 x38))⟩) k30)⟩⟩⟩⟩⟩⟩⟩) h29)⟩)⟩) h24)⟩⟩⟩) (k23 x24))⟩) h16)⟩⟩⟩⟩⟩⟩) (k15 x16))⟩) k12)⟩⟩⟩) h9)⟩⟩) (k8 x9))⟩) h)⟩⟩⟩⟩⟩⟩⟩⟩)
theorem hf34 : Go.Proofs.Try.prog.funcs[34]? = some Go.Proofs.Try.f34 := by kernel_rfl
abbrev s34_e (b : Int) : List (Nat × AV) := [(0, (.sc (.int .u8 b)))]
abbrev m34_e (b : Int) : List (Nat × Nat × AV) := []
def L34_e (b : Int) (res : AV) : Prop := Goes ⟨Go.Proofs.Try.prog, 34, [], res, []⟩ (place Go.Proofs.Try.f34 []) (s34_e b) (m34_e b)
theorem a34_e (b : Int) (res : AV) (h : (∀ slot, fact (look .undef (s34_e b) slot)) → L34_e b res) : L34_e b res :=
  assumeRule 34 [] Go.Proofs.Try.f34 hf34 [] (s34_e b) (m34_e b) res [] _ (by kernel_rfl) h
theorem o34 (b : Int) (res : AV) (hnew : newOnly res) (h : L34_e b res) : Ok Go.Proofs.Try.prog 34 [(.sc (.int .u8 b))] [] res [] :=
  okRule2 34 Go.Proofs.Try.f34 hf34 [(.sc (.int .u8 b))] [] res [] [] rfl (by kernel_rfl) (by kernel_rfl) (by kernel_rfl) ⟨hnew, by simp⟩ (L34_e b res) (by kernel_rfl) h
theorem r34_e (b : Int) (res : AV)
    (h : ((b == (10 : Int)) = true → Sub (AV.cons (1 : Nat) (AV.sc (Value.int IntKind.u8 (110 : Int))) (AV.cons (1 : Nat) (AV.sc (Value.bool true)) AV.nil)).tup res) ∧
  ((b == (10 : Int)) = false →
    ((b == (9 : Int)) = true →
        Sub (AV.cons (1 : Nat) (AV.sc (Value.int IntKind.u8 (116 : Int))) (AV.cons (1 : Nat) (AV.sc (Value.bool true)) AV.nil)).tup res) ∧
      ((b == (9 : Int)) = false →
        ((b == (13 : Int)) = true →
            Sub (AV.cons (1 : Nat) (AV.sc (Value.int IntKind.u8 (114 : Int))) (AV.cons (1 : Nat) (AV.sc (Value.bool true)) AV.nil)).tup res) ∧
          ((b == (13 : Int)) = false →
            Sub (AV.cons (1 : Nat) (AV.sc (Value.int IntKind.u8 (0 : Int))) (AV.cons (1 : Nat) (AV.sc (Value.bool false)) AV.nil)).tup res)))) :
    L34_e b res :=
  rule Go.Am.Seat.tabOk 34 [] Go.Proofs.Try.f34 hf34 [] (s34_e b) (m34_e b) res [] 400
    ((Orc.fin (AV.cons (1 : Nat) (AV.sc (Value.int IntKind.u8 (110 : Int))) (AV.cons (1 : Nat) (AV.sc (Value.bool true)) AV.nil)).tup [] []).br
  ((Orc.fin (AV.cons (1 : Nat) (AV.sc (Value.int IntKind.u8 (116 : Int))) (AV.cons (1 : Nat) (AV.sc (Value.bool true)) AV.nil)).tup [] []).br
    ((Orc.fin (AV.cons (1 : Nat) (AV.sc (Value.int IntKind.u8 (114 : Int))) (AV.cons (1 : Nat) (AV.sc (Value.bool true)) AV.nil)).tup [] []).br
      (Orc.fin (AV.cons (1 : Nat) (AV.sc (Value.int IntKind.u8 (0 : Int))) (AV.cons (1 : Nat) (AV.sc (Value.bool false)) AV.nil)).tup [] [])))) _ _ (by kernel_rfl) (by kernel_rfl) (show True ∧
  True ∧
    True ∧
      True ∧
        True ∧
          ((b == (10 : Int)) = true →
              True ∧
                True ∧
                  (True ∧ True ∧ True) ∧
                    (((True ∧ True ∧ True) ∧
                          Sub (AV.cons (1 : Nat) (AV.sc (Value.int IntKind.u8 (110 : Int))) (AV.cons (1 : Nat) (AV.sc (Value.bool true)) AV.nil)).tup
                              (AV.cons (1 : Nat) (AV.sc (Value.int IntKind.u8 (110 : Int))) (AV.cons (1 : Nat) (AV.sc (Value.bool true)) AV.nil)).tup ∧
                            True) ∧
                        True) ∧
                      Sub (AV.cons (1 : Nat) (AV.sc (Value.int IntKind.u8 (110 : Int))) (AV.cons (1 : Nat) (AV.sc (Value.bool true)) AV.nil)).tup res ∧
                        SubOut [] []) ∧
            ((b == (10 : Int)) = false →
              True ∧
                True ∧
                  ((b == (9 : Int)) = true →
                      True ∧
                        True ∧
                          (True ∧ True ∧ True) ∧
                            (((True ∧ True ∧ True) ∧
                                  Sub (AV.cons (1 : Nat) (AV.sc (Value.int IntKind.u8 (116 : Int))) (AV.cons (1 : Nat) (AV.sc (Value.bool true)) AV.nil)).tup
                                      (AV.cons (1 : Nat) (AV.sc (Value.int IntKind.u8 (116 : Int))) (AV.cons (1 : Nat) (AV.sc (Value.bool true)) AV.nil)).tup ∧
                                    True) ∧
                                True) ∧
                              Sub (AV.cons (1 : Nat) (AV.sc (Value.int IntKind.u8 (116 : Int))) (AV.cons (1 : Nat) (AV.sc (Value.bool true)) AV.nil)).tup res ∧
                                SubOut [] []) ∧
                    ((b == (9 : Int)) = false →
                      True ∧
                        True ∧
                          ((b == (13 : Int)) = true →
                              True ∧
                                True ∧
                                  (True ∧ True ∧ True) ∧
                                    (((True ∧ True ∧ True) ∧
                                          Sub
                                              (AV.cons (1 : Nat) (AV.sc (Value.int IntKind.u8 (114 : Int)))
                                                  (AV.cons (1 : Nat) (AV.sc (Value.bool true)) AV.nil)).tup
                                              (AV.cons (1 : Nat) (AV.sc (Value.int IntKind.u8 (114 : Int)))
                                                  (AV.cons (1 : Nat) (AV.sc (Value.bool true)) AV.nil)).tup ∧
                                            True) ∧
                                        True) ∧
                                      Sub
                                          (AV.cons (1 : Nat) (AV.sc (Value.int IntKind.u8 (114 : Int)))
                                              (AV.cons (1 : Nat) (AV.sc (Value.bool true)) AV.nil)).tup
                                          res ∧
                                        SubOut [] []) ∧
                            ((b == (13 : Int)) = false →
                              True ∧
                                True ∧
                                  (True ∧ True ∧ True) ∧
                                    (((True ∧ True ∧ True) ∧
                                          Sub
                                              (AV.cons (1 : Nat) (AV.sc (Value.int IntKind.u8 (0 : Int)))
                                                  (AV.cons (1 : Nat) (AV.sc (Value.bool false)) AV.nil)).tup
                                              (AV.cons (1 : Nat) (AV.sc (Value.int IntKind.u8 (0 : Int)))
                                                  (AV.cons (1 : Nat) (AV.sc (Value.bool false)) AV.nil)).tup ∧
                                            True) ∧
                                        True) ∧
                                      Sub (AV.cons (1 : Nat) (AV.sc (Value.int IntKind.u8 (0 : Int))) (AV.cons (1 : Nat) (AV.sc (Value.bool false)) AV.nil)).tup
                                          res ∧
                                        SubOut [] []))) from
    ⟨trivial, ⟨trivial, ⟨trivial, ⟨trivial, ⟨trivial, (And.elim (fun h5 k5 => ⟨(fun x6 => (fun h6 => ⟨trivial, ⟨trivial, ⟨⟨trivial, ⟨trivial, trivial⟩⟩, ⟨⟨⟨⟨trivial, ⟨trivial, trivial⟩⟩, ⟨Sub.refl _, trivial⟩⟩, trivial⟩, ⟨h6, trivial⟩⟩⟩⟩⟩) (h5 x6)), (fun x6 => (fun h6 => ⟨trivial, ⟨trivial, (And.elim (fun h9 k9 => ⟨(fun x10 => (fun h10 => ⟨trivial, ⟨trivial, ⟨⟨trivial, ⟨trivial, trivial⟩⟩, ⟨⟨⟨⟨trivial, ⟨trivial, trivial⟩⟩, ⟨Sub.refl _, trivial⟩⟩, trivial⟩, ⟨h10, trivial⟩⟩⟩⟩⟩) (h9 x10)), (fun x10 => (fun h10 => ⟨trivial, ⟨trivial, (And.elim (fun h13 k13 => ⟨(fun x14 => (fun h14 => ⟨trivial, ⟨trivial, ⟨⟨trivial, ⟨trivial, trivial⟩⟩, ⟨⟨⟨⟨trivial, ⟨trivial, trivial⟩⟩, ⟨Sub.refl _, trivial⟩⟩, trivial⟩, ⟨h14, trivial⟩⟩⟩⟩⟩) (h13 x14)), (fun x14 => (fun h14 => ⟨trivial, ⟨trivial, ⟨⟨trivial, ⟨trivial, trivial⟩⟩, ⟨⟨⟨⟨trivial, ⟨trivial, trivial⟩⟩, ⟨Sub.refl _, trivial⟩⟩, trivial⟩, ⟨h14, trivial⟩⟩⟩⟩⟩) (k13 x14))⟩) h10)⟩⟩) (k9 x10))⟩) h6)⟩⟩) (k5 x6))⟩) h)⟩⟩⟩⟩⟩)
theorem hf35 : Go.Proofs.Try.prog.funcs[35]? = some Go.Proofs.Try.f35 := by kernel_rfl
abbrev s35_e (b : Int) : List (Nat × AV) := [(0, (.sc (.int .u8 b)))]
abbrev m35_e (b : Int) : List (Nat × Nat × AV) := []
def L35_e (b : Int) (res : AV) : Prop := Goes ⟨Go.Proofs.Try.prog, 35, [], res, []⟩ (place Go.Proofs.Try.f35 []) (s35_e b) (m35_e b)
theorem a35_e (b : Int) (res : AV) (h : (∀ slot, fact (look .undef (s35_e b) slot)) → L35_e b res) : L35_e b res :=
  assumeRule 35 [] Go.Proofs.Try.f35 hf35 [] (s35_e b) (m35_e b) res [] _ (by kernel_rfl) h
abbrev s35_0 (t4 : Bool) : List (Nat × AV) := [(4, (.sc (.bool t4)))]
abbrev m35_0 (t4 : Bool) : List (Nat × Nat × AV) := []
def L35_0 (t4 : Bool) (res : AV) : Prop := Goes ⟨Go.Proofs.Try.prog, 35, [], res, []⟩ (place Go.Proofs.Try.f35 [1, 0, 1, 0, 1]) (s35_0 t4) (m35_0 t4)
theorem a35_0 (t4 : Bool) (res : AV) (h : (∀ slot, fact (look .undef (s35_0 t4) slot)) → L35_0 t4 res) : L35_0 t4 res :=
  assumeRule 35 [] Go.Proofs.Try.f35 hf35 [1, 0, 1, 0, 1] (s35_0 t4) (m35_0 t4) res [] _ (by kernel_rfl) h
abbrev s35_1 : List (Nat × AV) := []
abbrev m35_1 : List (Nat × Nat × AV) := []
def L35_1 (res : AV) : Prop := Goes ⟨Go.Proofs.Try.prog, 35, [], res, []⟩ (place Go.Proofs.Try.f35 [1, 1]) (s35_1 ) (m35_1 )
theorem a35_1 (res : AV) (h : (∀ slot, fact (look .undef (s35_1 ) slot)) → L35_1  res) : L35_1  res :=
  assumeRule 35 [] Go.Proofs.Try.f35 hf35 [1, 1] (s35_1 ) (m35_1 ) res [] _ (by kernel_rfl) h
theorem o35 (b : Int) (res : AV) (hnew : newOnly res) (h : L35_e b res) : Ok Go.Proofs.Try.prog 35 [(.sc (.int .u8 b))] [] res [] :=
  okRule2 35 Go.Proofs.Try.f35 hf35 [(.sc (.int .u8 b))] [] res [] [] rfl (by kernel_rfl) (by kernel_rfl) (by kernel_rfl) ⟨hnew, by simp⟩ (L35_e b res) (by kernel_rfl) h
theorem r35_e (b : Int) (res : AV)
    (h : ((b == (92 : Int)) = true → L35_0 true res) ∧
  ((b == (92 : Int)) = false →
    ((b == (91 : Int)) = true → L35_0 true res) ∧
      ((b == (91 : Int)) = false →
        ((b == (93 : Int)) = true → L35_0 true res) ∧
          ((b == (93 : Int)) = false → ((b == (94 : Int)) = true → L35_0 true res) ∧ ((b == (94 : Int)) = false → L35_0 (b == (45 : Int)) res))))) :
    L35_e b res :=
  rule Go.Am.Seat.tabOk 35 [] Go.Proofs.Try.f35 hf35 [] (s35_e b) (m35_e b) res [] 400
    ((Orc.cut (nat_lit 1) (s35_0 true) (m35_0 true) []).br
  ((Orc.cut (nat_lit 1) (s35_0 true) (m35_0 true) []).br
    ((Orc.cut (nat_lit 1) (s35_0 true) (m35_0 true) []).br
      ((Orc.cut (nat_lit 1) (s35_0 true) (m35_0 true) []).br (Orc.cut (nat_lit 1) (s35_0 (b == (45 : Int))) (m35_0 (b == (45 : Int))) []))))) _ _ (by kernel_rfl) (by kernel_rfl) (show True ∧
  True ∧
    True ∧
      True ∧
        ((b == (92 : Int)) = true → ((True ∧ Sub (AV.sc (Value.bool true)) (AV.sc (Value.bool true)) ∧ True) ∧ True) ∧ L35_0 true res) ∧
          ((b == (92 : Int)) = false →
            True ∧
              True ∧
                ((b == (91 : Int)) = true → ((True ∧ Sub (AV.sc (Value.bool true)) (AV.sc (Value.bool true)) ∧ True) ∧ True) ∧ L35_0 true res) ∧
                  ((b == (91 : Int)) = false →
                    True ∧
                      True ∧
                        ((b == (93 : Int)) = true → ((True ∧ Sub (AV.sc (Value.bool true)) (AV.sc (Value.bool true)) ∧ True) ∧ True) ∧ L35_0 true res) ∧
                          ((b == (93 : Int)) = false →
                            True ∧
                              True ∧
                                ((b == (94 : Int)) = true → ((True ∧ Sub (AV.sc (Value.bool true)) (AV.sc (Value.bool true)) ∧ True) ∧ True) ∧ L35_0 true res) ∧
                                  ((b == (94 : Int)) = false →
                                    True ∧
                                      True ∧
                                        ((True ∧ Sub (AV.sc (Value.bool (b == (45 : Int)))) (AV.sc (Value.bool (b == (45 : Int)))) ∧ True) ∧ True) ∧
                                          L35_0 (b == (45 : Int)) res)))) from
    ⟨trivial, ⟨trivial, ⟨trivial, ⟨trivial, (And.elim (fun h4 k4 => ⟨(fun x5 => (fun h5 => ⟨⟨⟨trivial, ⟨Sub.refl _, trivial⟩⟩, trivial⟩, h5⟩) (h4 x5)), (fun x5 => (fun h5 => ⟨trivial, ⟨trivial, (And.elim (fun h8 k8 => ⟨(fun x9 => (fun h9 => ⟨⟨⟨trivial, ⟨Sub.refl _, trivial⟩⟩, trivial⟩, h9⟩) (h8 x9)), (fun x9 => (fun h9 => ⟨trivial, ⟨trivial, (And.elim (fun h12 k12 => ⟨(fun x13 => (fun h13 => ⟨⟨⟨trivial, ⟨Sub.refl _, trivial⟩⟩, trivial⟩, h13⟩) (h12 x13)), (fun x13 => (fun h13 => ⟨trivial, ⟨trivial, (And.elim (fun h16 k16 => ⟨(fun x17 => (fun h17 => ⟨⟨⟨trivial, ⟨Sub.refl _, trivial⟩⟩, trivial⟩, h17⟩) (h16 x17)), (fun x17 => (fun h17 => ⟨trivial, ⟨trivial, ⟨⟨⟨trivial, ⟨Sub.refl _, trivial⟩⟩, trivial⟩, h17⟩⟩⟩) (k16 x17))⟩) h13)⟩⟩) (k12 x13))⟩) h9)⟩⟩) (k8 x9))⟩) h5)⟩⟩) (k4 x5))⟩) h)⟩⟩⟩⟩)
theorem r35_0 (t4 : Bool) (res : AV)
    (h : (t4 = true → Sub (AV.sc (Value.bool true)) res) ∧ (t4 = false → L35_1 res)) :
    L35_0 t4 res :=
  rule Go.Am.Seat.tabOk 35 [] Go.Proofs.Try.f35 hf35 [1, 0, 1, 0, 1] (s35_0 t4) (m35_0 t4) res [] 400
    ((Orc.fin (AV.sc (Value.bool true)) [] []).br (Orc.cut (nat_lit 2) s35_1 m35_1 [])) _ _ (by kernel_rfl) (by kernel_rfl) (show (t4 = true →
    True ∧ True ∧ ((True ∧ Sub (AV.sc (Value.bool true)) (AV.sc (Value.bool true)) ∧ True) ∧ True) ∧ Sub (AV.sc (Value.bool true)) res ∧ SubOut [] []) ∧
  (t4 = false → (True ∧ True) ∧ L35_1 res) from
    (And.elim (fun h0 k0 => ⟨(fun x1 => (fun h1 => ⟨trivial, ⟨trivial, ⟨⟨⟨trivial, ⟨Sub.refl _, trivial⟩⟩, trivial⟩, ⟨h1, trivial⟩⟩⟩⟩) (h0 x1)), (fun x1 => (fun h1 => ⟨⟨trivial, trivial⟩, h1⟩) (k0 x1))⟩) h))
theorem r35_1 (res : AV)
    (h : Sub (AV.sc (Value.bool false)) res) :
    L35_1  res :=
  rule Go.Am.Seat.tabOk 35 [] Go.Proofs.Try.f35 hf35 [1, 1] (s35_1 ) (m35_1 ) res [] 400
    (Orc.fin (AV.sc (Value.bool false)) [] []) _ _ (by kernel_rfl) (by kernel_rfl) (show True ∧ True ∧ ((True ∧ Sub (AV.sc (Value.bool false)) (AV.sc (Value.bool false)) ∧ True) ∧ True) ∧ Sub (AV.sc (Value.bool false)) res ∧ SubOut [] [] from
    ⟨trivial, ⟨trivial, ⟨⟨⟨trivial, ⟨Sub.refl _, trivial⟩⟩, trivial⟩, ⟨h, trivial⟩⟩⟩⟩)
theorem hf36 : Go.Proofs.Try.prog.funcs[36]? = some Go.Proofs.Try.f36 := by kernel_rfl
abbrev s36_e (c : Int) : List (Nat × AV) := [(0, (.sc (.int .u8 c)))]
abbrev m36_e (c : Int) : List (Nat × Nat × AV) := []
def L36_e (c : Int) (res : AV) : Prop := Goes ⟨Go.Proofs.Try.prog, 36, [], res, []⟩ (place Go.Proofs.Try.f36 []) (s36_e c) (m36_e c)
theorem a36_e (c : Int) (res : AV) (h : (∀ slot, fact (look .undef (s36_e c) slot)) → L36_e c res) : L36_e c res :=
  assumeRule 36 [] Go.Proofs.Try.f36 hf36 [] (s36_e c) (m36_e c) res [] _ (by kernel_rfl) h
theorem o36 (c : Int) (res : AV) (hnew : newOnly res) (h : L36_e c res) : Ok Go.Proofs.Try.prog 36 [(.sc (.int .u8 c))] [] res [] :=
  okRule2 36 Go.Proofs.Try.f36 hf36 [(.sc (.int .u8 c))] [] res [] [] rfl (by kernel_rfl) (by kernel_rfl) (by kernel_rfl) ⟨hnew, by simp⟩ (L36_e c res) (by kernel_rfl) h
theorem r36_e (c : Int) (res : AV)
    (h : ((c == (110 : Int)) = true → Sub (AV.cons (1 : Nat) (AV.sc (Value.int IntKind.u8 (10 : Int))) (AV.cons (1 : Nat) (AV.sc (Value.bool true)) AV.nil)).tup res) ∧
  ((c == (110 : Int)) = false →
    ((c == (116 : Int)) = true →
        Sub (AV.cons (1 : Nat) (AV.sc (Value.int IntKind.u8 (9 : Int))) (AV.cons (1 : Nat) (AV.sc (Value.bool true)) AV.nil)).tup res) ∧
      ((c == (116 : Int)) = false →
        ((c == (114 : Int)) = true →
            Sub (AV.cons (1 : Nat) (AV.sc (Value.int IntKind.u8 (13 : Int))) (AV.cons (1 : Nat) (AV.sc (Value.bool true)) AV.nil)).tup res) ∧
          ((c == (114 : Int)) = false →
            Sub (AV.cons (1 : Nat) (AV.sc (Value.int IntKind.u8 (0 : Int))) (AV.cons (1 : Nat) (AV.sc (Value.bool false)) AV.nil)).tup res)))) :
    L36_e c res :=
  rule Go.Am.Seat.tabOk 36 [] Go.Proofs.Try.f36 hf36 [] (s36_e c) (m36_e c) res [] 400
    ((Orc.fin (AV.cons (1 : Nat) (AV.sc (Value.int IntKind.u8 (10 : Int))) (AV.cons (1 : Nat) (AV.sc (Value.bool true)) AV.nil)).tup [] []).br
  ((Orc.fin (AV.cons (1 : Nat) (AV.sc (Value.int IntKind.u8 (9 : Int))) (AV.cons (1 : Nat) (AV.sc (Value.bool true)) AV.nil)).tup [] []).br
    ((Orc.fin (AV.cons (1 : Nat) (AV.sc (Value.int IntKind.u8 (13 : Int))) (AV.cons (1 : Nat) (AV.sc (Value.bool true)) AV.nil)).tup [] []).br
      (Orc.fin (AV.cons (1 : Nat) (AV.sc (Value.int IntKind.u8 (0 : Int))) (AV.cons (1 : Nat) (AV.sc (Value.bool false)) AV.nil)).tup [] [])))) _ _ (by kernel_rfl) (by kernel_rfl) (show True ∧
  True ∧
    True ∧
      True ∧
        True ∧
          ((c == (110 : Int)) = true →
              True ∧
                True ∧
                  (True ∧ True ∧ True) ∧
                    (((True ∧ True ∧ True) ∧
                          Sub (AV.cons (1 : Nat) (AV.sc (Value.int IntKind.u8 (10 : Int))) (AV.cons (1 : Nat) (AV.sc (Value.bool true)) AV.nil)).tup
                              (AV.cons (1 : Nat) (AV.sc (Value.int IntKind.u8 (10 : Int))) (AV.cons (1 : Nat) (AV.sc (Value.bool true)) AV.nil)).tup ∧
                            True) ∧
                        True) ∧
                      Sub (AV.cons (1 : Nat) (AV.sc (Value.int IntKind.u8 (10 : Int))) (AV.cons (1 : Nat) (AV.sc (Value.bool true)) AV.nil)).tup res ∧
                        SubOut [] []) ∧
            ((c == (110 : Int)) = false →
              True ∧
                True ∧
                  ((c == (116 : Int)) = true →
                      True ∧
                        True ∧
                          (True ∧ True ∧ True) ∧
                            (((True ∧ True ∧ True) ∧
                                  Sub (AV.cons (1 : Nat) (AV.sc (Value.int IntKind.u8 (9 : Int))) (AV.cons (1 : Nat) (AV.sc (Value.bool true)) AV.nil)).tup
                                      (AV.cons (1 : Nat) (AV.sc (Value.int IntKind.u8 (9 : Int))) (AV.cons (1 : Nat) (AV.sc (Value.bool true)) AV.nil)).tup ∧
                                    True) ∧
                                True) ∧
                              Sub (AV.cons (1 : Nat) (AV.sc (Value.int IntKind.u8 (9 : Int))) (AV.cons (1 : Nat) (AV.sc (Value.bool true)) AV.nil)).tup res ∧
                                SubOut [] []) ∧
                    ((c == (116 : Int)) = false →
                      True ∧
                        True ∧
                          ((c == (114 : Int)) = true →
                              True ∧
                                True ∧
                                  (True ∧ True ∧ True) ∧
                                    (((True ∧ True ∧ True) ∧
                                          Sub
                                              (AV.cons (1 : Nat) (AV.sc (Value.int IntKind.u8 (13 : Int)))
                                                  (AV.cons (1 : Nat) (AV.sc (Value.bool true)) AV.nil)).tup
                                              (AV.cons (1 : Nat) (AV.sc (Value.int IntKind.u8 (13 : Int)))
                                                  (AV.cons (1 : Nat) (AV.sc (Value.bool true)) AV.nil)).tup ∧
                                            True) ∧
                                        True) ∧
                                      Sub (AV.cons (1 : Nat) (AV.sc (Value.int IntKind.u8 (13 : Int))) (AV.cons (1 : Nat) (AV.sc (Value.bool true)) AV.nil)).tup
                                          res ∧
                                        SubOut [] []) ∧
                            ((c == (114 : Int)) = false →
                              True ∧
                                True ∧
                                  (True ∧ True ∧ True) ∧
                                    (((True ∧ True ∧ True) ∧
                                          Sub
                                              (AV.cons (1 : Nat) (AV.sc (Value.int IntKind.u8 (0 : Int)))
                                                  (AV.cons (1 : Nat) (AV.sc (Value.bool false)) AV.nil)).tup
                                              (AV.cons (1 : Nat) (AV.sc (Value.int IntKind.u8 (0 : Int)))
                                                  (AV.cons (1 : Nat) (AV.sc (Value.bool false)) AV.nil)).tup ∧
                                            True) ∧
                                        True) ∧
                                      Sub (AV.cons (1 : Nat) (AV.sc (Value.int IntKind.u8 (0 : Int))) (AV.cons (1 : Nat) (AV.sc (Value.bool false)) AV.nil)).tup
                                          res ∧
                                        SubOut [] []))) from
    ⟨trivial, ⟨trivial, ⟨trivial, ⟨trivial, ⟨trivial, (And.elim (fun h5 k5 => ⟨(fun x6 => (fun h6 => ⟨trivial, ⟨trivial, ⟨⟨trivial, ⟨trivial, trivial⟩⟩, ⟨⟨⟨⟨trivial, ⟨trivial, trivial⟩⟩, ⟨Sub.refl _, trivial⟩⟩, trivial⟩, ⟨h6, trivial⟩⟩⟩⟩⟩) (h5 x6)), (fun x6 => (fun h6 => ⟨trivial, ⟨trivial, (And.elim (fun h9 k9 => ⟨(fun x10 => (fun h10 => ⟨trivial, ⟨trivial, ⟨⟨trivial, ⟨trivial, trivial⟩⟩, ⟨⟨⟨⟨trivial, ⟨trivial, trivial⟩⟩, ⟨Sub.refl _, trivial⟩⟩, trivial⟩, ⟨h10, trivial⟩⟩⟩⟩⟩) (h9 x10)), (fun x10 => (fun h10 => ⟨trivial, ⟨trivial, (And.elim (fun h13 k13 => ⟨(fun x14 => (fun h14 => ⟨trivial, ⟨trivial, ⟨⟨trivial, ⟨trivial, trivial⟩⟩, ⟨⟨⟨⟨trivial, ⟨trivial, trivial⟩⟩, ⟨Sub.refl _, trivial⟩⟩, trivial⟩, ⟨h14, trivial⟩⟩⟩⟩⟩) (h13 x14)), (fun x14 => (fun h14 => ⟨trivial, ⟨trivial, ⟨⟨trivial, ⟨trivial, trivial⟩⟩, ⟨⟨⟨⟨trivial, ⟨trivial, trivial⟩⟩, ⟨Sub.refl _, trivial⟩⟩, trivial⟩, ⟨h14, trivial⟩⟩⟩⟩⟩) (k13 x14))⟩) h10)⟩⟩) (k9 x10))⟩) h6)⟩⟩) (k5 x6))⟩) h)⟩⟩⟩⟩⟩)
theorem hf37 : Go.Proofs.Try.prog.funcs[37]? = some Go.Proofs.Try.f37 := by kernel_rfl
abbrev s37_e (b : Int) : List (Nat × AV) := [(0, (.sc (.int .u8 b)))]
abbrev m37_e (b : Int) : List (Nat × Nat × AV) := []
def L37_e (b : Int) (res : AV) : Prop := Goes ⟨Go.Proofs.Try.prog, 37, [], res, []⟩ (place Go.Proofs.Try.f37 []) (s37_e b) (m37_e b)
theorem a37_e (b : Int) (res : AV) (h : (∀ slot, fact (look .undef (s37_e b) slot)) → L37_e b res) : L37_e b res :=
  assumeRule 37 [] Go.Proofs.Try.f37 hf37 [] (s37_e b) (m37_e b) res [] _ (by kernel_rfl) h
theorem o37 (b : Int) (res : AV) (hnew : newOnly res) (h : L37_e b res) : Ok Go.Proofs.Try.prog 37 [(.sc (.int .u8 b))] [] res [] :=
  okRule2 37 Go.Proofs.Try.f37 hf37 [(.sc (.int .u8 b))] [] res [] [] rfl (by kernel_rfl) (by kernel_rfl) (by kernel_rfl) ⟨hnew, by simp⟩ (L37_e b res) (by kernel_rfl) h
theorem r37_e (b : Int) (res : AV)
    (h : ((b == (92 : Int)) = false →
    ((b == (91 : Int)) = false →
        ((b == (93 : Int)) = false →
            ((b == (94 : Int)) = false → Sub (AV.sc (Value.bool (b == (45 : Int)))) res) ∧ ((b == (94 : Int)) = !false → Sub (AV.sc (Value.bool true)) res)) ∧
          ((b == (93 : Int)) = !false → Sub (AV.sc (Value.bool true)) res)) ∧
      ((b == (91 : Int)) = !false → Sub (AV.sc (Value.bool true)) res)) ∧
  ((b == (92 : Int)) = !false → Sub (AV.sc (Value.bool true)) res)) :
    L37_e b res :=
  rule Go.Am.Seat.tabOk 37 [] Go.Proofs.Try.f37 hf37 [] (s37_e b) (m37_e b) res [] 400
    (((((Orc.fin (AV.sc (Value.bool (bif false then true else b == (45 : Int)))) [] []).yes.br (Orc.fin (AV.sc (Value.bool true)) [] []).no).yes.br
              (Orc.fin (AV.sc (Value.bool true)) [] []).no.no.no).yes.br
        (Orc.fin (AV.sc (Value.bool true)) [] []).no.no.no.no.no).yes.br
  (Orc.fin (AV.sc (Value.bool true)) [] []).no.no.no.no.no.no.no) _ _ (by kernel_rfl) (by kernel_rfl) (show True ∧
  True ∧
    True ∧
      True ∧
        ((b == (92 : Int)) = false →
            True ∧
              false = false ∧
                True ∧
                  True ∧
                    True ∧
                      ((b == (91 : Int)) = false →
                          True ∧
                            false = false ∧
                              True ∧
                                True ∧
                                  True ∧
                                    ((b == (93 : Int)) = false →
                                        True ∧
                                          false = false ∧
                                            True ∧
                                              True ∧
                                                True ∧
                                                  ((b == (94 : Int)) = false →
                                                      True ∧
                                                        false = false ∧
                                                          True ∧
                                                            True ∧
                                                              True ∧
                                                                True ∧
                                                                  ((True ∧
                                                                        Sub (AV.sc (Value.bool (b == (45 : Int)))) (AV.sc (Value.bool (b == (45 : Int)))) ∧
                                                                          True) ∧
                                                                      True) ∧
                                                                    Sub (AV.sc (Value.bool (b == (45 : Int)))) res ∧ SubOut [] []) ∧
                                                    ((b == (94 : Int)) = !false →
                                                      true = true ∧
                                                        (!false) = !false ∧
                                                          true = true ∧
                                                            True ∧
                                                              True ∧
                                                                True ∧
                                                                  ((True ∧ Sub (AV.sc (Value.bool true)) (AV.sc (Value.bool true)) ∧ True) ∧ True) ∧
                                                                    Sub (AV.sc (Value.bool true)) res ∧ SubOut [] [])) ∧
                                      ((b == (93 : Int)) = !false →
                                        true = true ∧
                                          (!false) = !false ∧
                                            true = true ∧
                                              True ∧
                                                True ∧
                                                  true = !false ∧
                                                    true = true ∧
                                                      (!false) = !false ∧
                                                        true = true ∧
                                                          True ∧
                                                            True ∧
                                                              True ∧
                                                                ((True ∧ Sub (AV.sc (Value.bool true)) (AV.sc (Value.bool true)) ∧ True) ∧ True) ∧
                                                                  Sub (AV.sc (Value.bool true)) res ∧ SubOut [] [])) ∧
                        ((b == (91 : Int)) = !false →
                          true = true ∧
                            (!false) = !false ∧
                              true = true ∧
                                True ∧
                                  True ∧
                                    true = !false ∧
                                      true = true ∧
                                        (!false) = !false ∧
                                          true = true ∧
                                            True ∧
                                              True ∧
                                                true = !false ∧
                                                  true = true ∧
                                                    (!false) = !false ∧
                                                      true = true ∧
                                                        True ∧
                                                          True ∧
                                                            True ∧
                                                              ((True ∧ Sub (AV.sc (Value.bool true)) (AV.sc (Value.bool true)) ∧ True) ∧ True) ∧
                                                                Sub (AV.sc (Value.bool true)) res ∧ SubOut [] [])) ∧
          ((b == (92 : Int)) = !false →
            true = true ∧
              (!false) = !false ∧
                true = true ∧
                  True ∧
                    True ∧
                      true = !false ∧
                        true = true ∧
                          (!false) = !false ∧
                            true = true ∧
                              True ∧
                                True ∧
                                  true = !false ∧
                                    true = true ∧
                                      (!false) = !false ∧
                                        true = true ∧
                                          True ∧
                                            True ∧
                                              true = !false ∧
                                                true = true ∧
                                                  (!false) = !false ∧
                                                    true = true ∧
                                                      True ∧
                                                        True ∧
                                                          True ∧
                                                            ((True ∧ Sub (AV.sc (Value.bool true)) (AV.sc (Value.bool true)) ∧ True) ∧ True) ∧
                                                              Sub (AV.sc (Value.bool true)) res ∧ SubOut [] []) from
    ⟨trivial, ⟨trivial, ⟨trivial, ⟨trivial, (And.elim (fun h4 k4 => ⟨(fun x5 => (fun h5 => ⟨trivial, ⟨rfl, ⟨trivial, ⟨trivial, ⟨trivial, (And.elim (fun h11 k11 => ⟨(fun x12 => (fun h12 => ⟨trivial, ⟨rfl, ⟨trivial, ⟨trivial, ⟨trivial, (And.elim (fun h18 k18 => ⟨(fun x19 => (fun h19 => ⟨trivial, ⟨rfl, ⟨trivial, ⟨trivial, ⟨trivial, (And.elim (fun h25 k25 => ⟨(fun x26 => (fun h26 => ⟨trivial, ⟨rfl, ⟨trivial, ⟨trivial, ⟨trivial, ⟨trivial, ⟨⟨⟨trivial, ⟨Sub.refl _, trivial⟩⟩, trivial⟩, ⟨h26, trivial⟩⟩⟩⟩⟩⟩⟩⟩) (h25 x26)), (fun x26 => (fun h26 => ⟨rfl, ⟨rfl, ⟨rfl, ⟨trivial, ⟨trivial, ⟨trivial, ⟨⟨⟨trivial, ⟨Sub.refl _, trivial⟩⟩, trivial⟩, ⟨h26, trivial⟩⟩⟩⟩⟩⟩⟩⟩) (k25 x26))⟩) h19)⟩⟩⟩⟩⟩) (h18 x19)), (fun x19 => (fun h19 => ⟨rfl, ⟨rfl, ⟨rfl, ⟨trivial, ⟨trivial, ⟨rfl, ⟨rfl, ⟨rfl, ⟨rfl, ⟨trivial, ⟨trivial, ⟨trivial, ⟨⟨⟨trivial, ⟨Sub.refl _, trivial⟩⟩, trivial⟩, ⟨h19, trivial⟩⟩⟩⟩⟩⟩⟩⟩⟩⟩⟩⟩⟩⟩) (k18 x19))⟩) h12)⟩⟩⟩⟩⟩) (h11 x12)), (fun x12 => (fun h12 => ⟨rfl, ⟨rfl, ⟨rfl, ⟨trivial, ⟨trivial, ⟨rfl, ⟨rfl, ⟨rfl, ⟨rfl, ⟨trivial, ⟨trivial, ⟨rfl, ⟨rfl, ⟨rfl, ⟨rfl, ⟨trivial, ⟨trivial, ⟨trivial, ⟨⟨⟨trivial, ⟨Sub.refl _, trivial⟩⟩, trivial⟩, ⟨h12, trivial⟩⟩⟩⟩⟩⟩⟩⟩⟩⟩⟩⟩⟩⟩⟩⟩⟩⟩⟩⟩) (k11 x12))⟩) h5)⟩⟩⟩⟩⟩) (h4 x5)), (fun x5 => (fun h5 => ⟨rfl, ⟨rfl, ⟨rfl, ⟨trivial, ⟨trivial, ⟨rfl, ⟨rfl, ⟨rfl, ⟨rfl, ⟨trivial, ⟨trivial, ⟨rfl, ⟨rfl, ⟨rfl, ⟨rfl, ⟨trivial, ⟨trivial, ⟨rfl, ⟨rfl, ⟨rfl, ⟨rfl, ⟨trivial, ⟨trivial, ⟨trivial, ⟨⟨⟨trivial, ⟨Sub.refl _, trivial⟩⟩, trivial⟩, ⟨h5, trivial⟩⟩⟩⟩⟩⟩⟩⟩⟩⟩⟩⟩⟩⟩⟩⟩⟩⟩⟩⟩⟩⟩⟩⟩⟩⟩) (k4 x5))⟩) h)⟩⟩⟩⟩)
end Go.Am.Seat
