/- The rules of 2 functions: from what is owed at each place of a function the function goes on as it is told there. Printed by a program of this seat; Lean checks each. -/
import Derived.Test.YtpmgbnlenpgdoaaAmZ2
import Derived.Test.YtpmgbnlenpgdoaaTab
open Go Go.Am Go.Am.Seat
namespace Go.Am.Seat
set_option linter.unusedVariables false
set_option maxRecDepth 100000
theorem hf113 : Go.Proofs.Try.prog.funcs[113]? = some Go.Proofs.Try.f113 := by kernel_rfl
abbrev s113_e (s : ByteArray) (at_ : Int) : List (Nat × AV) := [(0, (.sc (.string s))), (1, (.sc (.int .i64 at_)))]
abbrev m113_e (s : ByteArray) (at_ : Int) : List (Nat × Nat × AV) := []
def L113_e (s : ByteArray) (at_ : Int) (res : AV) : Prop := Goes ⟨Go.Proofs.Try.prog, 113, [], res, []⟩ (place Go.Proofs.Try.f113 []) (s113_e s at_) (m113_e s at_)
theorem a113_e (s : ByteArray) (at_ : Int) (res : AV) (h : (∀ slot, fact (look .undef (s113_e s at_) slot)) → L113_e s at_ res) : L113_e s at_ res :=
  assumeRule 113 [] Go.Proofs.Try.f113 hf113 [] (s113_e s at_) (m113_e s at_) res [] _ (by kernel_rfl) h
theorem o113 (s : ByteArray) (at_ : Int) (res : AV) (hnew : newOnly res) (h : L113_e s at_ res) : Ok Go.Proofs.Try.prog 113 [(.sc (.string s)), (.sc (.int .i64 at_))] [] res [] :=
  okRule2 113 Go.Proofs.Try.f113 hf113 [(.sc (.string s)), (.sc (.int .i64 at_))] [] res [] [] rfl (by kernel_rfl) (by kernel_rfl) (by kernel_rfl) ⟨hnew, by simp⟩ (L113_e s at_ res) (by kernel_rfl) h
theorem r113_e (s : ByteArray) (at_ : Int) (res : AV)
    (h : (decide (at_ ≥ (↑s.size : Int)) = true →
    Sub
      (AV.cons (1 : Nat) (AV.sc (Value.int IntKind.u8 (0 : Int)))
          (AV.cons (1 : Nat) (AV.sc (Value.int IntKind.i64 at_)) (AV.cons (1 : Nat) (AV.sc (Value.bool false)) AV.nil))).tup
      res) ∧
  (decide (at_ ≥ (↑s.size : Int)) = false →
    ((0 : Int) ≤ at_ ∧ at_ < (↑s.size : Int)) ∧
      (((↑(byteAt s at_.toNat).toNat : Int) != (92 : Int)) = true →
          ((0 : Int) ≤ at_ ∧ at_ < (↑s.size : Int)) ∧
            ∃ (r : Bool),
              Ok Proofs.Try.prog (101 : Nat) [AV.sc (Value.int IntKind.u8 (↑(byteAt s at_.toNat).toNat : Int))] [] (AV.sc (Value.bool r)) [] ∧
                (r = true →
                    Sub
                      (AV.cons (1 : Nat) (AV.sc (Value.int IntKind.u8 (0 : Int)))
                          (AV.cons (1 : Nat) (AV.sc (Value.int IntKind.i64 at_)) (AV.cons (1 : Nat) (AV.sc (Value.bool false)) AV.nil))).tup
                      res) ∧
                  (r = false →
                    ((0 : Int) ≤ at_ ∧ at_ < (↑s.size : Int)) ∧
                      Sub
                        (AV.cons (1 : Nat) (AV.sc (Value.int IntKind.u8 (↑(byteAt s at_.toNat).toNat : Int)))
                            (AV.cons (1 : Nat) (AV.sc (Value.int IntKind.i64 (IntKind.i64.wrap (at_ + (1 : Int)))))
                              (AV.cons (1 : Nat) (AV.sc (Value.bool true)) AV.nil))).tup
                        res)) ∧
        (((↑(byteAt s at_.toNat).toNat : Int) != (92 : Int)) = false →
          (decide (IntKind.i64.wrap (at_ + (1 : Int)) ≥ (↑s.size : Int)) = true →
              Sub
                (AV.cons (1 : Nat) (AV.sc (Value.int IntKind.u8 (0 : Int)))
                    (AV.cons (1 : Nat) (AV.sc (Value.int IntKind.i64 (IntKind.i64.wrap (at_ + (1 : Int)))))
                      (AV.cons (1 : Nat) (AV.sc (Value.bool false)) AV.nil))).tup
                res) ∧
            (decide (IntKind.i64.wrap (at_ + (1 : Int)) ≥ (↑s.size : Int)) = false →
              ((0 : Int) ≤ IntKind.i64.wrap (at_ + (1 : Int)) ∧ IntKind.i64.wrap (at_ + (1 : Int)) < (↑s.size : Int)) ∧
                ∃ (r : Int × Bool),
                  Ok Proofs.Try.prog (115 : Nat) [AV.sc (Value.int IntKind.u8 (↑(byteAt s (IntKind.i64.wrap (at_ + (1 : Int))).toNat).toNat : Int))] []
                      (AV.cons (1 : Nat) (AV.sc (Value.int IntKind.u8 r.fst)) (AV.cons (1 : Nat) (AV.sc (Value.bool r.snd)) AV.nil)).tup [] ∧
                    (r.snd = true →
                        Sub
                          (AV.cons (1 : Nat) (AV.sc (Value.int IntKind.u8 r.fst))
                              (AV.cons (1 : Nat) (AV.sc (Value.int IntKind.i64 (IntKind.i64.wrap (at_ + (2 : Int)))))
                                (AV.cons (1 : Nat) (AV.sc (Value.bool true)) AV.nil))).tup
                          res) ∧
                      (r.snd = false →
                        ((0 : Int) ≤ IntKind.i64.wrap (at_ + (1 : Int)) ∧ IntKind.i64.wrap (at_ + (1 : Int)) < (↑s.size : Int)) ∧
                          ∃ (r : Bool),
                            Ok Proofs.Try.prog (101 : Nat) [AV.sc (Value.int IntKind.u8 (↑(byteAt s (IntKind.i64.wrap (at_ + (1 : Int))).toNat).toNat : Int))]
                                [] (AV.sc (Value.bool r)) [] ∧
                              (r = true →
                                  ((0 : Int) ≤ IntKind.i64.wrap (at_ + (1 : Int)) ∧ IntKind.i64.wrap (at_ + (1 : Int)) < (↑s.size : Int)) ∧
                                    Sub
                                      (AV.cons (1 : Nat) (AV.sc (Value.int IntKind.u8 (↑(byteAt s (IntKind.i64.wrap (at_ + (1 : Int))).toNat).toNat : Int)))
                                          (AV.cons (1 : Nat) (AV.sc (Value.int IntKind.i64 (IntKind.i64.wrap (at_ + (2 : Int)))))
                                            (AV.cons (1 : Nat) (AV.sc (Value.bool true)) AV.nil))).tup
                                      res) ∧
                                (r = false →
                                  Sub
                                    (AV.cons (1 : Nat) (AV.sc (Value.int IntKind.u8 (0 : Int)))
                                        (AV.cons (1 : Nat) (AV.sc (Value.int IntKind.i64 (IntKind.i64.wrap (at_ + (1 : Int)))))
                                          (AV.cons (1 : Nat) (AV.sc (Value.bool false)) AV.nil))).tup
                                    res)))))) :
    L113_e s at_ res :=
  rule Go.Am.Seat.tabOk 113 [] Go.Proofs.Try.f113 hf113 [] (s113_e s at_) (m113_e s at_) res [] 400
    ((Orc.fin
      (AV.cons (1 : Nat) (AV.sc (Value.int IntKind.u8 (0 : Int)))
          (AV.cons (1 : Nat) (AV.sc (Value.int IntKind.i64 at_)) (AV.cons (1 : Nat) (AV.sc (Value.bool false)) AV.nil))).tup
      [] []).br
  ((Orc.call [] [] (fun (r101 : Bool) => AV.sc (Value.bool r101)) (fun (r101 : Bool) => []) fun (r101 : Bool) =>
        (Orc.fin
              (AV.cons (1 : Nat) (AV.sc (Value.int IntKind.u8 (0 : Int)))
                  (AV.cons (1 : Nat) (AV.sc (Value.int IntKind.i64 at_)) (AV.cons (1 : Nat) (AV.sc (Value.bool false)) AV.nil))).tup
              [] []).br
          (Orc.fin
            (AV.cons (1 : Nat) (AV.sc (Value.int IntKind.u8 (↑(byteAt s at_.toNat).toNat : Int)))
                (AV.cons (1 : Nat) (AV.sc (Value.int IntKind.i64 (IntKind.i64.wrap (at_ + (1 : Int)))))
                  (AV.cons (1 : Nat) (AV.sc (Value.bool true)) AV.nil))).tup
            [] [])).br
    ((Orc.fin
          (AV.cons (1 : Nat) (AV.sc (Value.int IntKind.u8 (0 : Int)))
              (AV.cons (1 : Nat) (AV.sc (Value.int IntKind.i64 (IntKind.i64.wrap (at_ + (1 : Int)))))
                (AV.cons (1 : Nat) (AV.sc (Value.bool false)) AV.nil))).tup
          [] []).br
      (Orc.call [] []
        (fun (r115 : Int × Bool) => (AV.cons (1 : Nat) (AV.sc (Value.int IntKind.u8 r115.fst)) (AV.cons (1 : Nat) (AV.sc (Value.bool r115.snd)) AV.nil)).tup)
        (fun (r115 : Int × Bool) => []) fun (r115 : Int × Bool) =>
        (Orc.fin
              (AV.cons (1 : Nat) (AV.sc (Value.int IntKind.u8 r115.fst))
                  (AV.cons (1 : Nat) (AV.sc (Value.int IntKind.i64 (IntKind.i64.wrap (at_ + (2 : Int)))))
                    (AV.cons (1 : Nat) (AV.sc (Value.bool true)) AV.nil))).tup
              [] []).br
          (Orc.call [] [] (fun (r101 : Bool) => AV.sc (Value.bool r101)) (fun (r101 : Bool) => []) fun (r101 : Bool) =>
            (Orc.fin
                  (AV.cons (1 : Nat) (AV.sc (Value.int IntKind.u8 (↑(byteAt s (IntKind.i64.wrap (at_ + (1 : Int))).toNat).toNat : Int)))
                      (AV.cons (1 : Nat) (AV.sc (Value.int IntKind.i64 (IntKind.i64.wrap (at_ + (2 : Int)))))
                        (AV.cons (1 : Nat) (AV.sc (Value.bool true)) AV.nil))).tup
                  [] []).br
              (Orc.fin
                (AV.cons (1 : Nat) (AV.sc (Value.int IntKind.u8 (0 : Int)))
                    (AV.cons (1 : Nat) (AV.sc (Value.int IntKind.i64 (IntKind.i64.wrap (at_ + (1 : Int)))))
                      (AV.cons (1 : Nat) (AV.sc (Value.bool false)) AV.nil))).tup
                [] [])))))) _ _ (by kernel_rfl) (by kernel_rfl) (show True ∧
  True ∧
    True ∧
      True ∧
        True ∧
          True ∧
            True ∧
              True ∧
                (decide (at_ ≥ (↑s.size : Int)) = true →
                    True ∧
                      True ∧
                        True ∧
                          True ∧
                            (True ∧ True ∧ True ∧ True) ∧
                              (((True ∧ True ∧ True ∧ True) ∧
                                    Sub
                                        (AV.cons (1 : Nat) (AV.sc (Value.int IntKind.u8 (0 : Int)))
                                            (AV.cons (1 : Nat) (AV.sc (Value.int IntKind.i64 at_)) (AV.cons (1 : Nat) (AV.sc (Value.bool false)) AV.nil))).tup
                                        (AV.cons (1 : Nat) (AV.sc (Value.int IntKind.u8 (0 : Int)))
                                            (AV.cons (1 : Nat) (AV.sc (Value.int IntKind.i64 at_)) (AV.cons (1 : Nat) (AV.sc (Value.bool false)) AV.nil))).tup ∧
                                      True) ∧
                                  True) ∧
                                Sub
                                    (AV.cons (1 : Nat) (AV.sc (Value.int IntKind.u8 (0 : Int)))
                                        (AV.cons (1 : Nat) (AV.sc (Value.int IntKind.i64 at_)) (AV.cons (1 : Nat) (AV.sc (Value.bool false)) AV.nil))).tup
                                    res ∧
                                  SubOut [] []) ∧
                  (decide (at_ ≥ (↑s.size : Int)) = false →
                    True ∧
                      True ∧
                        ((0 : Int) ≤ at_ ∧ at_ < (↑s.size : Int)) ∧
                          True ∧
                            True ∧
                              (((↑(byteAt s at_.toNat).toNat : Int) != (92 : Int)) = true →
                                  True ∧
                                    True ∧
                                      ((0 : Int) ≤ at_ ∧ at_ < (↑s.size : Int)) ∧
                                        ∃ (r : Bool),
                                          ((True ∧ True) ∧
                                              True ∧
                                                Ok Proofs.Try.prog (101 : Nat) [AV.sc (Value.int IntKind.u8 (↑(byteAt s at_.toNat).toNat : Int))] []
                                                  (AV.sc (Value.bool r)) []) ∧
                                            (r = true →
                                                True ∧
                                                  True ∧
                                                    True ∧
                                                      True ∧
                                                        (True ∧ True ∧ True ∧ True) ∧
                                                          (((True ∧ True ∧ True ∧ True) ∧
                                                                Sub
                                                                    (AV.cons (1 : Nat) (AV.sc (Value.int IntKind.u8 (0 : Int)))
                                                                        (AV.cons (1 : Nat) (AV.sc (Value.int IntKind.i64 at_))
                                                                          (AV.cons (1 : Nat) (AV.sc (Value.bool false)) AV.nil))).tup
                                                                    (AV.cons (1 : Nat) (AV.sc (Value.int IntKind.u8 (0 : Int)))
                                                                        (AV.cons (1 : Nat) (AV.sc (Value.int IntKind.i64 at_))
                                                                          (AV.cons (1 : Nat) (AV.sc (Value.bool false)) AV.nil))).tup ∧
                                                                  True) ∧
                                                              True) ∧
                                                            Sub
                                                                (AV.cons (1 : Nat) (AV.sc (Value.int IntKind.u8 (0 : Int)))
                                                                    (AV.cons (1 : Nat) (AV.sc (Value.int IntKind.i64 at_))
                                                                      (AV.cons (1 : Nat) (AV.sc (Value.bool false)) AV.nil))).tup
                                                                res ∧
                                                              SubOut [] []) ∧
                                              (r = false →
                                                True ∧
                                                  True ∧
                                                    ((0 : Int) ≤ at_ ∧ at_ < (↑s.size : Int)) ∧
                                                      True ∧
                                                        True ∧
                                                          True ∧
                                                            True ∧
                                                              True ∧
                                                                (True ∧ True ∧ True ∧ True) ∧
                                                                  (((True ∧ True ∧ True ∧ True) ∧
                                                                        Sub
                                                                            (AV.cons (1 : Nat)
                                                                                (AV.sc (Value.int IntKind.u8 (↑(byteAt s at_.toNat).toNat : Int)))
                                                                                (AV.cons (1 : Nat)
                                                                                  (AV.sc (Value.int IntKind.i64 (IntKind.i64.wrap (at_ + (1 : Int)))))
                                                                                  (AV.cons (1 : Nat) (AV.sc (Value.bool true)) AV.nil))).tup
                                                                            (AV.cons (1 : Nat)
                                                                                (AV.sc (Value.int IntKind.u8 (↑(byteAt s at_.toNat).toNat : Int)))
                                                                                (AV.cons (1 : Nat)
                                                                                  (AV.sc (Value.int IntKind.i64 (IntKind.i64.wrap (at_ + (1 : Int)))))
                                                                                  (AV.cons (1 : Nat) (AV.sc (Value.bool true)) AV.nil))).tup ∧
                                                                          True) ∧
                                                                      True) ∧
                                                                    Sub
                                                                        (AV.cons (1 : Nat) (AV.sc (Value.int IntKind.u8 (↑(byteAt s at_.toNat).toNat : Int)))
                                                                            (AV.cons (1 : Nat)
                                                                              (AV.sc (Value.int IntKind.i64 (IntKind.i64.wrap (at_ + (1 : Int)))))
                                                                              (AV.cons (1 : Nat) (AV.sc (Value.bool true)) AV.nil))).tup
                                                                        res ∧
                                                                      SubOut [] [])) ∧
                                (((↑(byteAt s at_.toNat).toNat : Int) != (92 : Int)) = false →
                                  True ∧
                                    True ∧
                                      True ∧
                                        True ∧
                                          True ∧
                                            True ∧
                                              (decide (IntKind.i64.wrap (at_ + (1 : Int)) ≥ (↑s.size : Int)) = true →
                                                  True ∧
                                                    True ∧
                                                      True ∧
                                                        True ∧
                                                          True ∧
                                                            (True ∧ True ∧ True ∧ True) ∧
                                                              (((True ∧ True ∧ True ∧ True) ∧
                                                                    Sub
                                                                        (AV.cons (1 : Nat) (AV.sc (Value.int IntKind.u8 (0 : Int)))
                                                                            (AV.cons (1 : Nat)
                                                                              (AV.sc (Value.int IntKind.i64 (IntKind.i64.wrap (at_ + (1 : Int)))))
                                                                              (AV.cons (1 : Nat) (AV.sc (Value.bool false)) AV.nil))).tup
                                                                        (AV.cons (1 : Nat) (AV.sc (Value.int IntKind.u8 (0 : Int)))
                                                                            (AV.cons (1 : Nat)
                                                                              (AV.sc (Value.int IntKind.i64 (IntKind.i64.wrap (at_ + (1 : Int)))))
                                                                              (AV.cons (1 : Nat) (AV.sc (Value.bool false)) AV.nil))).tup ∧
                                                                      True) ∧
                                                                  True) ∧
                                                                Sub
                                                                    (AV.cons (1 : Nat) (AV.sc (Value.int IntKind.u8 (0 : Int)))
                                                                        (AV.cons (1 : Nat) (AV.sc (Value.int IntKind.i64 (IntKind.i64.wrap (at_ + (1 : Int)))))
                                                                          (AV.cons (1 : Nat) (AV.sc (Value.bool false)) AV.nil))).tup
                                                                    res ∧
                                                                  SubOut [] []) ∧
                                                (decide (IntKind.i64.wrap (at_ + (1 : Int)) ≥ (↑s.size : Int)) = false →
                                                  True ∧
                                                    True ∧
                                                      True ∧
                                                        ((0 : Int) ≤ IntKind.i64.wrap (at_ + (1 : Int)) ∧
                                                            IntKind.i64.wrap (at_ + (1 : Int)) < (↑s.size : Int)) ∧
                                                          ∃ (r : Int × Bool),
                                                            ((True ∧ True) ∧
                                                                True ∧
                                                                  Ok Proofs.Try.prog (115 : Nat)
                                                                    [AV.sc
                                                                        (Value.int IntKind.u8
                                                                          (↑(byteAt s (IntKind.i64.wrap (at_ + (1 : Int))).toNat).toNat : Int))]
                                                                    []
                                                                    (AV.cons (1 : Nat) (AV.sc (Value.int IntKind.u8 r.fst))
                                                                        (AV.cons (1 : Nat) (AV.sc (Value.bool r.snd)) AV.nil)).tup
                                                                    []) ∧
                                                              True ∧
                                                                True ∧
                                                                  True ∧
                                                                    True ∧
                                                                      True ∧
                                                                        True ∧
                                                                          (r.snd = true →
                                                                              True ∧
                                                                                True ∧
                                                                                  True ∧
                                                                                    True ∧
                                                                                      True ∧
                                                                                        True ∧
                                                                                          (True ∧ True ∧ True ∧ True) ∧
                                                                                            (((True ∧ True ∧ True ∧ True) ∧
                                                                                                  Sub
                                                                                                      (AV.cons (1 : Nat) (AV.sc (Value.int IntKind.u8 r.fst))
                                                                                                          (AV.cons (1 : Nat)
                                                                                                            (AV.sc
                                                                                                              (Value.int IntKind.i64
                                                                                                                (IntKind.i64.wrap (at_ + (2 : Int)))))
                                                                                                            (AV.cons (1 : Nat) (AV.sc (Value.bool true))
                                                                                                              AV.nil))).tup
                                                                                                      (AV.cons (1 : Nat) (AV.sc (Value.int IntKind.u8 r.fst))
                                                                                                          (AV.cons (1 : Nat)
                                                                                                            (AV.sc
                                                                                                              (Value.int IntKind.i64
                                                                                                                (IntKind.i64.wrap (at_ + (2 : Int)))))
                                                                                                            (AV.cons (1 : Nat) (AV.sc (Value.bool true))
                                                                                                              AV.nil))).tup ∧
                                                                                                    True) ∧
                                                                                                True) ∧
                                                                                              Sub
                                                                                                  (AV.cons (1 : Nat) (AV.sc (Value.int IntKind.u8 r.fst))
                                                                                                      (AV.cons (1 : Nat)
                                                                                                        (AV.sc
                                                                                                          (Value.int IntKind.i64
                                                                                                            (IntKind.i64.wrap (at_ + (2 : Int)))))
                                                                                                        (AV.cons (1 : Nat) (AV.sc (Value.bool true))
                                                                                                          AV.nil))).tup
                                                                                                  res ∧
                                                                                                SubOut [] []) ∧
                                                                            (r.snd = false →
                                                                              True ∧
                                                                                True ∧
                                                                                  True ∧
                                                                                    ((0 : Int) ≤ IntKind.i64.wrap (at_ + (1 : Int)) ∧
                                                                                        IntKind.i64.wrap (at_ + (1 : Int)) < (↑s.size : Int)) ∧
                                                                                      ∃ (r : Bool),
                                                                                        ((True ∧ True) ∧
                                                                                            True ∧
                                                                                              Ok Proofs.Try.prog (101 : Nat)
                                                                                                [AV.sc
                                                                                                    (Value.int IntKind.u8
                                                                                                      (↑(byteAt s
                                                                                                              (IntKind.i64.wrap
                                                                                                                  (at_ + (1 : Int))).toNat).toNat :
                                                                                                        Int))]
                                                                                                [] (AV.sc (Value.bool r)) []) ∧
                                                                                          (r = true →
                                                                                              True ∧
                                                                                                True ∧
                                                                                                  True ∧
                                                                                                    ((0 : Int) ≤ IntKind.i64.wrap (at_ + (1 : Int)) ∧
                                                                                                        IntKind.i64.wrap (at_ + (1 : Int)) < (↑s.size : Int)) ∧
                                                                                                      True ∧
                                                                                                        True ∧
                                                                                                          True ∧
                                                                                                            True ∧
                                                                                                              True ∧
                                                                                                                (True ∧ True ∧ True ∧ True) ∧
                                                                                                                  (((True ∧ True ∧ True ∧ True) ∧
                                                                                                                        Sub
                                                                                                                            (AV.cons (1 : Nat)
                                                                                                                                (AV.sc
                                                                                                                                  (Value.int IntKind.u8
                                                                                                                                    (↑(byteAt s
                                                                                                                                            (IntKind.i64.wrap
                                                                                                                                                (at_ +
                                                                                                                                                  (1 :
                                                                                                                                                    Int))).toNat).toNat :
                                                                                                                                      Int)))
                                                                                                                                (AV.cons (1 : Nat)
                                                                                                                                  (AV.sc
                                                                                                                                    (Value.int IntKind.i64
                                                                                                                                      (IntKind.i64.wrap
                                                                                                                                        (at_ + (2 : Int)))))
                                                                                                                                  (AV.cons (1 : Nat)
                                                                                                                                    (AV.sc (Value.bool true))
                                                                                                                                    AV.nil))).tup
                                                                                                                            (AV.cons (1 : Nat)
                                                                                                                                (AV.sc
                                                                                                                                  (Value.int IntKind.u8
                                                                                                                                    (↑(byteAt s
                                                                                                                                            (IntKind.i64.wrap
                                                                                                                                                (at_ +
                                                                                                                                                  (1 :
                                                                                                                                                    Int))).toNat).toNat :
                                                                                                                                      Int)))
                                                                                                                                (AV.cons (1 : Nat)
                                                                                                                                  (AV.sc
                                                                                                                                    (Value.int IntKind.i64
                                                                                                                                      (IntKind.i64.wrap
                                                                                                                                        (at_ + (2 : Int)))))
                                                                                                                                  (AV.cons (1 : Nat)
                                                                                                                                    (AV.sc (Value.bool true))
                                                                                                                                    AV.nil))).tup ∧
                                                                                                                          True) ∧
                                                                                                                      True) ∧
                                                                                                                    Sub
                                                                                                                        (AV.cons (1 : Nat)
                                                                                                                            (AV.sc
                                                                                                                              (Value.int IntKind.u8
                                                                                                                                (↑(byteAt s
                                                                                                                                        (IntKind.i64.wrap
                                                                                                                                            (at_ +
                                                                                                                                              (1 :
                                                                                                                                                Int))).toNat).toNat :
                                                                                                                                  Int)))
                                                                                                                            (AV.cons (1 : Nat)
                                                                                                                              (AV.sc
                                                                                                                                (Value.int IntKind.i64
                                                                                                                                  (IntKind.i64.wrap
                                                                                                                                    (at_ + (2 : Int)))))
                                                                                                                              (AV.cons (1 : Nat)
                                                                                                                                (AV.sc (Value.bool true))
                                                                                                                                AV.nil))).tup
                                                                                                                        res ∧
                                                                                                                      SubOut [] []) ∧
                                                                                            (r = false →
                                                                                              True ∧
                                                                                                True ∧
                                                                                                  True ∧
                                                                                                    True ∧
                                                                                                      True ∧
                                                                                                        (True ∧ True ∧ True ∧ True) ∧
                                                                                                          (((True ∧ True ∧ True ∧ True) ∧
                                                                                                                Sub
                                                                                                                    (AV.cons (1 : Nat)
                                                                                                                        (AV.sc (Value.int IntKind.u8 (0 : Int)))
                                                                                                                        (AV.cons (1 : Nat)
                                                                                                                          (AV.sc
                                                                                                                            (Value.int IntKind.i64
                                                                                                                              (IntKind.i64.wrap
                                                                                                                                (at_ + (1 : Int)))))
                                                                                                                          (AV.cons (1 : Nat)
                                                                                                                            (AV.sc (Value.bool false))
                                                                                                                            AV.nil))).tup
                                                                                                                    (AV.cons (1 : Nat)
                                                                                                                        (AV.sc (Value.int IntKind.u8 (0 : Int)))
                                                                                                                        (AV.cons (1 : Nat)
                                                                                                                          (AV.sc
                                                                                                                            (Value.int IntKind.i64
                                                                                                                              (IntKind.i64.wrap
                                                                                                                                (at_ + (1 : Int)))))
                                                                                                                          (AV.cons (1 : Nat)
                                                                                                                            (AV.sc (Value.bool false))
                                                                                                                            AV.nil))).tup ∧
                                                                                                                  True) ∧
                                                                                                              True) ∧
                                                                                                            Sub
                                                                                                                (AV.cons (1 : Nat)
                                                                                                                    (AV.sc (Value.int IntKind.u8 (0 : Int)))
                                                                                                                    (AV.cons (1 : Nat)
                                                                                                                      (AV.sc
                                                                                                                        (Value.int IntKind.i64
                                                                                                                          (IntKind.i64.wrap (at_ + (1 : Int)))))
                                                                                                                      (AV.cons (1 : Nat)
                                                                                                                        (AV.sc (Value.bool false)) AV.nil))).tup
                                                                                                                res ∧
                                                                                                              SubOut [] []))))) from
    ⟨trivial, ⟨trivial, ⟨trivial, ⟨trivial, ⟨trivial, ⟨trivial, ⟨trivial, ⟨trivial, (And.elim (fun h8 k8 => ⟨(fun x9 => (fun h9 => ⟨trivial, ⟨trivial, ⟨trivial, ⟨trivial, ⟨⟨trivial, ⟨trivial, ⟨trivial, trivial⟩⟩⟩, ⟨⟨⟨⟨trivial, ⟨trivial, ⟨trivial, trivial⟩⟩⟩, ⟨Sub.refl _, trivial⟩⟩, trivial⟩, ⟨h9, trivial⟩⟩⟩⟩⟩⟩⟩) (h8 x9)), (fun x9 => (fun h9 => ⟨trivial, ⟨trivial, (And.elim (fun h12 k12 => ⟨(And.elim (fun h13 k13 => ⟨h13, k13⟩) h12), ⟨trivial, ⟨trivial, (And.elim (fun h15 k15 => ⟨(fun x16 => (fun h16 => ⟨trivial, ⟨trivial, (And.elim (fun h19 k19 => ⟨(And.elim (fun h20 k20 => ⟨h20, k20⟩) h19), (Exists.elim k19 fun x20 h20 => ⟨x20, (And.elim (fun h21 k21 => ⟨⟨⟨trivial, trivial⟩, ⟨trivial, h21⟩⟩, (And.elim (fun h22 k22 => ⟨(fun x23 => (fun h23 => ⟨trivial, ⟨trivial, ⟨trivial, ⟨trivial, ⟨⟨trivial, ⟨trivial, ⟨trivial, trivial⟩⟩⟩, ⟨⟨⟨⟨trivial, ⟨trivial, ⟨trivial, trivial⟩⟩⟩, ⟨Sub.refl _, trivial⟩⟩, trivial⟩, ⟨h23, trivial⟩⟩⟩⟩⟩⟩⟩) (h22 x23)), (fun x23 => (fun h23 => ⟨trivial, ⟨trivial, (And.elim (fun h26 k26 => ⟨(And.elim (fun h27 k27 => ⟨h27, k27⟩) h26), ⟨trivial, ⟨trivial, ⟨trivial, ⟨trivial, ⟨trivial, ⟨⟨trivial, ⟨trivial, ⟨trivial, trivial⟩⟩⟩, ⟨⟨⟨⟨trivial, ⟨trivial, ⟨trivial, trivial⟩⟩⟩, ⟨Sub.refl _, trivial⟩⟩, trivial⟩, ⟨k26, trivial⟩⟩⟩⟩⟩⟩⟩⟩⟩) h23)⟩⟩) (k22 x23))⟩) k21)⟩) h20)⟩)⟩) h16)⟩⟩) (h15 x16)), (fun x16 => (fun h16 => ⟨trivial, ⟨trivial, ⟨trivial, ⟨trivial, ⟨trivial, ⟨trivial, (And.elim (fun h23 k23 => ⟨(fun x24 => (fun h24 => ⟨trivial, ⟨trivial, ⟨trivial, ⟨trivial, ⟨trivial, ⟨⟨trivial, ⟨trivial, ⟨trivial, trivial⟩⟩⟩, ⟨⟨⟨⟨trivial, ⟨trivial, ⟨trivial, trivial⟩⟩⟩, ⟨Sub.refl _, trivial⟩⟩, trivial⟩, ⟨h24, trivial⟩⟩⟩⟩⟩⟩⟩⟩) (h23 x24)), (fun x24 => (fun h24 => ⟨trivial, ⟨trivial, ⟨trivial, (And.elim (fun h28 k28 => ⟨(And.elim (fun h29 k29 => ⟨h29, k29⟩) h28), (Exists.elim k28 fun x29 h29 => ⟨x29, (And.elim (fun h30 k30 => ⟨⟨⟨trivial, trivial⟩, ⟨trivial, h30⟩⟩, ⟨trivial, ⟨trivial, ⟨trivial, ⟨trivial, ⟨trivial, ⟨trivial, (And.elim (fun h37 k37 => ⟨(fun x38 => (fun h38 => ⟨trivial, ⟨trivial, ⟨trivial, ⟨trivial, ⟨trivial, ⟨trivial, ⟨⟨trivial, ⟨trivial, ⟨trivial, trivial⟩⟩⟩, ⟨⟨⟨⟨trivial, ⟨trivial, ⟨trivial, trivial⟩⟩⟩, ⟨Sub.refl _, trivial⟩⟩, trivial⟩, ⟨h38, trivial⟩⟩⟩⟩⟩⟩⟩⟩⟩) (h37 x38)), (fun x38 => (fun h38 => ⟨trivial, ⟨trivial, ⟨trivial, (And.elim (fun h42 k42 => ⟨(And.elim (fun h43 k43 => ⟨h43, k43⟩) h42), (Exists.elim k42 fun x43 h43 => ⟨x43, (And.elim (fun h44 k44 => ⟨⟨⟨trivial, trivial⟩, ⟨trivial, h44⟩⟩, (And.elim (fun h45 k45 => ⟨(fun x46 => (fun h46 => ⟨trivial, ⟨trivial, ⟨trivial, (And.elim (fun h50 k50 => ⟨(And.elim (fun h51 k51 => ⟨h51, k51⟩) h50), ⟨trivial, ⟨trivial, ⟨trivial, ⟨trivial, ⟨trivial, ⟨⟨trivial, ⟨trivial, ⟨trivial, trivial⟩⟩⟩, ⟨⟨⟨⟨trivial, ⟨trivial, ⟨trivial, trivial⟩⟩⟩, ⟨Sub.refl _, trivial⟩⟩, trivial⟩, ⟨k50, trivial⟩⟩⟩⟩⟩⟩⟩⟩⟩) h46)⟩⟩⟩) (h45 x46)), (fun x46 => (fun h46 => ⟨trivial, ⟨trivial, ⟨trivial, ⟨trivial, ⟨trivial, ⟨⟨trivial, ⟨trivial, ⟨trivial, trivial⟩⟩⟩, ⟨⟨⟨⟨trivial, ⟨trivial, ⟨trivial, trivial⟩⟩⟩, ⟨Sub.refl _, trivial⟩⟩, trivial⟩, ⟨h46, trivial⟩⟩⟩⟩⟩⟩⟩⟩) (k45 x46))⟩) k44)⟩) h43)⟩)⟩) h38)⟩⟩⟩) (k37 x38))⟩) k30)⟩⟩⟩⟩⟩⟩⟩) h29)⟩)⟩) h24)⟩⟩⟩) (k23 x24))⟩) h16)⟩⟩⟩⟩⟩⟩) (k15 x16))⟩) k12)⟩⟩⟩) h9)⟩⟩) (k8 x9))⟩) h)⟩⟩⟩⟩⟩⟩⟩⟩)
theorem hf115 : Go.Proofs.Try.prog.funcs[115]? = some Go.Proofs.Try.f115 := by kernel_rfl
abbrev s115_e (c : Int) : List (Nat × AV) := [(0, (.sc (.int .u8 c)))]
abbrev m115_e (c : Int) : List (Nat × Nat × AV) := []
def L115_e (c : Int) (res : AV) : Prop := Goes ⟨Go.Proofs.Try.prog, 115, [], res, []⟩ (place Go.Proofs.Try.f115 []) (s115_e c) (m115_e c)
theorem a115_e (c : Int) (res : AV) (h : (∀ slot, fact (look .undef (s115_e c) slot)) → L115_e c res) : L115_e c res :=
  assumeRule 115 [] Go.Proofs.Try.f115 hf115 [] (s115_e c) (m115_e c) res [] _ (by kernel_rfl) h
theorem o115 (c : Int) (res : AV) (hnew : newOnly res) (h : L115_e c res) : Ok Go.Proofs.Try.prog 115 [(.sc (.int .u8 c))] [] res [] :=
  okRule2 115 Go.Proofs.Try.f115 hf115 [(.sc (.int .u8 c))] [] res [] [] rfl (by kernel_rfl) (by kernel_rfl) (by kernel_rfl) ⟨hnew, by simp⟩ (L115_e c res) (by kernel_rfl) h
theorem r115_e (c : Int) (res : AV)
    (h : ((c == (110 : Int)) = true → Sub (AV.cons (1 : Nat) (AV.sc (Value.int IntKind.u8 (10 : Int))) (AV.cons (1 : Nat) (AV.sc (Value.bool true)) AV.nil)).tup res) ∧
  ((c == (110 : Int)) = false →
    ((c == (116 : Int)) = true →
        Sub (AV.cons (1 : Nat) (AV.sc (Value.int IntKind.u8 (9 : Int))) (AV.cons (1 : Nat) (AV.sc (Value.bool true)) AV.nil)).tup res) ∧
      ((c == (116 : Int)) = false →
        ((c == (114 : Int)) = true →
            Sub (AV.cons (1 : Nat) (AV.sc (Value.int IntKind.u8 (13 : Int))) (AV.cons (1 : Nat) (AV.sc (Value.bool true)) AV.nil)).tup res) ∧
          ((c == (114 : Int)) = false →
            Sub (AV.cons (1 : Nat) (AV.sc (Value.int IntKind.u8 (0 : Int))) (AV.cons (1 : Nat) (AV.sc (Value.bool false)) AV.nil)).tup res)))) :
    L115_e c res :=
  rule Go.Am.Seat.tabOk 115 [] Go.Proofs.Try.f115 hf115 [] (s115_e c) (m115_e c) res [] 400
    ((Orc.fin (AV.cons (1 : Nat) (AV.sc (Value.int IntKind.u8 (10 : Int))) (AV.cons (1 : Nat) (AV.sc (Value.bool true)) AV.nil)).tup [] []).br
  ((Orc.fin (AV.cons (1 : Nat) (AV.sc (Value.int IntKind.u8 (9 : Int))) (AV.cons (1 : Nat) (AV.sc (Value.bool true)) AV.nil)).tup [] []).br
    ((Orc.fin (AV.cons (1 : Nat) (AV.sc (Value.int IntKind.u8 (13 : Int))) (AV.cons (1 : Nat) (AV.sc (Value.bool true)) AV.nil)).tup [] []).br
      (Orc.fin (AV.cons (1 : Nat) (AV.sc (Value.int IntKind.u8 (0 : Int))) (AV.cons (1 : Nat) (AV.sc (Value.bool false)) AV.nil)).tup [] [])))) _ _ (by kernel_rfl) (by kernel_rfl) (show True ∧
  True ∧
    True ∧
      True ∧
        True ∧
          ((c == (110 : Int)) = true →
              True ∧
                True ∧
                  (True ∧ True ∧ True) ∧
                    (((True ∧ True ∧ True) ∧
                          Sub (AV.cons (1 : Nat) (AV.sc (Value.int IntKind.u8 (10 : Int))) (AV.cons (1 : Nat) (AV.sc (Value.bool true)) AV.nil)).tup
                              (AV.cons (1 : Nat) (AV.sc (Value.int IntKind.u8 (10 : Int))) (AV.cons (1 : Nat) (AV.sc (Value.bool true)) AV.nil)).tup ∧
                            True) ∧
                        True) ∧
                      Sub (AV.cons (1 : Nat) (AV.sc (Value.int IntKind.u8 (10 : Int))) (AV.cons (1 : Nat) (AV.sc (Value.bool true)) AV.nil)).tup res ∧
                        SubOut [] []) ∧
            ((c == (110 : Int)) = false →
              True ∧
                True ∧
                  ((c == (116 : Int)) = true →
                      True ∧
                        True ∧
                          (True ∧ True ∧ True) ∧
                            (((True ∧ True ∧ True) ∧
                                  Sub (AV.cons (1 : Nat) (AV.sc (Value.int IntKind.u8 (9 : Int))) (AV.cons (1 : Nat) (AV.sc (Value.bool true)) AV.nil)).tup
                                      (AV.cons (1 : Nat) (AV.sc (Value.int IntKind.u8 (9 : Int))) (AV.cons (1 : Nat) (AV.sc (Value.bool true)) AV.nil)).tup ∧
                                    True) ∧
                                True) ∧
                              Sub (AV.cons (1 : Nat) (AV.sc (Value.int IntKind.u8 (9 : Int))) (AV.cons (1 : Nat) (AV.sc (Value.bool true)) AV.nil)).tup res ∧
                                SubOut [] []) ∧
                    ((c == (116 : Int)) = false →
                      True ∧
                        True ∧
                          ((c == (114 : Int)) = true →
                              True ∧
                                True ∧
                                  (True ∧ True ∧ True) ∧
                                    (((True ∧ True ∧ True) ∧
                                          Sub
                                              (AV.cons (1 : Nat) (AV.sc (Value.int IntKind.u8 (13 : Int)))
                                                  (AV.cons (1 : Nat) (AV.sc (Value.bool true)) AV.nil)).tup
                                              (AV.cons (1 : Nat) (AV.sc (Value.int IntKind.u8 (13 : Int)))
                                                  (AV.cons (1 : Nat) (AV.sc (Value.bool true)) AV.nil)).tup ∧
                                            True) ∧
                                        True) ∧
                                      Sub (AV.cons (1 : Nat) (AV.sc (Value.int IntKind.u8 (13 : Int))) (AV.cons (1 : Nat) (AV.sc (Value.bool true)) AV.nil)).tup
                                          res ∧
                                        SubOut [] []) ∧
                            ((c == (114 : Int)) = false →
                              True ∧
                                True ∧
                                  (True ∧ True ∧ True) ∧
                                    (((True ∧ True ∧ True) ∧
                                          Sub
                                              (AV.cons (1 : Nat) (AV.sc (Value.int IntKind.u8 (0 : Int)))
                                                  (AV.cons (1 : Nat) (AV.sc (Value.bool false)) AV.nil)).tup
                                              (AV.cons (1 : Nat) (AV.sc (Value.int IntKind.u8 (0 : Int)))
                                                  (AV.cons (1 : Nat) (AV.sc (Value.bool false)) AV.nil)).tup ∧
                                            True) ∧
                                        True) ∧
                                      Sub (AV.cons (1 : Nat) (AV.sc (Value.int IntKind.u8 (0 : Int))) (AV.cons (1 : Nat) (AV.sc (Value.bool false)) AV.nil)).tup
                                          res ∧
                                        SubOut [] []))) from
    ⟨trivial, ⟨trivial, ⟨trivial, ⟨trivial, ⟨trivial, (And.elim (fun h5 k5 => ⟨(fun x6 => (fun h6 => ⟨trivial, ⟨trivial, ⟨⟨trivial, ⟨trivial, trivial⟩⟩, ⟨⟨⟨⟨trivial, ⟨trivial, trivial⟩⟩, ⟨Sub.refl _, trivial⟩⟩, trivial⟩, ⟨h6, trivial⟩⟩⟩⟩⟩) (h5 x6)), (fun x6 => (fun h6 => ⟨trivial, ⟨trivial, (And.elim (fun h9 k9 => ⟨(fun x10 => (fun h10 => ⟨trivial, ⟨trivial, ⟨⟨trivial, ⟨trivial, trivial⟩⟩, ⟨⟨⟨⟨trivial, ⟨trivial, trivial⟩⟩, ⟨Sub.refl _, trivial⟩⟩, trivial⟩, ⟨h10, trivial⟩⟩⟩⟩⟩) (h9 x10)), (fun x10 => (fun h10 => ⟨trivial, ⟨trivial, (And.elim (fun h13 k13 => ⟨(fun x14 => (fun h14 => ⟨trivial, ⟨trivial, ⟨⟨trivial, ⟨trivial, trivial⟩⟩, ⟨⟨⟨⟨trivial, ⟨trivial, trivial⟩⟩, ⟨Sub.refl _, trivial⟩⟩, trivial⟩, ⟨h14, trivial⟩⟩⟩⟩⟩) (h13 x14)), (fun x14 => (fun h14 => ⟨trivial, ⟨trivial, ⟨⟨trivial, ⟨trivial, trivial⟩⟩, ⟨⟨⟨⟨trivial, ⟨trivial, trivial⟩⟩, ⟨Sub.refl _, trivial⟩⟩, trivial⟩, ⟨h14, trivial⟩⟩⟩⟩⟩) (k13 x14))⟩) h10)⟩⟩) (k9 x10))⟩) h6)⟩⟩) (k5 x6))⟩) h)⟩⟩⟩⟩⟩)
end Go.Am.Seat
