/- The rules of 7 functions: from what is owed at each place of a function the function goes on as it is told there. Printed by a program of this seat; Lean checks each. -/
import Derived.Test.YtpmgbnlenpgdoaaAmZ2
import Derived.Test.YtpmgbnlenpgdoaaTab
open Go Go.Am Go.Am.Seat
namespace Go.Am.Seat
set_option linter.unusedVariables false
set_option maxRecDepth 100000
theorem hf99 : Go.Proofs.Try.prog.funcs[99]? = some Go.Proofs.Try.f99 := by kernel_rfl
abbrev s99_e (x : Int) : List (Nat × AV) := [(0, (.sc (.int .u64 x)))]
abbrev m99_e (x : Int) : List (Nat × Nat × AV) := []
def L99_e (x : Int) (res : AV) : Prop := Goes ⟨Go.Proofs.Try.prog, 99, [], res, []⟩ (place Go.Proofs.Try.f99 []) (s99_e x) (m99_e x)
theorem a99_e (x : Int) (res : AV) (h : (∀ slot, fact (look .undef (s99_e x) slot)) → L99_e x res) : L99_e x res :=
  assumeRule 99 [] Go.Proofs.Try.f99 hf99 [] (s99_e x) (m99_e x) res [] _ (by kernel_rfl) h
abbrev s99_0 (x : Int) (t2 : Int) : List (Nat × AV) := [(0, (.sc (.int .u64 x))), (2, (.sc (.int .i64 t2)))]
abbrev m99_0 (x : Int) (t2 : Int) : List (Nat × Nat × AV) := []
def L99_0 (x : Int) (t2 : Int) (res : AV) : Prop := Goes ⟨Go.Proofs.Try.prog, 99, [], res, []⟩ (place Go.Proofs.Try.f99 [1, 1]) (s99_0 x t2) (m99_0 x t2)
theorem a99_0 (x : Int) (t2 : Int) (res : AV) (h : (∀ slot, fact (look .undef (s99_0 x t2) slot)) → L99_0 x t2 res) : L99_0 x t2 res :=
  assumeRule 99 [] Go.Proofs.Try.f99 hf99 [1, 1] (s99_0 x t2) (m99_0 x t2) res [] _ (by kernel_rfl) h
abbrev s99_1 (x : Int) (t2 : Int) : List (Nat × AV) := [(0, (.sc (.int .u64 x))), (2, (.sc (.int .i64 t2)))]
abbrev m99_1 (x : Int) (t2 : Int) : List (Nat × Nat × AV) := []
def L99_1 (x : Int) (t2 : Int) (res : AV) : Prop := Goes ⟨Go.Proofs.Try.prog, 99, [], res, []⟩ (place Go.Proofs.Try.f99 [1, 1, 1]) (s99_1 x t2) (m99_1 x t2)
theorem a99_1 (x : Int) (t2 : Int) (res : AV) (h : (∀ slot, fact (look .undef (s99_1 x t2) slot)) → L99_1 x t2 res) : L99_1 x t2 res :=
  assumeRule 99 [] Go.Proofs.Try.f99 hf99 [1, 1, 1] (s99_1 x t2) (m99_1 x t2) res [] _ (by kernel_rfl) h
abbrev s99_2 (x : Int) (t2 : Int) : List (Nat × AV) := [(0, (.sc (.int .u64 x))), (2, (.sc (.int .i64 t2)))]
abbrev m99_2 (x : Int) (t2 : Int) : List (Nat × Nat × AV) := []
def L99_2 (x : Int) (t2 : Int) (res : AV) : Prop := Goes ⟨Go.Proofs.Try.prog, 99, [], res, []⟩ (place Go.Proofs.Try.f99 [1, 1, 1, 1]) (s99_2 x t2) (m99_2 x t2)
theorem a99_2 (x : Int) (t2 : Int) (res : AV) (h : (∀ slot, fact (look .undef (s99_2 x t2) slot)) → L99_2 x t2 res) : L99_2 x t2 res :=
  assumeRule 99 [] Go.Proofs.Try.f99 hf99 [1, 1, 1, 1] (s99_2 x t2) (m99_2 x t2) res [] _ (by kernel_rfl) h
abbrev s99_3 (x : Int) (t2 : Int) : List (Nat × AV) := [(0, (.sc (.int .u64 x))), (2, (.sc (.int .i64 t2)))]
abbrev m99_3 (x : Int) (t2 : Int) : List (Nat × Nat × AV) := []
def L99_3 (x : Int) (t2 : Int) (res : AV) : Prop := Goes ⟨Go.Proofs.Try.prog, 99, [], res, []⟩ (place Go.Proofs.Try.f99 [1, 1, 1, 1, 1]) (s99_3 x t2) (m99_3 x t2)
theorem a99_3 (x : Int) (t2 : Int) (res : AV) (h : (∀ slot, fact (look .undef (s99_3 x t2) slot)) → L99_3 x t2 res) : L99_3 x t2 res :=
  assumeRule 99 [] Go.Proofs.Try.f99 hf99 [1, 1, 1, 1, 1] (s99_3 x t2) (m99_3 x t2) res [] _ (by kernel_rfl) h
abbrev s99_4 (x : Int) (t2 : Int) : List (Nat × AV) := [(0, (.sc (.int .u64 x))), (2, (.sc (.int .i64 t2)))]
abbrev m99_4 (x : Int) (t2 : Int) : List (Nat × Nat × AV) := []
def L99_4 (x : Int) (t2 : Int) (res : AV) : Prop := Goes ⟨Go.Proofs.Try.prog, 99, [], res, []⟩ (place Go.Proofs.Try.f99 [1, 1, 1, 1, 1, 1]) (s99_4 x t2) (m99_4 x t2)
theorem a99_4 (x : Int) (t2 : Int) (res : AV) (h : (∀ slot, fact (look .undef (s99_4 x t2) slot)) → L99_4 x t2 res) : L99_4 x t2 res :=
  assumeRule 99 [] Go.Proofs.Try.f99 hf99 [1, 1, 1, 1, 1, 1] (s99_4 x t2) (m99_4 x t2) res [] _ (by kernel_rfl) h
abbrev s99_5 (x : Int) (t2 : Int) : List (Nat × AV) := [(0, (.sc (.int .u64 x))), (2, (.sc (.int .i64 t2)))]
abbrev m99_5 (x : Int) (t2 : Int) : List (Nat × Nat × AV) := []
def L99_5 (x : Int) (t2 : Int) (res : AV) : Prop := Goes ⟨Go.Proofs.Try.prog, 99, [], res, []⟩ (place Go.Proofs.Try.f99 [1, 1, 1, 1, 1, 1, 1]) (s99_5 x t2) (m99_5 x t2)
theorem a99_5 (x : Int) (t2 : Int) (res : AV) (h : (∀ slot, fact (look .undef (s99_5 x t2) slot)) → L99_5 x t2 res) : L99_5 x t2 res :=
  assumeRule 99 [] Go.Proofs.Try.f99 hf99 [1, 1, 1, 1, 1, 1, 1] (s99_5 x t2) (m99_5 x t2) res [] _ (by kernel_rfl) h
theorem o99 (x : Int) (res : AV) (hnew : newOnly res) (h : L99_e x res) : Ok Go.Proofs.Try.prog 99 [(.sc (.int .u64 x))] [] res [] :=
  okRule2 99 Go.Proofs.Try.f99 hf99 [(.sc (.int .u64 x))] [] res [] [] rfl (by kernel_rfl) (by kernel_rfl) (by kernel_rfl) ⟨hnew, by simp⟩ (L99_e x res) (by kernel_rfl) h
theorem r99_e (x : Int) (res : AV)
    (h : (0 : Int) ≤ (1 : Int) ∧
  L99_0
    (IntKind.u64.wrap
      (IntKind.u64.wrap
          (↑(BitVec.ofInt IntKind.u64.bits (x.fdiv ((2 : Int) ^ min (Int.toNat (1 : Int)) IntKind.u64.bits)) &&&
                  BitVec.ofInt IntKind.u64.bits (6148914691236517205 : Int)).toNat :
            Int) +
        IntKind.u64.wrap (↑(BitVec.ofInt IntKind.u64.bits x &&& BitVec.ofInt IntKind.u64.bits (6148914691236517205 : Int)).toNat : Int)))
    (0 : Int) res) :
    L99_e x res :=
  rule Go.Am.Seat.tabOk 99 [] Go.Proofs.Try.f99 hf99 [] (s99_e x) (m99_e x) res [] 400
    (Orc.cut (nat_lit 4)
  (s99_0
    (IntKind.u64.wrap
      (IntKind.u64.wrap
          (↑(BitVec.ofInt IntKind.u64.bits (x.fdiv ((2 : Int) ^ min (Int.toNat (1 : Int)) IntKind.u64.bits)) &&&
                  BitVec.ofInt IntKind.u64.bits (6148914691236517205 : Int)).toNat :
            Int) +
        IntKind.u64.wrap (↑(BitVec.ofInt IntKind.u64.bits x &&& BitVec.ofInt IntKind.u64.bits (6148914691236517205 : Int)).toNat : Int)))
    (0 : Int))
  (m99_0
    (IntKind.u64.wrap
      (IntKind.u64.wrap
          (↑(BitVec.ofInt IntKind.u64.bits (x.fdiv ((2 : Int) ^ min (Int.toNat (1 : Int)) IntKind.u64.bits)) &&&
                  BitVec.ofInt IntKind.u64.bits (6148914691236517205 : Int)).toNat :
            Int) +
        IntKind.u64.wrap (↑(BitVec.ofInt IntKind.u64.bits x &&& BitVec.ofInt IntKind.u64.bits (6148914691236517205 : Int)).toNat : Int)))
    (0 : Int))
  []) _ _ (by kernel_rfl) (by kernel_rfl) (show True ∧
  True ∧
    (0 : Int) ≤ (1 : Int) ∧
      True ∧
        True ∧
          True ∧
            True ∧
              True ∧
                ((True ∧
                      Sub
                          (AV.sc
                            (Value.int IntKind.u64
                              (IntKind.u64.wrap
                                (IntKind.u64.wrap
                                    (↑(BitVec.ofInt IntKind.u64.bits (x.fdiv ((2 : Int) ^ min (Int.toNat (1 : Int)) IntKind.u64.bits)) &&&
                                            BitVec.ofInt IntKind.u64.bits (6148914691236517205 : Int)).toNat :
                                      Int) +
                                  IntKind.u64.wrap
                                    (↑(BitVec.ofInt IntKind.u64.bits x &&& BitVec.ofInt IntKind.u64.bits (6148914691236517205 : Int)).toNat : Int)))))
                          (AV.sc
                            (Value.int IntKind.u64
                              (IntKind.u64.wrap
                                (IntKind.u64.wrap
                                    (↑(BitVec.ofInt IntKind.u64.bits (x.fdiv ((2 : Int) ^ min (Int.toNat (1 : Int)) IntKind.u64.bits)) &&&
                                            BitVec.ofInt IntKind.u64.bits (6148914691236517205 : Int)).toNat :
                                      Int) +
                                  IntKind.u64.wrap
                                    (↑(BitVec.ofInt IntKind.u64.bits x &&& BitVec.ofInt IntKind.u64.bits (6148914691236517205 : Int)).toNat : Int))))) ∧
                        True ∧ Sub (AV.sc (Value.int IntKind.i64 (0 : Int))) (AV.sc (Value.int IntKind.i64 (0 : Int))) ∧ True) ∧
                    True) ∧
                  L99_0
                    (IntKind.u64.wrap
                      (IntKind.u64.wrap
                          (↑(BitVec.ofInt IntKind.u64.bits (x.fdiv ((2 : Int) ^ min (Int.toNat (1 : Int)) IntKind.u64.bits)) &&&
                                  BitVec.ofInt IntKind.u64.bits (6148914691236517205 : Int)).toNat :
                            Int) +
                        IntKind.u64.wrap (↑(BitVec.ofInt IntKind.u64.bits x &&& BitVec.ofInt IntKind.u64.bits (6148914691236517205 : Int)).toNat : Int)))
                    (0 : Int) res from
    ⟨trivial, ⟨trivial, (And.elim (fun h2 k2 => ⟨h2, ⟨trivial, ⟨trivial, ⟨trivial, ⟨trivial, ⟨trivial, ⟨⟨⟨trivial, ⟨Sub.refl _, ⟨trivial, ⟨Sub.refl _, trivial⟩⟩⟩⟩, trivial⟩, k2⟩⟩⟩⟩⟩⟩⟩) h)⟩⟩)
theorem r99_0 (x : Int) (t2 : Int) (res : AV)
    (h : (0 : Int) ≤ (2 : Int) ∧
  L99_1
    (IntKind.u64.wrap
      (IntKind.u64.wrap
          (↑(BitVec.ofInt IntKind.u64.bits (x.fdiv ((2 : Int) ^ min (Int.toNat (2 : Int)) IntKind.u64.bits)) &&&
                  BitVec.ofInt IntKind.u64.bits (3689348814741910323 : Int)).toNat :
            Int) +
        IntKind.u64.wrap (↑(BitVec.ofInt IntKind.u64.bits x &&& BitVec.ofInt IntKind.u64.bits (3689348814741910323 : Int)).toNat : Int)))
    t2 res) :
    L99_0 x t2 res :=
  rule Go.Am.Seat.tabOk 99 [] Go.Proofs.Try.f99 hf99 [1, 1] (s99_0 x t2) (m99_0 x t2) res [] 400
    (Orc.cut (nat_lit 2)
  (s99_1
    (IntKind.u64.wrap
      (IntKind.u64.wrap
          (↑(BitVec.ofInt IntKind.u64.bits (x.fdiv ((2 : Int) ^ min (Int.toNat (2 : Int)) IntKind.u64.bits)) &&&
                  BitVec.ofInt IntKind.u64.bits (3689348814741910323 : Int)).toNat :
            Int) +
        IntKind.u64.wrap (↑(BitVec.ofInt IntKind.u64.bits x &&& BitVec.ofInt IntKind.u64.bits (3689348814741910323 : Int)).toNat : Int)))
    t2)
  (m99_1
    (IntKind.u64.wrap
      (IntKind.u64.wrap
          (↑(BitVec.ofInt IntKind.u64.bits (x.fdiv ((2 : Int) ^ min (Int.toNat (2 : Int)) IntKind.u64.bits)) &&&
                  BitVec.ofInt IntKind.u64.bits (3689348814741910323 : Int)).toNat :
            Int) +
        IntKind.u64.wrap (↑(BitVec.ofInt IntKind.u64.bits x &&& BitVec.ofInt IntKind.u64.bits (3689348814741910323 : Int)).toNat : Int)))
    t2)
  []) _ _ (by kernel_rfl) (by kernel_rfl) (show True ∧
  (0 : Int) ≤ (2 : Int) ∧
    True ∧
      True ∧
        True ∧
          True ∧
            True ∧
              ((True ∧
                    Sub
                        (AV.sc
                          (Value.int IntKind.u64
                            (IntKind.u64.wrap
                              (IntKind.u64.wrap
                                  (↑(BitVec.ofInt IntKind.u64.bits (x.fdiv ((2 : Int) ^ min (Int.toNat (2 : Int)) IntKind.u64.bits)) &&&
                                          BitVec.ofInt IntKind.u64.bits (3689348814741910323 : Int)).toNat :
                                    Int) +
                                IntKind.u64.wrap
                                  (↑(BitVec.ofInt IntKind.u64.bits x &&& BitVec.ofInt IntKind.u64.bits (3689348814741910323 : Int)).toNat : Int)))))
                        (AV.sc
                          (Value.int IntKind.u64
                            (IntKind.u64.wrap
                              (IntKind.u64.wrap
                                  (↑(BitVec.ofInt IntKind.u64.bits (x.fdiv ((2 : Int) ^ min (Int.toNat (2 : Int)) IntKind.u64.bits)) &&&
                                          BitVec.ofInt IntKind.u64.bits (3689348814741910323 : Int)).toNat :
                                    Int) +
                                IntKind.u64.wrap
                                  (↑(BitVec.ofInt IntKind.u64.bits x &&& BitVec.ofInt IntKind.u64.bits (3689348814741910323 : Int)).toNat : Int))))) ∧
                      True ∧ Sub (AV.sc (Value.int IntKind.i64 t2)) (AV.sc (Value.int IntKind.i64 t2)) ∧ True) ∧
                  True) ∧
                L99_1
                  (IntKind.u64.wrap
                    (IntKind.u64.wrap
                        (↑(BitVec.ofInt IntKind.u64.bits (x.fdiv ((2 : Int) ^ min (Int.toNat (2 : Int)) IntKind.u64.bits)) &&&
                                BitVec.ofInt IntKind.u64.bits (3689348814741910323 : Int)).toNat :
                          Int) +
                      IntKind.u64.wrap (↑(BitVec.ofInt IntKind.u64.bits x &&& BitVec.ofInt IntKind.u64.bits (3689348814741910323 : Int)).toNat : Int)))
                  t2 res from
    ⟨trivial, (And.elim (fun h1 k1 => ⟨h1, ⟨trivial, ⟨trivial, ⟨trivial, ⟨trivial, ⟨trivial, ⟨⟨⟨trivial, ⟨Sub.refl _, ⟨trivial, ⟨Sub.refl _, trivial⟩⟩⟩⟩, trivial⟩, k1⟩⟩⟩⟩⟩⟩⟩) h)⟩)
theorem r99_1 (x : Int) (t2 : Int) (res : AV)
    (h : (0 : Int) ≤ (4 : Int) ∧
  L99_2
    (IntKind.u64.wrap
      (↑(BitVec.ofInt IntKind.u64.bits (IntKind.u64.wrap (x.fdiv ((2 : Int) ^ min (Int.toNat (4 : Int)) IntKind.u64.bits) + x)) &&&
              BitVec.ofInt IntKind.u64.bits (1085102592571150095 : Int)).toNat :
        Int))
    t2 res) :
    L99_1 x t2 res :=
  rule Go.Am.Seat.tabOk 99 [] Go.Proofs.Try.f99 hf99 [1, 1, 1] (s99_1 x t2) (m99_1 x t2) res [] 400
    (Orc.cut (nat_lit 2)
  (s99_2
    (IntKind.u64.wrap
      (↑(BitVec.ofInt IntKind.u64.bits (IntKind.u64.wrap (x.fdiv ((2 : Int) ^ min (Int.toNat (4 : Int)) IntKind.u64.bits) + x)) &&&
              BitVec.ofInt IntKind.u64.bits (1085102592571150095 : Int)).toNat :
        Int))
    t2)
  (m99_2
    (IntKind.u64.wrap
      (↑(BitVec.ofInt IntKind.u64.bits (IntKind.u64.wrap (x.fdiv ((2 : Int) ^ min (Int.toNat (4 : Int)) IntKind.u64.bits) + x)) &&&
              BitVec.ofInt IntKind.u64.bits (1085102592571150095 : Int)).toNat :
        Int))
    t2)
  []) _ _ (by kernel_rfl) (by kernel_rfl) (show True ∧
  (0 : Int) ≤ (4 : Int) ∧
    True ∧
      True ∧
        True ∧
          True ∧
            ((True ∧
                  Sub
                      (AV.sc
                        (Value.int IntKind.u64
                          (IntKind.u64.wrap
                            (↑(BitVec.ofInt IntKind.u64.bits (IntKind.u64.wrap (x.fdiv ((2 : Int) ^ min (Int.toNat (4 : Int)) IntKind.u64.bits) + x)) &&&
                                    BitVec.ofInt IntKind.u64.bits (1085102592571150095 : Int)).toNat :
                              Int))))
                      (AV.sc
                        (Value.int IntKind.u64
                          (IntKind.u64.wrap
                            (↑(BitVec.ofInt IntKind.u64.bits (IntKind.u64.wrap (x.fdiv ((2 : Int) ^ min (Int.toNat (4 : Int)) IntKind.u64.bits) + x)) &&&
                                    BitVec.ofInt IntKind.u64.bits (1085102592571150095 : Int)).toNat :
                              Int)))) ∧
                    True ∧ Sub (AV.sc (Value.int IntKind.i64 t2)) (AV.sc (Value.int IntKind.i64 t2)) ∧ True) ∧
                True) ∧
              L99_2
                (IntKind.u64.wrap
                  (↑(BitVec.ofInt IntKind.u64.bits (IntKind.u64.wrap (x.fdiv ((2 : Int) ^ min (Int.toNat (4 : Int)) IntKind.u64.bits) + x)) &&&
                          BitVec.ofInt IntKind.u64.bits (1085102592571150095 : Int)).toNat :
                    Int))
                t2 res from
    ⟨trivial, (And.elim (fun h1 k1 => ⟨h1, ⟨trivial, ⟨trivial, ⟨trivial, ⟨trivial, ⟨⟨⟨trivial, ⟨Sub.refl _, ⟨trivial, ⟨Sub.refl _, trivial⟩⟩⟩⟩, trivial⟩, k1⟩⟩⟩⟩⟩⟩) h)⟩)
theorem r99_2 (x : Int) (t2 : Int) (res : AV)
    (h : (0 : Int) ≤ (8 : Int) ∧ L99_3 (IntKind.u64.wrap (x + x.fdiv ((2 : Int) ^ min (Int.toNat (8 : Int)) IntKind.u64.bits))) t2 res) :
    L99_2 x t2 res :=
  rule Go.Am.Seat.tabOk 99 [] Go.Proofs.Try.f99 hf99 [1, 1, 1, 1] (s99_2 x t2) (m99_2 x t2) res [] 400
    (Orc.cut (nat_lit 2) (s99_3 (IntKind.u64.wrap (x + x.fdiv ((2 : Int) ^ min (Int.toNat (8 : Int)) IntKind.u64.bits))) t2)
  (m99_3 (IntKind.u64.wrap (x + x.fdiv ((2 : Int) ^ min (Int.toNat (8 : Int)) IntKind.u64.bits))) t2) []) _ _ (by kernel_rfl) (by kernel_rfl) (show True ∧
  True ∧
    (0 : Int) ≤ (8 : Int) ∧
      True ∧
        True ∧
          ((True ∧
                Sub (AV.sc (Value.int IntKind.u64 (IntKind.u64.wrap (x + x.fdiv ((2 : Int) ^ min (Int.toNat (8 : Int)) IntKind.u64.bits)))))
                    (AV.sc (Value.int IntKind.u64 (IntKind.u64.wrap (x + x.fdiv ((2 : Int) ^ min (Int.toNat (8 : Int)) IntKind.u64.bits))))) ∧
                  True ∧ Sub (AV.sc (Value.int IntKind.i64 t2)) (AV.sc (Value.int IntKind.i64 t2)) ∧ True) ∧
              True) ∧
            L99_3 (IntKind.u64.wrap (x + x.fdiv ((2 : Int) ^ min (Int.toNat (8 : Int)) IntKind.u64.bits))) t2 res from
    ⟨trivial, ⟨trivial, (And.elim (fun h2 k2 => ⟨h2, ⟨trivial, ⟨trivial, ⟨⟨⟨trivial, ⟨Sub.refl _, ⟨trivial, ⟨Sub.refl _, trivial⟩⟩⟩⟩, trivial⟩, k2⟩⟩⟩⟩) h)⟩⟩)
theorem r99_3 (x : Int) (t2 : Int) (res : AV)
    (h : (0 : Int) ≤ (16 : Int) ∧ L99_4 (IntKind.u64.wrap (x + x.fdiv ((2 : Int) ^ min (Int.toNat (16 : Int)) IntKind.u64.bits))) t2 res) :
    L99_3 x t2 res :=
  rule Go.Am.Seat.tabOk 99 [] Go.Proofs.Try.f99 hf99 [1, 1, 1, 1, 1] (s99_3 x t2) (m99_3 x t2) res [] 400
    (Orc.cut (nat_lit 2) (s99_4 (IntKind.u64.wrap (x + x.fdiv ((2 : Int) ^ min (Int.toNat (16 : Int)) IntKind.u64.bits))) t2)
  (m99_4 (IntKind.u64.wrap (x + x.fdiv ((2 : Int) ^ min (Int.toNat (16 : Int)) IntKind.u64.bits))) t2) []) _ _ (by kernel_rfl) (by kernel_rfl) (show True ∧
  True ∧
    (0 : Int) ≤ (16 : Int) ∧
      True ∧
        True ∧
          ((True ∧
                Sub (AV.sc (Value.int IntKind.u64 (IntKind.u64.wrap (x + x.fdiv ((2 : Int) ^ min (Int.toNat (16 : Int)) IntKind.u64.bits)))))
                    (AV.sc (Value.int IntKind.u64 (IntKind.u64.wrap (x + x.fdiv ((2 : Int) ^ min (Int.toNat (16 : Int)) IntKind.u64.bits))))) ∧
                  True ∧ Sub (AV.sc (Value.int IntKind.i64 t2)) (AV.sc (Value.int IntKind.i64 t2)) ∧ True) ∧
              True) ∧
            L99_4 (IntKind.u64.wrap (x + x.fdiv ((2 : Int) ^ min (Int.toNat (16 : Int)) IntKind.u64.bits))) t2 res from
    ⟨trivial, ⟨trivial, (And.elim (fun h2 k2 => ⟨h2, ⟨trivial, ⟨trivial, ⟨⟨⟨trivial, ⟨Sub.refl _, ⟨trivial, ⟨Sub.refl _, trivial⟩⟩⟩⟩, trivial⟩, k2⟩⟩⟩⟩) h)⟩⟩)
theorem r99_4 (x : Int) (t2 : Int) (res : AV)
    (h : (0 : Int) ≤ (32 : Int) ∧ L99_5 (IntKind.u64.wrap (x + x.fdiv ((2 : Int) ^ min (Int.toNat (32 : Int)) IntKind.u64.bits))) t2 res) :
    L99_4 x t2 res :=
  rule Go.Am.Seat.tabOk 99 [] Go.Proofs.Try.f99 hf99 [1, 1, 1, 1, 1, 1] (s99_4 x t2) (m99_4 x t2) res [] 400
    (Orc.cut (nat_lit 2) (s99_5 (IntKind.u64.wrap (x + x.fdiv ((2 : Int) ^ min (Int.toNat (32 : Int)) IntKind.u64.bits))) t2)
  (m99_5 (IntKind.u64.wrap (x + x.fdiv ((2 : Int) ^ min (Int.toNat (32 : Int)) IntKind.u64.bits))) t2) []) _ _ (by kernel_rfl) (by kernel_rfl) (show True ∧
  True ∧
    (0 : Int) ≤ (32 : Int) ∧
      True ∧
        True ∧
          ((True ∧
                Sub (AV.sc (Value.int IntKind.u64 (IntKind.u64.wrap (x + x.fdiv ((2 : Int) ^ min (Int.toNat (32 : Int)) IntKind.u64.bits)))))
                    (AV.sc (Value.int IntKind.u64 (IntKind.u64.wrap (x + x.fdiv ((2 : Int) ^ min (Int.toNat (32 : Int)) IntKind.u64.bits))))) ∧
                  True ∧ Sub (AV.sc (Value.int IntKind.i64 t2)) (AV.sc (Value.int IntKind.i64 t2)) ∧ True) ∧
              True) ∧
            L99_5 (IntKind.u64.wrap (x + x.fdiv ((2 : Int) ^ min (Int.toNat (32 : Int)) IntKind.u64.bits))) t2 res from
    ⟨trivial, ⟨trivial, (And.elim (fun h2 k2 => ⟨h2, ⟨trivial, ⟨trivial, ⟨⟨⟨trivial, ⟨Sub.refl _, ⟨trivial, ⟨Sub.refl _, trivial⟩⟩⟩⟩, trivial⟩, k2⟩⟩⟩⟩) h)⟩⟩)
theorem r99_5 (x : Int) (t2 : Int) (res : AV)
    (h : Sub
  (AV.sc
    (Value.int IntKind.i64
      (IntKind.i64.wrap (↑(BitVec.ofInt IntKind.i64.bits (IntKind.i64.wrap x) &&& BitVec.ofInt IntKind.i64.bits (127 : Int)).toNat : Int))))
  res) :
    L99_5 x t2 res :=
  rule Go.Am.Seat.tabOk 99 [] Go.Proofs.Try.f99 hf99 [1, 1, 1, 1, 1, 1, 1] (s99_5 x t2) (m99_5 x t2) res [] 400
    (Orc.fin
  (AV.sc
    (Value.int IntKind.i64
      (IntKind.i64.wrap (↑(BitVec.ofInt IntKind.i64.bits (IntKind.i64.wrap x) &&& BitVec.ofInt IntKind.i64.bits (127 : Int)).toNat : Int))))
  [] []) _ _ (by kernel_rfl) (by kernel_rfl) (show True ∧
  True ∧
    True ∧
      True ∧
        True ∧
          ((True ∧
                Sub
                    (AV.sc
                      (Value.int IntKind.i64
                        (IntKind.i64.wrap (↑(BitVec.ofInt IntKind.i64.bits (IntKind.i64.wrap x) &&& BitVec.ofInt IntKind.i64.bits (127 : Int)).toNat : Int))))
                    (AV.sc
                      (Value.int IntKind.i64
                        (IntKind.i64.wrap (↑(BitVec.ofInt IntKind.i64.bits (IntKind.i64.wrap x) &&& BitVec.ofInt IntKind.i64.bits (127 : Int)).toNat : Int)))) ∧
                  True) ∧
              True) ∧
            Sub
                (AV.sc
                  (Value.int IntKind.i64
                    (IntKind.i64.wrap (↑(BitVec.ofInt IntKind.i64.bits (IntKind.i64.wrap x) &&& BitVec.ofInt IntKind.i64.bits (127 : Int)).toNat : Int))))
                res ∧
              SubOut [] [] from
    ⟨trivial, ⟨trivial, ⟨trivial, ⟨trivial, ⟨trivial, ⟨⟨⟨trivial, ⟨Sub.refl _, trivial⟩⟩, trivial⟩, ⟨h, trivial⟩⟩⟩⟩⟩⟩⟩)
theorem hf100 : Go.Proofs.Try.prog.funcs[100]? = some Go.Proofs.Try.f100 := by kernel_rfl
abbrev s100_e (b : Int) : List (Nat × AV) := [(0, (.sc (.int .u8 b)))]
abbrev m100_e (b : Int) : List (Nat × Nat × AV) := []
def L100_e (b : Int) (res : AV) : Prop := Goes ⟨Go.Proofs.Try.prog, 100, [], res, []⟩ (place Go.Proofs.Try.f100 []) (s100_e b) (m100_e b)
theorem a100_e (b : Int) (res : AV) (h : (∀ slot, fact (look .undef (s100_e b) slot)) → L100_e b res) : L100_e b res :=
  assumeRule 100 [] Go.Proofs.Try.f100 hf100 [] (s100_e b) (m100_e b) res [] _ (by kernel_rfl) h
theorem o100 (b : Int) (res : AV) (hnew : newOnly res) (h : L100_e b res) : Ok Go.Proofs.Try.prog 100 [(.sc (.int .u8 b))] [] res [] :=
  okRule2 100 Go.Proofs.Try.f100 hf100 [(.sc (.int .u8 b))] [] res [] [] rfl (by kernel_rfl) (by kernel_rfl) (by kernel_rfl) ⟨hnew, by simp⟩ (L100_e b res) (by kernel_rfl) h
theorem r100_e (b : Int) (res : AV)
    (h : ((b == (10 : Int)) = true → Sub (AV.cons (1 : Nat) (AV.sc (Value.int IntKind.u8 (110 : Int))) (AV.cons (1 : Nat) (AV.sc (Value.bool true)) AV.nil)).tup res) ∧
  ((b == (10 : Int)) = false →
    ((b == (9 : Int)) = true →
        Sub (AV.cons (1 : Nat) (AV.sc (Value.int IntKind.u8 (116 : Int))) (AV.cons (1 : Nat) (AV.sc (Value.bool true)) AV.nil)).tup res) ∧
      ((b == (9 : Int)) = false →
        ((b == (13 : Int)) = true →
            Sub (AV.cons (1 : Nat) (AV.sc (Value.int IntKind.u8 (114 : Int))) (AV.cons (1 : Nat) (AV.sc (Value.bool true)) AV.nil)).tup res) ∧
          ((b == (13 : Int)) = false →
            Sub (AV.cons (1 : Nat) (AV.sc (Value.int IntKind.u8 (0 : Int))) (AV.cons (1 : Nat) (AV.sc (Value.bool false)) AV.nil)).tup res)))) :
    L100_e b res :=
  rule Go.Am.Seat.tabOk 100 [] Go.Proofs.Try.f100 hf100 [] (s100_e b) (m100_e b) res [] 400
    ((Orc.fin (AV.cons (1 : Nat) (AV.sc (Value.int IntKind.u8 (110 : Int))) (AV.cons (1 : Nat) (AV.sc (Value.bool true)) AV.nil)).tup [] []).br
  ((Orc.fin (AV.cons (1 : Nat) (AV.sc (Value.int IntKind.u8 (116 : Int))) (AV.cons (1 : Nat) (AV.sc (Value.bool true)) AV.nil)).tup [] []).br
    ((Orc.fin (AV.cons (1 : Nat) (AV.sc (Value.int IntKind.u8 (114 : Int))) (AV.cons (1 : Nat) (AV.sc (Value.bool true)) AV.nil)).tup [] []).br
      (Orc.fin (AV.cons (1 : Nat) (AV.sc (Value.int IntKind.u8 (0 : Int))) (AV.cons (1 : Nat) (AV.sc (Value.bool false)) AV.nil)).tup [] [])))) _ _ (by kernel_rfl) (by kernel_rfl) (show True ∧
  True ∧
    True ∧
      True ∧
        True ∧
          ((b == (10 : Int)) = true →
              True ∧
                True ∧
                  (True ∧ True ∧ True) ∧
                    (((True ∧ True ∧ True) ∧
                          Sub (AV.cons (1 : Nat) (AV.sc (Value.int IntKind.u8 (110 : Int))) (AV.cons (1 : Nat) (AV.sc (Value.bool true)) AV.nil)).tup
                              (AV.cons (1 : Nat) (AV.sc (Value.int IntKind.u8 (110 : Int))) (AV.cons (1 : Nat) (AV.sc (Value.bool true)) AV.nil)).tup ∧
                            True) ∧
                        True) ∧
                      Sub (AV.cons (1 : Nat) (AV.sc (Value.int IntKind.u8 (110 : Int))) (AV.cons (1 : Nat) (AV.sc (Value.bool true)) AV.nil)).tup res ∧
                        SubOut [] []) ∧
            ((b == (10 : Int)) = false →
              True ∧
                True ∧
                  ((b == (9 : Int)) = true →
                      True ∧
                        True ∧
                          (True ∧ True ∧ True) ∧
                            (((True ∧ True ∧ True) ∧
                                  Sub (AV.cons (1 : Nat) (AV.sc (Value.int IntKind.u8 (116 : Int))) (AV.cons (1 : Nat) (AV.sc (Value.bool true)) AV.nil)).tup
                                      (AV.cons (1 : Nat) (AV.sc (Value.int IntKind.u8 (116 : Int))) (AV.cons (1 : Nat) (AV.sc (Value.bool true)) AV.nil)).tup ∧
                                    True) ∧
                                True) ∧
                              Sub (AV.cons (1 : Nat) (AV.sc (Value.int IntKind.u8 (116 : Int))) (AV.cons (1 : Nat) (AV.sc (Value.bool true)) AV.nil)).tup res ∧
                                SubOut [] []) ∧
                    ((b == (9 : Int)) = false →
                      True ∧
                        True ∧
                          ((b == (13 : Int)) = true →
                              True ∧
                                True ∧
                                  (True ∧ True ∧ True) ∧
                                    (((True ∧ True ∧ True) ∧
                                          Sub
                                              (AV.cons (1 : Nat) (AV.sc (Value.int IntKind.u8 (114 : Int)))
                                                  (AV.cons (1 : Nat) (AV.sc (Value.bool true)) AV.nil)).tup
                                              (AV.cons (1 : Nat) (AV.sc (Value.int IntKind.u8 (114 : Int)))
                                                  (AV.cons (1 : Nat) (AV.sc (Value.bool true)) AV.nil)).tup ∧
                                            True) ∧
                                        True) ∧
                                      Sub
                                          (AV.cons (1 : Nat) (AV.sc (Value.int IntKind.u8 (114 : Int)))
                                              (AV.cons (1 : Nat) (AV.sc (Value.bool true)) AV.nil)).tup
                                          res ∧
                                        SubOut [] []) ∧
                            ((b == (13 : Int)) = false →
                              True ∧
                                True ∧
                                  (True ∧ True ∧ True) ∧
                                    (((True ∧ True ∧ True) ∧
                                          Sub
                                              (AV.cons (1 : Nat) (AV.sc (Value.int IntKind.u8 (0 : Int)))
                                                  (AV.cons (1 : Nat) (AV.sc (Value.bool false)) AV.nil)).tup
                                              (AV.cons (1 : Nat) (AV.sc (Value.int IntKind.u8 (0 : Int)))
                                                  (AV.cons (1 : Nat) (AV.sc (Value.bool false)) AV.nil)).tup ∧
                                            True) ∧
                                        True) ∧
                                      Sub (AV.cons (1 : Nat) (AV.sc (Value.int IntKind.u8 (0 : Int))) (AV.cons (1 : Nat) (AV.sc (Value.bool false)) AV.nil)).tup
                                          res ∧
                                        SubOut [] []))) from
    ⟨trivial, ⟨trivial, ⟨trivial, ⟨trivial, ⟨trivial, (And.elim (fun h5 k5 => ⟨(fun x6 => (fun h6 => ⟨trivial, ⟨trivial, ⟨⟨trivial, ⟨trivial, trivial⟩⟩, ⟨⟨⟨⟨trivial, ⟨trivial, trivial⟩⟩, ⟨Sub.refl _, trivial⟩⟩, trivial⟩, ⟨h6, trivial⟩⟩⟩⟩⟩) (h5 x6)), (fun x6 => (fun h6 => ⟨trivial, ⟨trivial, (And.elim (fun h9 k9 => ⟨(fun x10 => (fun h10 => ⟨trivial, ⟨trivial, ⟨⟨trivial, ⟨trivial, trivial⟩⟩, ⟨⟨⟨⟨trivial, ⟨trivial, trivial⟩⟩, ⟨Sub.refl _, trivial⟩⟩, trivial⟩, ⟨h10, trivial⟩⟩⟩⟩⟩) (h9 x10)), (fun x10 => (fun h10 => ⟨trivial, ⟨trivial, (And.elim (fun h13 k13 => ⟨(fun x14 => (fun h14 => ⟨trivial, ⟨trivial, ⟨⟨trivial, ⟨trivial, trivial⟩⟩, ⟨⟨⟨⟨trivial, ⟨trivial, trivial⟩⟩, ⟨Sub.refl _, trivial⟩⟩, trivial⟩, ⟨h14, trivial⟩⟩⟩⟩⟩) (h13 x14)), (fun x14 => (fun h14 => ⟨trivial, ⟨trivial, ⟨⟨trivial, ⟨trivial, trivial⟩⟩, ⟨⟨⟨⟨trivial, ⟨trivial, trivial⟩⟩, ⟨Sub.refl _, trivial⟩⟩, trivial⟩, ⟨h14, trivial⟩⟩⟩⟩⟩) (k13 x14))⟩) h10)⟩⟩) (k9 x10))⟩) h6)⟩⟩) (k5 x6))⟩) h)⟩⟩⟩⟩⟩)
theorem hf101 : Go.Proofs.Try.prog.funcs[101]? = some Go.Proofs.Try.f101 := by kernel_rfl
abbrev s101_e (b : Int) : List (Nat × AV) := [(0, (.sc (.int .u8 b)))]
abbrev m101_e (b : Int) : List (Nat × Nat × AV) := []
def L101_e (b : Int) (res : AV) : Prop := Goes ⟨Go.Proofs.Try.prog, 101, [], res, []⟩ (place Go.Proofs.Try.f101 []) (s101_e b) (m101_e b)
theorem a101_e (b : Int) (res : AV) (h : (∀ slot, fact (look .undef (s101_e b) slot)) → L101_e b res) : L101_e b res :=
  assumeRule 101 [] Go.Proofs.Try.f101 hf101 [] (s101_e b) (m101_e b) res [] _ (by kernel_rfl) h
abbrev s101_0 (t4 : Bool) : List (Nat × AV) := [(4, (.sc (.bool t4)))]
abbrev m101_0 (t4 : Bool) : List (Nat × Nat × AV) := []
def L101_0 (t4 : Bool) (res : AV) : Prop := Goes ⟨Go.Proofs.Try.prog, 101, [], res, []⟩ (place Go.Proofs.Try.f101 [1, 0, 1, 0, 1]) (s101_0 t4) (m101_0 t4)
theorem a101_0 (t4 : Bool) (res : AV) (h : (∀ slot, fact (look .undef (s101_0 t4) slot)) → L101_0 t4 res) : L101_0 t4 res :=
  assumeRule 101 [] Go.Proofs.Try.f101 hf101 [1, 0, 1, 0, 1] (s101_0 t4) (m101_0 t4) res [] _ (by kernel_rfl) h
abbrev s101_1 : List (Nat × AV) := []
abbrev m101_1 : List (Nat × Nat × AV) := []
def L101_1 (res : AV) : Prop := Goes ⟨Go.Proofs.Try.prog, 101, [], res, []⟩ (place Go.Proofs.Try.f101 [1, 1]) (s101_1 ) (m101_1 )
theorem a101_1 (res : AV) (h : (∀ slot, fact (look .undef (s101_1 ) slot)) → L101_1  res) : L101_1  res :=
  assumeRule 101 [] Go.Proofs.Try.f101 hf101 [1, 1] (s101_1 ) (m101_1 ) res [] _ (by kernel_rfl) h
theorem o101 (b : Int) (res : AV) (hnew : newOnly res) (h : L101_e b res) : Ok Go.Proofs.Try.prog 101 [(.sc (.int .u8 b))] [] res [] :=
  okRule2 101 Go.Proofs.Try.f101 hf101 [(.sc (.int .u8 b))] [] res [] [] rfl (by kernel_rfl) (by kernel_rfl) (by kernel_rfl) ⟨hnew, by simp⟩ (L101_e b res) (by kernel_rfl) h
theorem r101_e (b : Int) (res : AV)
    (h : ((b == (92 : Int)) = true → L101_0 true res) ∧
  ((b == (92 : Int)) = false →
    ((b == (91 : Int)) = true → L101_0 true res) ∧
      ((b == (91 : Int)) = false →
        ((b == (93 : Int)) = true → L101_0 true res) ∧
          ((b == (93 : Int)) = false → ((b == (94 : Int)) = true → L101_0 true res) ∧ ((b == (94 : Int)) = false → L101_0 (b == (45 : Int)) res))))) :
    L101_e b res :=
  rule Go.Am.Seat.tabOk 101 [] Go.Proofs.Try.f101 hf101 [] (s101_e b) (m101_e b) res [] 400
    ((Orc.cut (nat_lit 1) (s101_0 true) (m101_0 true) []).br
  ((Orc.cut (nat_lit 1) (s101_0 true) (m101_0 true) []).br
    ((Orc.cut (nat_lit 1) (s101_0 true) (m101_0 true) []).br
      ((Orc.cut (nat_lit 1) (s101_0 true) (m101_0 true) []).br (Orc.cut (nat_lit 1) (s101_0 (b == (45 : Int))) (m101_0 (b == (45 : Int))) []))))) _ _ (by kernel_rfl) (by kernel_rfl) (show True ∧
  True ∧
    True ∧
      True ∧
        ((b == (92 : Int)) = true → ((True ∧ Sub (AV.sc (Value.bool true)) (AV.sc (Value.bool true)) ∧ True) ∧ True) ∧ L101_0 true res) ∧
          ((b == (92 : Int)) = false →
            True ∧
              True ∧
                ((b == (91 : Int)) = true → ((True ∧ Sub (AV.sc (Value.bool true)) (AV.sc (Value.bool true)) ∧ True) ∧ True) ∧ L101_0 true res) ∧
                  ((b == (91 : Int)) = false →
                    True ∧
                      True ∧
                        ((b == (93 : Int)) = true → ((True ∧ Sub (AV.sc (Value.bool true)) (AV.sc (Value.bool true)) ∧ True) ∧ True) ∧ L101_0 true res) ∧
                          ((b == (93 : Int)) = false →
                            True ∧
                              True ∧
                                ((b == (94 : Int)) = true →
                                    ((True ∧ Sub (AV.sc (Value.bool true)) (AV.sc (Value.bool true)) ∧ True) ∧ True) ∧ L101_0 true res) ∧
                                  ((b == (94 : Int)) = false →
                                    True ∧
                                      True ∧
                                        ((True ∧ Sub (AV.sc (Value.bool (b == (45 : Int)))) (AV.sc (Value.bool (b == (45 : Int)))) ∧ True) ∧ True) ∧
                                          L101_0 (b == (45 : Int)) res)))) from
    ⟨trivial, ⟨trivial, ⟨trivial, ⟨trivial, (And.elim (fun h4 k4 => ⟨(fun x5 => (fun h5 => ⟨⟨⟨trivial, ⟨Sub.refl _, trivial⟩⟩, trivial⟩, h5⟩) (h4 x5)), (fun x5 => (fun h5 => ⟨trivial, ⟨trivial, (And.elim (fun h8 k8 => ⟨(fun x9 => (fun h9 => ⟨⟨⟨trivial, ⟨Sub.refl _, trivial⟩⟩, trivial⟩, h9⟩) (h8 x9)), (fun x9 => (fun h9 => ⟨trivial, ⟨trivial, (And.elim (fun h12 k12 => ⟨(fun x13 => (fun h13 => ⟨⟨⟨trivial, ⟨Sub.refl _, trivial⟩⟩, trivial⟩, h13⟩) (h12 x13)), (fun x13 => (fun h13 => ⟨trivial, ⟨trivial, (And.elim (fun h16 k16 => ⟨(fun x17 => (fun h17 => ⟨⟨⟨trivial, ⟨Sub.refl _, trivial⟩⟩, trivial⟩, h17⟩) (h16 x17)), (fun x17 => (fun h17 => ⟨trivial, ⟨trivial, ⟨⟨⟨trivial, ⟨Sub.refl _, trivial⟩⟩, trivial⟩, h17⟩⟩⟩) (k16 x17))⟩) h13)⟩⟩) (k12 x13))⟩) h9)⟩⟩) (k8 x9))⟩) h5)⟩⟩) (k4 x5))⟩) h)⟩⟩⟩⟩)
theorem r101_0 (t4 : Bool) (res : AV)
    (h : (t4 = true → Sub (AV.sc (Value.bool true)) res) ∧ (t4 = false → L101_1 res)) :
    L101_0 t4 res :=
  rule Go.Am.Seat.tabOk 101 [] Go.Proofs.Try.f101 hf101 [1, 0, 1, 0, 1] (s101_0 t4) (m101_0 t4) res [] 400
    ((Orc.fin (AV.sc (Value.bool true)) [] []).br (Orc.cut (nat_lit 2) s101_1 m101_1 [])) _ _ (by kernel_rfl) (by kernel_rfl) (show (t4 = true →
    True ∧ True ∧ ((True ∧ Sub (AV.sc (Value.bool true)) (AV.sc (Value.bool true)) ∧ True) ∧ True) ∧ Sub (AV.sc (Value.bool true)) res ∧ SubOut [] []) ∧
  (t4 = false → (True ∧ True) ∧ L101_1 res) from
    (And.elim (fun h0 k0 => ⟨(fun x1 => (fun h1 => ⟨trivial, ⟨trivial, ⟨⟨⟨trivial, ⟨Sub.refl _, trivial⟩⟩, trivial⟩, ⟨h1, trivial⟩⟩⟩⟩) (h0 x1)), (fun x1 => (fun h1 => ⟨⟨trivial, trivial⟩, h1⟩) (k0 x1))⟩) h))
theorem r101_1 (res : AV)
    (h : Sub (AV.sc (Value.bool false)) res) :
    L101_1  res :=
  rule Go.Am.Seat.tabOk 101 [] Go.Proofs.Try.f101 hf101 [1, 1] (s101_1 ) (m101_1 ) res [] 400
    (Orc.fin (AV.sc (Value.bool false)) [] []) _ _ (by kernel_rfl) (by kernel_rfl) (show True ∧ True ∧ ((True ∧ Sub (AV.sc (Value.bool false)) (AV.sc (Value.bool false)) ∧ True) ∧ True) ∧ Sub (AV.sc (Value.bool false)) res ∧ SubOut [] [] from
    ⟨trivial, ⟨trivial, ⟨⟨⟨trivial, ⟨Sub.refl _, trivial⟩⟩, trivial⟩, ⟨h, trivial⟩⟩⟩⟩)
theorem hf102 : Go.Proofs.Try.prog.funcs[102]? = some Go.Proofs.Try.f102 := by kernel_rfl
abbrev s102_e (b : Int) : List (Nat × AV) := [(0, (.sc (.int .u8 b)))]
abbrev m102_e (b : Int) : List (Nat × Nat × AV) := []
def L102_e (b : Int) (res : AV) : Prop := Goes ⟨Go.Proofs.Try.prog, 102, [], res, []⟩ (place Go.Proofs.Try.f102 []) (s102_e b) (m102_e b)
theorem a102_e (b : Int) (res : AV) (h : (∀ slot, fact (look .undef (s102_e b) slot)) → L102_e b res) : L102_e b res :=
  assumeRule 102 [] Go.Proofs.Try.f102 hf102 [] (s102_e b) (m102_e b) res [] _ (by kernel_rfl) h
theorem o102 (b : Int) (res : AV) (hnew : newOnly res) (h : L102_e b res) : Ok Go.Proofs.Try.prog 102 [(.sc (.int .u8 b))] [] res [] :=
  okRule2 102 Go.Proofs.Try.f102 hf102 [(.sc (.int .u8 b))] [] res [] [] rfl (by kernel_rfl) (by kernel_rfl) (by kernel_rfl) ⟨hnew, by simp⟩ (L102_e b res) (by kernel_rfl) h
theorem r102_e (b : Int) (res : AV)
    (h : ((b == (10 : Int)) = true → Sub (AV.sc (Value.string (ByteArray.mk #[(92 : UInt8), (110 : UInt8)]))) res) ∧
  ((b == (10 : Int)) = false →
    ((b == (9 : Int)) = true → Sub (AV.sc (Value.string (ByteArray.mk #[(92 : UInt8), (116 : UInt8)]))) res) ∧
      ((b == (9 : Int)) = false →
        ((b == (13 : Int)) = true → Sub (AV.sc (Value.string (ByteArray.mk #[(92 : UInt8), (114 : UInt8)]))) res) ∧
          ((b == (13 : Int)) = false →
            ∃ (r : Bool),
              Ok Proofs.Try.prog (112 : Nat) [AV.sc (Value.int IntKind.u8 b)] [] (AV.sc (Value.bool r)) [] ∧
                (r = true →
                    ((0 : Nat) + (1 : Nat) ≤ (1 : Nat) ∧
                        (strOf (1 : Nat) fun (i : Nat) => bif ((0 : Nat) + i).beq (0 : Nat) then b else (0 : Int)).size = (1 : Nat) ∧
                          ∀ (i : Nat),
                            i < (1 : Nat) →
                              AV.sc (Value.int IntKind.u8 (bif ((0 : Nat) + i).beq (0 : Nat) then b else (0 : Int))) =
                                AV.sc
                                  (Value.int IntKind.u8
                                    (↑(byteAt (strOf (1 : Nat) fun (i : Nat) => bif ((0 : Nat) + i).beq (0 : Nat) then b else (0 : Int)) i).toNat : Int))) ∧
                      (ByteArray.mk #[(92 : UInt8)]).size + (strOf (1 : Nat) fun (i : Nat) => bif ((0 : Nat) + i).beq (0 : Nat) then b else (0 : Int)).size ≤
                          (9223372036854775807 : Nat) ∧
                        Sub
                          (AV.sc
                            (Value.string
                              (ByteArray.mk #[(92 : UInt8)] ++ strOf (1 : Nat) fun (i : Nat) => bif ((0 : Nat) + i).beq (0 : Nat) then b else (0 : Int))))
                          res) ∧
                  (r = false →
                    ((0 : Nat) + (1 : Nat) ≤ (1 : Nat) ∧
                        (strOf (1 : Nat) fun (i : Nat) => bif ((0 : Nat) + i).beq (0 : Nat) then b else (0 : Int)).size = (1 : Nat) ∧
                          ∀ (i : Nat),
                            i < (1 : Nat) →
                              AV.sc (Value.int IntKind.u8 (bif ((0 : Nat) + i).beq (0 : Nat) then b else (0 : Int))) =
                                AV.sc
                                  (Value.int IntKind.u8
                                    (↑(byteAt (strOf (1 : Nat) fun (i : Nat) => bif ((0 : Nat) + i).beq (0 : Nat) then b else (0 : Int)) i).toNat : Int))) ∧
                      Sub (AV.sc (Value.string (strOf (1 : Nat) fun (i : Nat) => bif ((0 : Nat) + i).beq (0 : Nat) then b else (0 : Int)))) res))))) :
    L102_e b res :=
  rule Go.Am.Seat.tabOk 102 [] Go.Proofs.Try.f102 hf102 [] (s102_e b) (m102_e b) res [] 400
    ((Orc.fin (AV.sc (Value.string (ByteArray.mk #[(92 : UInt8), (110 : UInt8)]))) [] []).br
  ((Orc.fin (AV.sc (Value.string (ByteArray.mk #[(92 : UInt8), (116 : UInt8)]))) [] []).br
    ((Orc.fin (AV.sc (Value.string (ByteArray.mk #[(92 : UInt8), (114 : UInt8)]))) [] []).br
      (Orc.call [] [] (fun (r112 : Bool) => AV.sc (Value.bool r112)) (fun (r112 : Bool) => []) fun (r112 : Bool) =>
        (Orc.ch Ch.none
              (Orc.ch Ch.none
                (Orc.ch (Ch.s (strOf (1 : Nat) fun (i : Nat) => bif ((0 : Nat) + i).beq ((0 : Nat), Operand.tmp (15 : Nat)).fst then b else (0 : Int)))
                  (Orc.fin
                    (AV.sc
                      (Value.string
                        (ByteArray.mk #[(92 : UInt8)] ++
                          strOf (1 : Nat) fun (i : Nat) => bif ((0 : Nat) + i).beq ((0 : Nat), Operand.tmp (15 : Nat)).fst then b else (0 : Int))))
                    [] [])))).br
          (Orc.ch Ch.none
            (Orc.ch Ch.none
              (Orc.ch (Ch.s (strOf (1 : Nat) fun (i : Nat) => bif ((0 : Nat) + i).beq ((0 : Nat), Operand.tmp (19 : Nat)).fst then b else (0 : Int)))
                (Orc.fin
                  (AV.sc
                    (Value.string (strOf (1 : Nat) fun (i : Nat) => bif ((0 : Nat) + i).beq ((0 : Nat), Operand.tmp (19 : Nat)).fst then b else (0 : Int))))
                  [] [])))))))) _ _ (by kernel_rfl) (by kernel_rfl) (show True ∧
  True ∧
    True ∧
      True ∧
        ((b == (10 : Int)) = true →
            True ∧
              True ∧
                ((True ∧
                      Sub (AV.sc (Value.string (ByteArray.mk #[(92 : UInt8), (110 : UInt8)])))
                          (AV.sc (Value.string (ByteArray.mk #[(92 : UInt8), (110 : UInt8)]))) ∧
                        True) ∧
                    True) ∧
                  Sub (AV.sc (Value.string (ByteArray.mk #[(92 : UInt8), (110 : UInt8)]))) res ∧ SubOut [] []) ∧
          ((b == (10 : Int)) = false →
            True ∧
              True ∧
                True ∧
                  ((b == (9 : Int)) = true →
                      True ∧
                        True ∧
                          ((True ∧
                                Sub (AV.sc (Value.string (ByteArray.mk #[(92 : UInt8), (116 : UInt8)])))
                                    (AV.sc (Value.string (ByteArray.mk #[(92 : UInt8), (116 : UInt8)]))) ∧
                                  True) ∧
                              True) ∧
                            Sub (AV.sc (Value.string (ByteArray.mk #[(92 : UInt8), (116 : UInt8)]))) res ∧ SubOut [] []) ∧
                    ((b == (9 : Int)) = false →
                      True ∧
                        True ∧
                          True ∧
                            ((b == (13 : Int)) = true →
                                True ∧
                                  True ∧
                                    ((True ∧
                                          Sub (AV.sc (Value.string (ByteArray.mk #[(92 : UInt8), (114 : UInt8)])))
                                              (AV.sc (Value.string (ByteArray.mk #[(92 : UInt8), (114 : UInt8)]))) ∧
                                            True) ∧
                                        True) ∧
                                      Sub (AV.sc (Value.string (ByteArray.mk #[(92 : UInt8), (114 : UInt8)]))) res ∧ SubOut [] []) ∧
                              ((b == (13 : Int)) = false →
                                True ∧
                                  ∃ (r : Bool),
                                    ((True ∧ True) ∧ True ∧ Ok Proofs.Try.prog (112 : Nat) [AV.sc (Value.int IntKind.u8 b)] [] (AV.sc (Value.bool r)) []) ∧
                                      True ∧
                                        (r = true →
                                            True ∧
                                              ((True ∧ True) ∧ True) ∧
                                                (((0 : Nat) + (1 : Nat) ≤ (1 : Nat) ∧ (1 : Nat) = (1 : Nat)) ∧
                                                    (strOf (1 : Nat) fun (i : Nat) => bif ((0 : Nat) + i).beq (0 : Nat) then b else (0 : Int)).size =
                                                        (1 : Nat) ∧
                                                      ∀ (i : Nat),
                                                        i < (1 : Nat) →
                                                          AV.sc (Value.int IntKind.u8 (bif ((0 : Nat) + i).beq (0 : Nat) then b else (0 : Int))) =
                                                            AV.sc
                                                              (Value.int IntKind.u8
                                                                (↑(byteAt
                                                                        (strOf (1 : Nat) fun (i : Nat) =>
                                                                          bif ((0 : Nat) + i).beq (0 : Nat) then b else (0 : Int))
                                                                        i).toNat :
                                                                  Int))) ∧
                                                  (ByteArray.mk #[(92 : UInt8)]).size +
                                                        (strOf (1 : Nat) fun (i : Nat) => bif ((0 : Nat) + i).beq (0 : Nat) then b else (0 : Int)).size ≤
                                                      (9223372036854775807 : Nat) ∧
                                                    True ∧
                                                      True ∧
                                                        ((True ∧
                                                              Sub
                                                                  (AV.sc
                                                                    (Value.string
                                                                      (ByteArray.mk #[(92 : UInt8)] ++
                                                                        strOf (1 : Nat) fun (i : Nat) =>
                                                                          bif ((0 : Nat) + i).beq (0 : Nat) then b else (0 : Int))))
                                                                  (AV.sc
                                                                    (Value.string
                                                                      (ByteArray.mk #[(92 : UInt8)] ++
                                                                        strOf (1 : Nat) fun (i : Nat) =>
                                                                          bif ((0 : Nat) + i).beq (0 : Nat) then b else (0 : Int)))) ∧
                                                                True) ∧
                                                            True) ∧
                                                          Sub
                                                              (AV.sc
                                                                (Value.string
                                                                  (ByteArray.mk #[(92 : UInt8)] ++
                                                                    strOf (1 : Nat) fun (i : Nat) => bif ((0 : Nat) + i).beq (0 : Nat) then b else (0 : Int))))
                                                              res ∧
                                                            SubOut [] []) ∧
                                          (r = false →
                                            True ∧
                                              ((True ∧ True) ∧ True) ∧
                                                (((0 : Nat) + (1 : Nat) ≤ (1 : Nat) ∧ (1 : Nat) = (1 : Nat)) ∧
                                                    (strOf (1 : Nat) fun (i : Nat) => bif ((0 : Nat) + i).beq (0 : Nat) then b else (0 : Int)).size =
                                                        (1 : Nat) ∧
                                                      ∀ (i : Nat),
                                                        i < (1 : Nat) →
                                                          AV.sc (Value.int IntKind.u8 (bif ((0 : Nat) + i).beq (0 : Nat) then b else (0 : Int))) =
                                                            AV.sc
                                                              (Value.int IntKind.u8
                                                                (↑(byteAt
                                                                        (strOf (1 : Nat) fun (i : Nat) =>
                                                                          bif ((0 : Nat) + i).beq (0 : Nat) then b else (0 : Int))
                                                                        i).toNat :
                                                                  Int))) ∧
                                                  True ∧
                                                    True ∧
                                                      ((True ∧
                                                            Sub
                                                                (AV.sc
                                                                  (Value.string
                                                                    (strOf (1 : Nat) fun (i : Nat) => bif ((0 : Nat) + i).beq (0 : Nat) then b else (0 : Int))))
                                                                (AV.sc
                                                                  (Value.string
                                                                    (strOf (1 : Nat) fun (i : Nat) =>
                                                                      bif ((0 : Nat) + i).beq (0 : Nat) then b else (0 : Int)))) ∧
                                                              True) ∧
                                                          True) ∧
                                                        Sub
                                                            (AV.sc
                                                              (Value.string
                                                                (strOf (1 : Nat) fun (i : Nat) => bif ((0 : Nat) + i).beq (0 : Nat) then b else (0 : Int))))
                                                            res ∧
                                                          SubOut [] [])))) from
    ⟨trivial, ⟨trivial, ⟨trivial, ⟨trivial, (And.elim (fun h4 k4 => ⟨(fun x5 => (fun h5 => ⟨trivial, ⟨trivial, ⟨⟨⟨trivial, ⟨Sub.refl _, trivial⟩⟩, trivial⟩, ⟨h5, trivial⟩⟩⟩⟩) (h4 x5)), (fun x5 => (fun h5 => ⟨trivial, ⟨trivial, ⟨trivial, (And.elim (fun h9 k9 => ⟨(fun x10 => (fun h10 => ⟨trivial, ⟨trivial, ⟨⟨⟨trivial, ⟨Sub.refl _, trivial⟩⟩, trivial⟩, ⟨h10, trivial⟩⟩⟩⟩) (h9 x10)), (fun x10 => (fun h10 => ⟨trivial, ⟨trivial, ⟨trivial, (And.elim (fun h14 k14 => ⟨(fun x15 => (fun h15 => ⟨trivial, ⟨trivial, ⟨⟨⟨trivial, ⟨Sub.refl _, trivial⟩⟩, trivial⟩, ⟨h15, trivial⟩⟩⟩⟩) (h14 x15)), (fun x15 => (fun h15 => ⟨trivial, (Exists.elim h15 fun x17 h17 => ⟨x17, (And.elim (fun h18 k18 => ⟨⟨⟨trivial, trivial⟩, ⟨trivial, h18⟩⟩, ⟨trivial, (And.elim (fun h20 k20 => ⟨(fun x21 => (fun h21 => ⟨trivial, ⟨⟨⟨trivial, trivial⟩, trivial⟩, (And.elim (fun h24 k24 => ⟨(And.elim (fun h25 k25 => ⟨⟨h25, rfl⟩, (And.elim (fun h26 k26 => ⟨h26, (fun x27 => (fun h27 => (fun x28 => (fun h28 => h28) (h27 x28))) (k26 x27))⟩) k25)⟩) h24), (And.elim (fun h25 k25 => ⟨h25, ⟨trivial, ⟨trivial, ⟨⟨⟨trivial, ⟨Sub.refl _, trivial⟩⟩, trivial⟩, ⟨k25, trivial⟩⟩⟩⟩⟩) k24)⟩) h21)⟩⟩) (h20 x21)), (fun x21 => (fun h21 => ⟨trivial, ⟨⟨⟨trivial, trivial⟩, trivial⟩, (And.elim (fun h24 k24 => ⟨(And.elim (fun h25 k25 => ⟨⟨h25, rfl⟩, (And.elim (fun h26 k26 => ⟨h26, (fun x27 => (fun h27 => (fun x28 => (fun h28 => h28) (h27 x28))) (k26 x27))⟩) k25)⟩) h24), ⟨trivial, ⟨trivial, ⟨⟨⟨trivial, ⟨Sub.refl _, trivial⟩⟩, trivial⟩, ⟨k24, trivial⟩⟩⟩⟩⟩) h21)⟩⟩) (k20 x21))⟩) k18)⟩⟩) h17)⟩)⟩) (k14 x15))⟩) h10)⟩⟩⟩) (k9 x10))⟩) h5)⟩⟩⟩) (k4 x5))⟩) h)⟩⟩⟩⟩)
theorem hf103 : Go.Proofs.Try.prog.funcs[103]? = some Go.Proofs.Try.f103 := by kernel_rfl
abbrev s103_e (sf : Nat → Int) (b : Int) : List (Nat × AV) := [(0, (.ar 4 1 (fun i0 => (.sc (.int .u64 (sf i0)))))), (1, (.sc (.int .u8 b)))]
abbrev m103_e (sf : Nat → Int) (b : Int) : List (Nat × Nat × AV) := []
def L103_e (sf : Nat → Int) (b : Int) (res : AV) : Prop := Goes ⟨Go.Proofs.Try.prog, 103, [], res, []⟩ (place Go.Proofs.Try.f103 []) (s103_e sf b) (m103_e sf b)
theorem a103_e (sf : Nat → Int) (b : Int) (res : AV) (h : (∀ slot, fact (look .undef (s103_e sf b) slot)) → L103_e sf b res) : L103_e sf b res :=
  assumeRule 103 [] Go.Proofs.Try.f103 hf103 [] (s103_e sf b) (m103_e sf b) res [] _ (by kernel_rfl) h
theorem o103 (sf : Nat → Int) (b : Int) (res : AV) (hnew : newOnly res) (h : L103_e sf b res) : Ok Go.Proofs.Try.prog 103 [(.ar 4 1 (fun i0 => (.sc (.int .u64 (sf i0))))), (.sc (.int .u8 b))] [] res [] :=
  okRule2 103 Go.Proofs.Try.f103 hf103 [(.ar 4 1 (fun i0 => (.sc (.int .u64 (sf i0))))), (.sc (.int .u8 b))] [] res [] [] rfl (by kernel_rfl) (by kernel_rfl) (by kernel_rfl) ⟨hnew, by simp⟩ (L103_e sf b res) (by kernel_rfl) h
theorem r103_e (sf : Nat → Int) (b : Int) (res : AV)
    (h : ((0 : Int) ≤ IntKind.u8.wrap (b.tdiv (64 : Int)) ∧ IntKind.u8.wrap (b.tdiv (64 : Int)) < (↑(4 : Nat) : Int)) ∧
  (IntKind.u8.wrap (b.tdiv (64 : Int))).toNat < (4 : Nat) ∧
    (0 : Int) ≤ b.tmod (64 : Int) ∧
      ((0 : Int) ≤ IntKind.u8.wrap (b.tdiv (64 : Int)) ∧ IntKind.u8.wrap (b.tdiv (64 : Int)) < (↑(4 : Nat) : Int)) ∧
        (IntKind.u8.wrap (b.tdiv (64 : Int))).toNat < (4 : Nat) ∧
          Sub
            (AV.ar (4 : Nat) (1 : Nat) fun (i : Nat) =>
              AV.sc
                (Value.int IntKind.u64
                  (bif i.beq (IntKind.u8.wrap (b.tdiv (64 : Int))).toNat then
                    IntKind.u64.wrap
                      (↑(BitVec.ofInt IntKind.u64.bits (sf (IntKind.u8.wrap (b.tdiv (64 : Int))).toNat) |||
                              BitVec.ofInt IntKind.u64.bits (IntKind.u64.wrap ((1 : Int) * (2 : Int) ^ min (b.tmod (64 : Int)).toNat IntKind.u64.bits))).toNat :
                        Int)
                  else sf i)))
            res) :
    L103_e sf b res :=
  rule Go.Am.Seat.tabOk 103 [] Go.Proofs.Try.f103 hf103 [] (s103_e sf b) (m103_e sf b) res [] 400
    (Orc.fin
  (AV.ar (4 : Nat) (1 : Nat) fun (i : Nat) =>
    AV.sc
      (Value.int IntKind.u64
        (bif i.beq (IntKind.u8.wrap (b.tdiv (64 : Int))).toNat then
          IntKind.u64.wrap
            (↑(BitVec.ofInt IntKind.u64.bits (sf (IntKind.u8.wrap (b.tdiv (64 : Int))).toNat) |||
                    BitVec.ofInt IntKind.u64.bits (IntKind.u64.wrap ((1 : Int) * (2 : Int) ^ min (b.tmod (64 : Int)).toNat IntKind.u64.bits))).toNat :
              Int)
        else sf i)))
  [] []) _ _ (by kernel_rfl) (by kernel_rfl) (show True ∧
  True ∧
    True ∧
      (64 : Int) ≠ (0 : Int) ∧
        ((0 : Int) ≤ IntKind.u8.wrap (b.tdiv (64 : Int)) ∧ IntKind.u8.wrap (b.tdiv (64 : Int)) < (↑(4 : Nat) : Int)) ∧
          ((IntKind.u8.wrap (b.tdiv (64 : Int))).toNat * (1 : Nat) + (0 : Nat) = plus (0 : Nat) ((IntKind.u8.wrap (b.tdiv (64 : Int))).toNat * (1 : Nat)) ∧
              (IntKind.u8.wrap (b.tdiv (64 : Int))).toNat < (4 : Nat) ∧ True) ∧
            True ∧
              (64 : Int) ≠ (0 : Int) ∧
                (0 : Int) ≤ b.tmod (64 : Int) ∧
                  True ∧
                    ((0 : Int) ≤ IntKind.u8.wrap (b.tdiv (64 : Int)) ∧ IntKind.u8.wrap (b.tdiv (64 : Int)) < (↑(4 : Nat) : Int)) ∧
                      ((IntKind.u8.wrap (b.tdiv (64 : Int))).toNat * (1 : Nat) + (0 : Nat) =
                            plus (0 : Nat) ((IntKind.u8.wrap (b.tdiv (64 : Int))).toNat * (1 : Nat)) ∧
                          ((IntKind.u8.wrap (b.tdiv (64 : Int))).toNat < (4 : Nat) ∧ True) ∧ True) ∧
                        ((0 : Nat) = (0 : Nat) ∧ True) ∧
                          ((0 : Nat) = (0 : Nat) ∧ True) ∧
                            ((0 : Nat) = (0 : Nat) ∧ True) ∧
                              ((True ∧
                                    Sub
                                        (AV.ar (4 : Nat) (1 : Nat) fun (i : Nat) =>
                                          AV.sc
                                            (Value.int IntKind.u64
                                              (bif i.beq (IntKind.u8.wrap (b.tdiv (64 : Int))).toNat then
                                                IntKind.u64.wrap
                                                  (↑(BitVec.ofInt IntKind.u64.bits (sf (IntKind.u8.wrap (b.tdiv (64 : Int))).toNat) |||
                                                          BitVec.ofInt IntKind.u64.bits
                                                            (IntKind.u64.wrap ((1 : Int) * (2 : Int) ^ min (b.tmod (64 : Int)).toNat IntKind.u64.bits))).toNat :
                                                    Int)
                                              else sf i)))
                                        (AV.ar (4 : Nat) (1 : Nat) fun (i : Nat) =>
                                          AV.sc
                                            (Value.int IntKind.u64
                                              (bif i.beq (IntKind.u8.wrap (b.tdiv (64 : Int))).toNat then
                                                IntKind.u64.wrap
                                                  (↑(BitVec.ofInt IntKind.u64.bits (sf (IntKind.u8.wrap (b.tdiv (64 : Int))).toNat) |||
                                                          BitVec.ofInt IntKind.u64.bits
                                                            (IntKind.u64.wrap ((1 : Int) * (2 : Int) ^ min (b.tmod (64 : Int)).toNat IntKind.u64.bits))).toNat :
                                                    Int)
                                              else sf i))) ∧
                                      True) ∧
                                  True) ∧
                                Sub
                                    (AV.ar (4 : Nat) (1 : Nat) fun (i : Nat) =>
                                      AV.sc
                                        (Value.int IntKind.u64
                                          (bif i.beq (IntKind.u8.wrap (b.tdiv (64 : Int))).toNat then
                                            IntKind.u64.wrap
                                              (↑(BitVec.ofInt IntKind.u64.bits (sf (IntKind.u8.wrap (b.tdiv (64 : Int))).toNat) |||
                                                      BitVec.ofInt IntKind.u64.bits
                                                        (IntKind.u64.wrap ((1 : Int) * (2 : Int) ^ min (b.tmod (64 : Int)).toNat IntKind.u64.bits))).toNat :
                                                Int)
                                          else sf i)))
                                    res ∧
                                  SubOut [] [] from
    ⟨trivial, ⟨trivial, ⟨trivial, ⟨(by decide), (And.elim (fun h4 k4 => ⟨(And.elim (fun h5 k5 => ⟨h5, k5⟩) h4), (And.elim (fun h5 k5 => ⟨⟨rfl, ⟨h5, trivial⟩⟩, ⟨trivial, ⟨(by decide), (And.elim (fun h8 k8 => ⟨h8, ⟨trivial, (And.elim (fun h10 k10 => ⟨(And.elim (fun h11 k11 => ⟨h11, k11⟩) h10), (And.elim (fun h11 k11 => ⟨⟨rfl, ⟨⟨h11, trivial⟩, trivial⟩⟩, ⟨⟨rfl, trivial⟩, ⟨⟨rfl, trivial⟩, ⟨⟨rfl, trivial⟩, ⟨⟨⟨trivial, ⟨Sub.refl _, trivial⟩⟩, trivial⟩, ⟨k11, trivial⟩⟩⟩⟩⟩⟩) k10)⟩) k8)⟩⟩) k5)⟩⟩⟩) k4)⟩) h)⟩⟩⟩⟩)
theorem hf104 : Go.Proofs.Try.prog.funcs[104]? = some Go.Proofs.Try.f104 := by kernel_rfl
abbrev s104_e (s : ByteArray) (at_ : Int) : List (Nat × AV) := [(0, (.sc (.string s))), (1, (.sc (.int .i64 at_)))]
abbrev m104_e (s : ByteArray) (at_ : Int) : List (Nat × Nat × AV) := []
def L104_e (s : ByteArray) (at_ : Int) (res : AV) : Prop := Goes ⟨Go.Proofs.Try.prog, 104, [], res, []⟩ (place Go.Proofs.Try.f104 []) (s104_e s at_) (m104_e s at_)
theorem a104_e (s : ByteArray) (at_ : Int) (res : AV) (h : (∀ slot, fact (look .undef (s104_e s at_) slot)) → L104_e s at_ res) : L104_e s at_ res :=
  assumeRule 104 [] Go.Proofs.Try.f104 hf104 [] (s104_e s at_) (m104_e s at_) res [] _ (by kernel_rfl) h
abbrev s104_0 (s : ByteArray) (at_ : Int) (not_ : Bool) (b0f : Nat → Int) (b1f : Nat → Int) : List (Nat × AV) := [(0, (.sc (.string s))), (1, (.sc (.int .i64 at_))), (4, (.pt 1000 [] 0)), (7, (.pt 1001 [] 0)), (8, (.sc (.bool not_)))]
abbrev m104_0 (s : ByteArray) (at_ : Int) (not_ : Bool) (b0f : Nat → Int) (b1f : Nat → Int) : List (Nat × Nat × AV) := [(1000, 50, (.ar 4 1 (fun i0 => (.sc (.int .u64 (b0f i0)))))), (1001, 50, (.ar 4 1 (fun i0 => (.sc (.int .u64 (b1f i0))))))]
def L104_0 (s : ByteArray) (at_ : Int) (not_ : Bool) (b0f : Nat → Int) (b1f : Nat → Int) (res : AV) : Prop := Goes ⟨Go.Proofs.Try.prog, 104, [], res, []⟩ (place Go.Proofs.Try.f104 [1, 1, 1, 1, 1, 1]) (s104_0 s at_ not_ b0f b1f) (m104_0 s at_ not_ b0f b1f)
theorem a104_0 (s : ByteArray) (at_ : Int) (not_ : Bool) (b0f : Nat → Int) (b1f : Nat → Int) (res : AV) (h : (∀ slot, fact (look .undef (s104_0 s at_ not_ b0f b1f) slot)) → L104_0 s at_ not_ b0f b1f res) : L104_0 s at_ not_ b0f b1f res :=
  assumeRule 104 [] Go.Proofs.Try.f104 hf104 [1, 1, 1, 1, 1, 1] (s104_0 s at_ not_ b0f b1f) (m104_0 s at_ not_ b0f b1f) res [] _ (by kernel_rfl) h
abbrev s104_1 (s : ByteArray) (at_ : Int) (not_ : Bool) (b0f : Nat → Int) (b1f : Nat → Int) : List (Nat × AV) := [(0, (.sc (.string s))), (1, (.sc (.int .i64 at_))), (4, (.pt 1000 [] 0)), (7, (.pt 1001 [] 0)), (8, (.sc (.bool not_)))]
abbrev m104_1 (s : ByteArray) (at_ : Int) (not_ : Bool) (b0f : Nat → Int) (b1f : Nat → Int) : List (Nat × Nat × AV) := [(1000, 50, (.ar 4 1 (fun i0 => (.sc (.int .u64 (b0f i0)))))), (1001, 50, (.ar 4 1 (fun i0 => (.sc (.int .u64 (b1f i0))))))]
def L104_1 (s : ByteArray) (at_ : Int) (not_ : Bool) (b0f : Nat → Int) (b1f : Nat → Int) (res : AV) : Prop := Goes ⟨Go.Proofs.Try.prog, 104, [], res, []⟩ (place Go.Proofs.Try.f104 [1, 1, 1, 1, 1, 1, 0, 0, 0]) (s104_1 s at_ not_ b0f b1f) (m104_1 s at_ not_ b0f b1f)
theorem a104_1 (s : ByteArray) (at_ : Int) (not_ : Bool) (b0f : Nat → Int) (b1f : Nat → Int) (res : AV) (h : (∀ slot, fact (look .undef (s104_1 s at_ not_ b0f b1f) slot)) → L104_1 s at_ not_ b0f b1f res) : L104_1 s at_ not_ b0f b1f res :=
  assumeRule 104 [] Go.Proofs.Try.f104 hf104 [1, 1, 1, 1, 1, 1, 0, 0, 0] (s104_1 s at_ not_ b0f b1f) (m104_1 s at_ not_ b0f b1f) res [] _ (by kernel_rfl) h
abbrev s104_2 (s : ByteArray) (not_ : Bool) (a : Int) (next : Int) (b : Int) (b0f : Nat → Int) (b1f : Nat → Int) : List (Nat × AV) := [(0, (.sc (.string s))), (4, (.pt 1000 [] 0)), (7, (.pt 1001 [] 0)), (8, (.sc (.bool not_))), (9, (.sc (.int .u8 a))), (10, (.sc (.int .i64 next))), (12, (.sc (.int .u8 b)))]
abbrev m104_2 (s : ByteArray) (not_ : Bool) (a : Int) (next : Int) (b : Int) (b0f : Nat → Int) (b1f : Nat → Int) : List (Nat × Nat × AV) := [(1000, 50, (.ar 4 1 (fun i0 => (.sc (.int .u64 (b0f i0)))))), (1001, 50, (.ar 4 1 (fun i0 => (.sc (.int .u64 (b1f i0))))))]
def L104_2 (s : ByteArray) (not_ : Bool) (a : Int) (next : Int) (b : Int) (b0f : Nat → Int) (b1f : Nat → Int) (res : AV) : Prop := Goes ⟨Go.Proofs.Try.prog, 104, [], res, []⟩ (place Go.Proofs.Try.f104 [1, 1, 1, 1, 1, 1, 0, 0, 0, 1, 0, 1, 1, 1, 1]) (s104_2 s not_ a next b b0f b1f) (m104_2 s not_ a next b b0f b1f)
theorem a104_2 (s : ByteArray) (not_ : Bool) (a : Int) (next : Int) (b : Int) (b0f : Nat → Int) (b1f : Nat → Int) (res : AV) (h : (∀ slot, fact (look .undef (s104_2 s not_ a next b b0f b1f) slot)) → L104_2 s not_ a next b b0f b1f res) : L104_2 s not_ a next b b0f b1f res :=
  assumeRule 104 [] Go.Proofs.Try.f104 hf104 [1, 1, 1, 1, 1, 1, 0, 0, 0, 1, 0, 1, 1, 1, 1] (s104_2 s not_ a next b b0f b1f) (m104_2 s not_ a next b b0f b1f) res [] _ (by kernel_rfl) h
abbrev s104_3 (s : ByteArray) (not_ : Bool) (next : Int) (b : Int) (c : Int) (b0f : Nat → Int) (b1f : Nat → Int) : List (Nat × AV) := [(0, (.sc (.string s))), (4, (.pt 1000 [] 0)), (7, (.pt 1001 [] 0)), (8, (.sc (.bool not_))), (10, (.sc (.int .i64 next))), (12, (.sc (.int .u8 b))), (13, (.sc (.int .i64 c)))]
abbrev m104_3 (s : ByteArray) (not_ : Bool) (next : Int) (b : Int) (c : Int) (b0f : Nat → Int) (b1f : Nat → Int) : List (Nat × Nat × AV) := [(1000, 50, (.ar 4 1 (fun i0 => (.sc (.int .u64 (b0f i0)))))), (1001, 50, (.ar 4 1 (fun i0 => (.sc (.int .u64 (b1f i0))))))]
def L104_3 (s : ByteArray) (not_ : Bool) (next : Int) (b : Int) (c : Int) (b0f : Nat → Int) (b1f : Nat → Int) (res : AV) : Prop := Goes ⟨Go.Proofs.Try.prog, 104, [], res, []⟩ (place Go.Proofs.Try.f104 [1, 1, 1, 1, 1, 1, 0, 0, 0, 1, 0, 1, 1, 1, 1, 0, 1, 0, 0]) (s104_3 s not_ next b c b0f b1f) (m104_3 s not_ next b c b0f b1f)
theorem a104_3 (s : ByteArray) (not_ : Bool) (next : Int) (b : Int) (c : Int) (b0f : Nat → Int) (b1f : Nat → Int) (res : AV) (h : (∀ slot, fact (look .undef (s104_3 s not_ next b c b0f b1f) slot)) → L104_3 s not_ next b c b0f b1f res) : L104_3 s not_ next b c b0f b1f res :=
  assumeRule 104 [] Go.Proofs.Try.f104 hf104 [1, 1, 1, 1, 1, 1, 0, 0, 0, 1, 0, 1, 1, 1, 1, 0, 1, 0, 0] (s104_3 s not_ next b c b0f b1f) (m104_3 s not_ next b c b0f b1f) res [] _ (by kernel_rfl) h
abbrev s104_4 (at_ : Int) (t113 : Int) (b0f : Nat → Int) (b1f : Nat → Int) : List (Nat × AV) := [(1, (.sc (.int .i64 at_))), (4, (.pt 1000 [] 0)), (7, (.pt 1001 [] 0)), (113, (.sc (.int .i64 t113)))]
abbrev m104_4 (at_ : Int) (t113 : Int) (b0f : Nat → Int) (b1f : Nat → Int) : List (Nat × Nat × AV) := [(1000, 50, (.ar 4 1 (fun i0 => (.sc (.int .u64 (b0f i0)))))), (1001, 50, (.ar 4 1 (fun i0 => (.sc (.int .u64 (b1f i0))))))]
def L104_4 (at_ : Int) (t113 : Int) (b0f : Nat → Int) (b1f : Nat → Int) (res : AV) : Prop := Goes ⟨Go.Proofs.Try.prog, 104, [], res, []⟩ (place Go.Proofs.Try.f104 [1, 1, 1, 1, 1, 1, 1, 1, 0, 1, 0, 1, 0, 0]) (s104_4 at_ t113 b0f b1f) (m104_4 at_ t113 b0f b1f)
theorem a104_4 (at_ : Int) (t113 : Int) (b0f : Nat → Int) (b1f : Nat → Int) (res : AV) (h : (∀ slot, fact (look .undef (s104_4 at_ t113 b0f b1f) slot)) → L104_4 at_ t113 b0f b1f res) : L104_4 at_ t113 b0f b1f res :=
  assumeRule 104 [] Go.Proofs.Try.f104 hf104 [1, 1, 1, 1, 1, 1, 1, 1, 0, 1, 0, 1, 0, 0] (s104_4 at_ t113 b0f b1f) (m104_4 at_ t113 b0f b1f) res [] _ (by kernel_rfl) h
abbrev s104_5 (at_ : Int) (b0f : Nat → Int) (b1f : Nat → Int) : List (Nat × AV) := [(1, (.sc (.int .i64 at_))), (4, (.pt 1000 [] 0)), (7, (.pt 1001 [] 0))]
abbrev m104_5 (at_ : Int) (b0f : Nat → Int) (b1f : Nat → Int) : List (Nat × Nat × AV) := [(1000, 50, (.ar 4 1 (fun i0 => (.sc (.int .u64 (b0f i0)))))), (1001, 50, (.ar 4 1 (fun i0 => (.sc (.int .u64 (b1f i0))))))]
def L104_5 (at_ : Int) (b0f : Nat → Int) (b1f : Nat → Int) (res : AV) : Prop := Goes ⟨Go.Proofs.Try.prog, 104, [], res, []⟩ (place Go.Proofs.Try.f104 [1, 1, 1, 1, 1, 1, 1, 1, 1]) (s104_5 at_ b0f b1f) (m104_5 at_ b0f b1f)
theorem a104_5 (at_ : Int) (b0f : Nat → Int) (b1f : Nat → Int) (res : AV) (h : (∀ slot, fact (look .undef (s104_5 at_ b0f b1f) slot)) → L104_5 at_ b0f b1f res) : L104_5 at_ b0f b1f res :=
  assumeRule 104 [] Go.Proofs.Try.f104 hf104 [1, 1, 1, 1, 1, 1, 1, 1, 1] (s104_5 at_ b0f b1f) (m104_5 at_ b0f b1f) res [] _ (by kernel_rfl) h
theorem o104 (s : ByteArray) (at_ : Int) (res : AV) (hnew : newOnly res) (h : L104_e s at_ res) : Ok Go.Proofs.Try.prog 104 [(.sc (.string s)), (.sc (.int .i64 at_))] [] res [] :=
  okRule2 104 Go.Proofs.Try.f104 hf104 [(.sc (.string s)), (.sc (.int .i64 at_))] [] res [] [] rfl (by kernel_rfl) (by kernel_rfl) (by kernel_rfl) ⟨hnew, by simp⟩ (L104_e s at_ res) (by kernel_rfl) h
theorem r104_e (s : ByteArray) (at_ : Int) (res : AV)
    (h : (decide (at_ ≥ (↑s.size : Int)) = false →
    ((0 : Int) ≤ at_ ∧ at_ < (↑s.size : Int)) ∧
      (((↑(byteAt s at_.toNat).toNat : Int) != (91 : Int)) = true →
          Sub
            (AV.cons (1 : Nat) (AV.ar (4 : Nat) (1 : Nat) fun (x : Nat) => AV.sc (Value.int IntKind.u64 (0 : Int)))
                (AV.cons (1 : Nat) (AV.sc (Value.int IntKind.i64 at_)) (AV.cons (1 : Nat) (AV.sc (Value.bool false)) AV.nil))).tup
            res) ∧
        (((↑(byteAt s at_.toNat).toNat : Int) != (91 : Int)) = false →
          (decide (IntKind.i64.wrap (at_ + (1 : Int)) < (↑s.size : Int)) = true →
              ((0 : Int) ≤ IntKind.i64.wrap (at_ + (1 : Int)) ∧ IntKind.i64.wrap (at_ + (1 : Int)) < (↑s.size : Int)) ∧
                (((↑(byteAt s (IntKind.i64.wrap (at_ + (1 : Int))).toNat).toNat : Int) == (94 : Int)) = true →
                    L104_0 s (IntKind.i64.wrap (IntKind.i64.wrap (at_ + (1 : Int)) + (1 : Int)))
                      ((↑(byteAt s (IntKind.i64.wrap (at_ + (1 : Int))).toNat).toNat : Int) == (94 : Int)) (fun (x : Nat) => (0 : Int))
                      (fun (x : Nat) => (0 : Int)) res) ∧
                  (((↑(byteAt s (IntKind.i64.wrap (at_ + (1 : Int))).toNat).toNat : Int) == (94 : Int)) = false →
                    L104_0 s (IntKind.i64.wrap (at_ + (1 : Int))) ((↑(byteAt s (IntKind.i64.wrap (at_ + (1 : Int))).toNat).toNat : Int) == (94 : Int))
                      (fun (x : Nat) => (0 : Int)) (fun (x : Nat) => (0 : Int)) res)) ∧
            (decide (IntKind.i64.wrap (at_ + (1 : Int)) < (↑s.size : Int)) = !true →
              L104_0 s (IntKind.i64.wrap (at_ + (1 : Int))) false (fun (x : Nat) => (0 : Int)) (fun (x : Nat) => (0 : Int)) res))) ∧
  (decide (at_ ≥ (↑s.size : Int)) = !false →
    Sub
      (AV.cons (1 : Nat) (AV.ar (4 : Nat) (1 : Nat) fun (x : Nat) => AV.sc (Value.int IntKind.u64 (0 : Int)))
          (AV.cons (1 : Nat) (AV.sc (Value.int IntKind.i64 at_)) (AV.cons (1 : Nat) (AV.sc (Value.bool false)) AV.nil))).tup
      res)) :
    L104_e s at_ res :=
  rule Go.Am.Seat.tabOk 104 [] Go.Proofs.Try.f104 hf104 [] (s104_e s at_) (m104_e s at_) res [] 400
    (((Orc.fin
                (AV.cons (1 : Nat) (AV.ar (4 : Nat) (1 : Nat) fun (x : Nat) => AV.sc (Value.int IntKind.u64 (0 : Int)))
                    (AV.cons (1 : Nat) (AV.sc (Value.int IntKind.i64 at_)) (AV.cons (1 : Nat) (AV.sc (Value.bool false)) AV.nil))).tup
                [] []).br
            (((Orc.cut (nat_lit 1)
                            (s104_0 s (IntKind.i64.wrap (IntKind.i64.wrap (at_ + (1 : Int)) + (1 : Int)))
                              (bif true then (↑(byteAt s (IntKind.i64.wrap (at_ + (1 : Int))).toNat).toNat : Int) == (94 : Int) else false)
                              (fun (x : Nat) => (0 : Int)) fun (x : Nat) => (0 : Int))
                            (m104_0 s (IntKind.i64.wrap (IntKind.i64.wrap (at_ + (1 : Int)) + (1 : Int)))
                              (bif true then (↑(byteAt s (IntKind.i64.wrap (at_ + (1 : Int))).toNat).toNat : Int) == (94 : Int) else false)
                              (fun (x : Nat) => (0 : Int)) fun (x : Nat) => (0 : Int))
                            [((1000 : Nat), some (4 : Nat)), ((1001 : Nat), some (7 : Nat))]).br
                        (Orc.cut (nat_lit 1)
                          (s104_0 s (IntKind.i64.wrap (at_ + (1 : Int)))
                            (bif true then (↑(byteAt s (IntKind.i64.wrap (at_ + (1 : Int))).toNat).toNat : Int) == (94 : Int) else false)
                            (fun (x : Nat) => (0 : Int)) fun (x : Nat) => (0 : Int))
                          (m104_0 s (IntKind.i64.wrap (at_ + (1 : Int)))
                            (bif true then (↑(byteAt s (IntKind.i64.wrap (at_ + (1 : Int))).toNat).toNat : Int) == (94 : Int) else false)
                            (fun (x : Nat) => (0 : Int)) fun (x : Nat) => (0 : Int))
                          [((1000 : Nat), some (4 : Nat)), ((1001 : Nat), some (7 : Nat))])).yes.yes.yes.br
              (Orc.cut (nat_lit 1) (s104_0 s (IntKind.i64.wrap (at_ + (1 : Int))) false (fun (x : Nat) => (0 : Int)) fun (x : Nat) => (0 : Int))
                        (m104_0 s (IntKind.i64.wrap (at_ + (1 : Int))) false (fun (x : Nat) => (0 : Int)) fun (x : Nat) => (0 : Int))
                        [((1000 : Nat), some (4 : Nat)), ((1001 : Nat), some (7 : Nat))]).no.no.no.no)).yes.yes.yes.br
  (Orc.fin
            (AV.cons (1 : Nat) (AV.ar (4 : Nat) (1 : Nat) fun (x : Nat) => AV.sc (Value.int IntKind.u64 (0 : Int)))
                (AV.cons (1 : Nat) (AV.sc (Value.int IntKind.i64 at_)) (AV.cons (1 : Nat) (AV.sc (Value.bool false)) AV.nil))).tup
            [] []).yes.no.no.no) _ _ (by kernel_rfl) (by kernel_rfl) (show True ∧
  True ∧
    True ∧
      True ∧
        True ∧
          True ∧
            True ∧
              True ∧
                True ∧
                  (decide (at_ ≥ (↑s.size : Int)) = false →
                      True ∧
                        false = false ∧
                          True ∧
                            false = false ∧
                              ((0 : Int) ≤ at_ ∧ at_ < (↑s.size : Int)) ∧
                                false = false ∧
                                  True ∧
                                    True ∧
                                      (((↑(byteAt s at_.toNat).toNat : Int) != (91 : Int)) = true →
                                          ((0 : Nat) = (0 : Nat) ∧ True) ∧
                                            True ∧
                                              ((0 : Nat) = (0 : Nat) ∧ True) ∧
                                                True ∧
                                                  True ∧
                                                    (((0 : Nat) = (0 : Nat) ∧ True) ∧ True ∧ True ∧ True) ∧
                                                      (((True ∧ True ∧ True ∧ True) ∧
                                                            Sub
                                                                (AV.cons (1 : Nat)
                                                                    (AV.ar (4 : Nat) (1 : Nat) fun (x : Nat) => AV.sc (Value.int IntKind.u64 (0 : Int)))
                                                                    (AV.cons (1 : Nat) (AV.sc (Value.int IntKind.i64 at_))
                                                                      (AV.cons (1 : Nat) (AV.sc (Value.bool false)) AV.nil))).tup
                                                                (AV.cons (1 : Nat)
                                                                    (AV.ar (4 : Nat) (1 : Nat) fun (x : Nat) => AV.sc (Value.int IntKind.u64 (0 : Int)))
                                                                    (AV.cons (1 : Nat) (AV.sc (Value.int IntKind.i64 at_))
                                                                      (AV.cons (1 : Nat) (AV.sc (Value.bool false)) AV.nil))).tup ∧
                                                              True) ∧
                                                          True) ∧
                                                        Sub
                                                            (AV.cons (1 : Nat)
                                                                (AV.ar (4 : Nat) (1 : Nat) fun (x : Nat) => AV.sc (Value.int IntKind.u64 (0 : Int)))
                                                                (AV.cons (1 : Nat) (AV.sc (Value.int IntKind.i64 at_))
                                                                  (AV.cons (1 : Nat) (AV.sc (Value.bool false)) AV.nil))).tup
                                                            res ∧
                                                          SubOut [] []) ∧
                                        (((↑(byteAt s at_.toNat).toNat : Int) != (91 : Int)) = false →
                                          True ∧
                                            True ∧
                                              True ∧
                                                True ∧
                                                  True ∧
                                                    True ∧
                                                      True ∧
                                                        True ∧
                                                          (decide (IntKind.i64.wrap (at_ + (1 : Int)) < (↑s.size : Int)) = true →
                                                              True ∧
                                                                true = true ∧
                                                                  True ∧
                                                                    true = true ∧
                                                                      ((0 : Int) ≤ IntKind.i64.wrap (at_ + (1 : Int)) ∧
                                                                          IntKind.i64.wrap (at_ + (1 : Int)) < (↑s.size : Int)) ∧
                                                                        true = true ∧
                                                                          True ∧
                                                                            True ∧
                                                                              True ∧
                                                                                True ∧
                                                                                  (((↑(byteAt s (IntKind.i64.wrap (at_ + (1 : Int))).toNat).toNat : Int) ==
                                                                                          (94 : Int)) =
                                                                                        true →
                                                                                      True ∧
                                                                                        True ∧
                                                                                          True ∧
                                                                                            ((True ∧
                                                                                                  Sub (AV.sc (Value.string s)) (AV.sc (Value.string s)) ∧
                                                                                                    True ∧
                                                                                                      Sub
                                                                                                          (AV.sc
                                                                                                            (Value.int IntKind.i64
                                                                                                              (IntKind.i64.wrap
                                                                                                                (IntKind.i64.wrap (at_ + (1 : Int)) +
                                                                                                                  (1 : Int)))))
                                                                                                          (AV.sc
                                                                                                            (Value.int IntKind.i64
                                                                                                              (IntKind.i64.wrap
                                                                                                                (IntKind.i64.wrap (at_ + (1 : Int)) +
                                                                                                                  (1 : Int))))) ∧
                                                                                                        True ∧
                                                                                                          Sub (AV.pt (1000 : Nat) [] (0 : Nat))
                                                                                                              (AV.pt (1000 : Nat) [] (0 : Nat)) ∧
                                                                                                            True ∧
                                                                                                              Sub (AV.pt (1001 : Nat) [] (0 : Nat))
                                                                                                                  (AV.pt (1001 : Nat) [] (0 : Nat)) ∧
                                                                                                                True ∧
                                                                                                                  Sub
                                                                                                                      (AV.sc
                                                                                                                        (Value.bool
                                                                                                                          ((↑(byteAt s
                                                                                                                                    (IntKind.i64.wrap
                                                                                                                                        (at_ +
                                                                                                                                          (1 :
                                                                                                                                            Int))).toNat).toNat :
                                                                                                                              Int) ==
                                                                                                                            (94 : Int))))
                                                                                                                      (AV.sc
                                                                                                                        (Value.bool
                                                                                                                          ((↑(byteAt s
                                                                                                                                    (IntKind.i64.wrap
                                                                                                                                        (at_ +
                                                                                                                                          (1 :
                                                                                                                                            Int))).toNat).toNat :
                                                                                                                              Int) ==
                                                                                                                            (94 : Int)))) ∧
                                                                                                                    True) ∧
                                                                                                True ∧
                                                                                                  SubB
                                                                                                      (AV.ar (4 : Nat) (1 : Nat) fun (x : Nat) =>
                                                                                                        AV.sc (Value.int IntKind.u64 (0 : Int)))
                                                                                                      (AV.ar (4 : Nat) (1 : Nat) fun (i0 : Nat) =>
                                                                                                        AV.sc (Value.int IntKind.u64 (0 : Int))) ∧
                                                                                                    True ∧
                                                                                                      SubB
                                                                                                          (AV.ar (4 : Nat) (1 : Nat) fun (x : Nat) =>
                                                                                                            AV.sc (Value.int IntKind.u64 (0 : Int)))
                                                                                                          (AV.ar (4 : Nat) (1 : Nat) fun (i0 : Nat) =>
                                                                                                            AV.sc (Value.int IntKind.u64 (0 : Int))) ∧
                                                                                                        True) ∧
                                                                                              L104_0 s
                                                                                                (IntKind.i64.wrap
                                                                                                  (IntKind.i64.wrap (at_ + (1 : Int)) + (1 : Int)))
                                                                                                ((↑(byteAt s (IntKind.i64.wrap (at_ + (1 : Int))).toNat).toNat :
                                                                                                    Int) ==
                                                                                                  (94 : Int))
                                                                                                (fun (x : Nat) => (0 : Int)) (fun (x : Nat) => (0 : Int)) res) ∧
                                                                                    (((↑(byteAt s (IntKind.i64.wrap (at_ + (1 : Int))).toNat).toNat : Int) ==
                                                                                          (94 : Int)) =
                                                                                        false →
                                                                                      ((True ∧
                                                                                            Sub (AV.sc (Value.string s)) (AV.sc (Value.string s)) ∧
                                                                                              True ∧
                                                                                                Sub
                                                                                                    (AV.sc
                                                                                                      (Value.int IntKind.i64
                                                                                                        (IntKind.i64.wrap (at_ + (1 : Int)))))
                                                                                                    (AV.sc
                                                                                                      (Value.int IntKind.i64
                                                                                                        (IntKind.i64.wrap (at_ + (1 : Int))))) ∧
                                                                                                  True ∧
                                                                                                    Sub (AV.pt (1000 : Nat) [] (0 : Nat))
                                                                                                        (AV.pt (1000 : Nat) [] (0 : Nat)) ∧
                                                                                                      True ∧
                                                                                                        Sub (AV.pt (1001 : Nat) [] (0 : Nat))
                                                                                                            (AV.pt (1001 : Nat) [] (0 : Nat)) ∧
                                                                                                          True ∧
                                                                                                            Sub
                                                                                                                (AV.sc
                                                                                                                  (Value.bool
                                                                                                                    ((↑(byteAt s
                                                                                                                              (IntKind.i64.wrap
                                                                                                                                  (at_ +
                                                                                                                                    (1 : Int))).toNat).toNat :
                                                                                                                        Int) ==
                                                                                                                      (94 : Int))))
                                                                                                                (AV.sc
                                                                                                                  (Value.bool
                                                                                                                    ((↑(byteAt s
                                                                                                                              (IntKind.i64.wrap
                                                                                                                                  (at_ +
                                                                                                                                    (1 : Int))).toNat).toNat :
                                                                                                                        Int) ==
                                                                                                                      (94 : Int)))) ∧
                                                                                                              True) ∧
                                                                                          True ∧
                                                                                            SubB
                                                                                                (AV.ar (4 : Nat) (1 : Nat) fun (x : Nat) =>
                                                                                                  AV.sc (Value.int IntKind.u64 (0 : Int)))
                                                                                                (AV.ar (4 : Nat) (1 : Nat) fun (i0 : Nat) =>
                                                                                                  AV.sc (Value.int IntKind.u64 (0 : Int))) ∧
                                                                                              True ∧
                                                                                                SubB
                                                                                                    (AV.ar (4 : Nat) (1 : Nat) fun (x : Nat) =>
                                                                                                      AV.sc (Value.int IntKind.u64 (0 : Int)))
                                                                                                    (AV.ar (4 : Nat) (1 : Nat) fun (i0 : Nat) =>
                                                                                                      AV.sc (Value.int IntKind.u64 (0 : Int))) ∧
                                                                                                  True) ∧
                                                                                        L104_0 s (IntKind.i64.wrap (at_ + (1 : Int)))
                                                                                          ((↑(byteAt s (IntKind.i64.wrap (at_ + (1 : Int))).toNat).toNat :
                                                                                              Int) ==
                                                                                            (94 : Int))
                                                                                          (fun (x : Nat) => (0 : Int)) (fun (x : Nat) => (0 : Int)) res)) ∧
                                                            (decide (IntKind.i64.wrap (at_ + (1 : Int)) < (↑s.size : Int)) = !true →
                                                              true = true ∧
                                                                (!true) = !true ∧
                                                                  true = true ∧
                                                                    (!true) = !true ∧
                                                                      true = true ∧
                                                                        (!true) = !true ∧
                                                                          true = true ∧
                                                                            True ∧
                                                                              True ∧
                                                                                True ∧
                                                                                  false = false ∧
                                                                                    ((True ∧
                                                                                          Sub (AV.sc (Value.string s)) (AV.sc (Value.string s)) ∧
                                                                                            True ∧
                                                                                              Sub
                                                                                                  (AV.sc
                                                                                                    (Value.int IntKind.i64
                                                                                                      (IntKind.i64.wrap (at_ + (1 : Int)))))
                                                                                                  (AV.sc
                                                                                                    (Value.int IntKind.i64
                                                                                                      (IntKind.i64.wrap (at_ + (1 : Int))))) ∧
                                                                                                True ∧
                                                                                                  Sub (AV.pt (1000 : Nat) [] (0 : Nat))
                                                                                                      (AV.pt (1000 : Nat) [] (0 : Nat)) ∧
                                                                                                    True ∧
                                                                                                      Sub (AV.pt (1001 : Nat) [] (0 : Nat))
                                                                                                          (AV.pt (1001 : Nat) [] (0 : Nat)) ∧
                                                                                                        True ∧
                                                                                                          Sub (AV.sc (Value.bool false))
                                                                                                              (AV.sc (Value.bool false)) ∧
                                                                                                            True) ∧
                                                                                        True ∧
                                                                                          SubB
                                                                                              (AV.ar (4 : Nat) (1 : Nat) fun (x : Nat) =>
                                                                                                AV.sc (Value.int IntKind.u64 (0 : Int)))
                                                                                              (AV.ar (4 : Nat) (1 : Nat) fun (i0 : Nat) =>
                                                                                                AV.sc (Value.int IntKind.u64 (0 : Int))) ∧
                                                                                            True ∧
                                                                                              SubB
                                                                                                  (AV.ar (4 : Nat) (1 : Nat) fun (x : Nat) =>
                                                                                                    AV.sc (Value.int IntKind.u64 (0 : Int)))
                                                                                                  (AV.ar (4 : Nat) (1 : Nat) fun (i0 : Nat) =>
                                                                                                    AV.sc (Value.int IntKind.u64 (0 : Int))) ∧
                                                                                                True) ∧
                                                                                      L104_0 s (IntKind.i64.wrap (at_ + (1 : Int))) false
                                                                                        (fun (x : Nat) => (0 : Int)) (fun (x : Nat) => (0 : Int)) res))) ∧
                    (decide (at_ ≥ (↑s.size : Int)) = !false →
                      true = true ∧
                        (!false) = !false ∧
                          true = true ∧
                            (!false) = !false ∧
                              true = true ∧
                                (!false) = !false ∧
                                  true = true ∧
                                    True ∧
                                      true = true ∧
                                        ((0 : Nat) = (0 : Nat) ∧ True) ∧
                                          True ∧
                                            ((0 : Nat) = (0 : Nat) ∧ True) ∧
                                              True ∧
                                                True ∧
                                                  (((0 : Nat) = (0 : Nat) ∧ True) ∧ True ∧ True ∧ True) ∧
                                                    (((True ∧ True ∧ True ∧ True) ∧
                                                          Sub
                                                              (AV.cons (1 : Nat)
                                                                  (AV.ar (4 : Nat) (1 : Nat) fun (x : Nat) => AV.sc (Value.int IntKind.u64 (0 : Int)))
                                                                  (AV.cons (1 : Nat) (AV.sc (Value.int IntKind.i64 at_))
                                                                    (AV.cons (1 : Nat) (AV.sc (Value.bool false)) AV.nil))).tup
                                                              (AV.cons (1 : Nat)
                                                                  (AV.ar (4 : Nat) (1 : Nat) fun (x : Nat) => AV.sc (Value.int IntKind.u64 (0 : Int)))
                                                                  (AV.cons (1 : Nat) (AV.sc (Value.int IntKind.i64 at_))
                                                                    (AV.cons (1 : Nat) (AV.sc (Value.bool false)) AV.nil))).tup ∧
                                                            True) ∧
                                                        True) ∧
                                                      Sub
                                                          (AV.cons (1 : Nat)
                                                              (AV.ar (4 : Nat) (1 : Nat) fun (x : Nat) => AV.sc (Value.int IntKind.u64 (0 : Int)))
                                                              (AV.cons (1 : Nat) (AV.sc (Value.int IntKind.i64 at_))
                                                                (AV.cons (1 : Nat) (AV.sc (Value.bool false)) AV.nil))).tup
                                                          res ∧
                                                        SubOut [] []) from
    ⟨trivial, ⟨trivial, ⟨trivial, ⟨trivial, ⟨trivial, ⟨trivial, ⟨trivial, ⟨trivial, ⟨trivial, (And.elim (fun h9 k9 => ⟨(fun x10 => (fun h10 => ⟨trivial, ⟨rfl, ⟨trivial, ⟨rfl, (And.elim (fun h15 k15 => ⟨(And.elim (fun h16 k16 => ⟨h16, k16⟩) h15), ⟨rfl, ⟨trivial, ⟨trivial, (And.elim (fun h19 k19 => ⟨(fun x20 => (fun h20 => ⟨⟨rfl, trivial⟩, ⟨trivial, ⟨⟨rfl, trivial⟩, ⟨trivial, ⟨trivial, ⟨⟨⟨rfl, trivial⟩, ⟨trivial, ⟨trivial, trivial⟩⟩⟩, ⟨⟨⟨⟨trivial, ⟨trivial, ⟨trivial, trivial⟩⟩⟩, ⟨Sub.refl _, trivial⟩⟩, trivial⟩, ⟨h20, trivial⟩⟩⟩⟩⟩⟩⟩⟩) (h19 x20)), (fun x20 => (fun h20 => ⟨trivial, ⟨trivial, ⟨trivial, ⟨trivial, ⟨trivial, ⟨trivial, ⟨trivial, ⟨trivial, (And.elim (fun h29 k29 => ⟨(fun x30 => (fun h30 => ⟨trivial, ⟨rfl, ⟨trivial, ⟨rfl, (And.elim (fun h35 k35 => ⟨(And.elim (fun h36 k36 => ⟨h36, k36⟩) h35), ⟨rfl, ⟨trivial, ⟨trivial, ⟨trivial, ⟨trivial, (And.elim (fun h41 k41 => ⟨(fun x42 => (fun h42 => ⟨trivial, ⟨trivial, ⟨trivial, ⟨⟨⟨trivial, ⟨Sub.refl _, ⟨trivial, ⟨Sub.refl _, ⟨trivial, ⟨Sub.refl _, ⟨trivial, ⟨Sub.refl _, ⟨trivial, ⟨Sub.refl _, trivial⟩⟩⟩⟩⟩⟩⟩⟩⟩⟩, ⟨trivial, ⟨SubB.refl _, ⟨trivial, ⟨SubB.refl _, trivial⟩⟩⟩⟩⟩, h42⟩⟩⟩⟩) (h41 x42)), (fun x42 => (fun h42 => ⟨⟨⟨trivial, ⟨Sub.refl _, ⟨trivial, ⟨Sub.refl _, ⟨trivial, ⟨Sub.refl _, ⟨trivial, ⟨Sub.refl _, ⟨trivial, ⟨Sub.refl _, trivial⟩⟩⟩⟩⟩⟩⟩⟩⟩⟩, ⟨trivial, ⟨SubB.refl _, ⟨trivial, ⟨SubB.refl _, trivial⟩⟩⟩⟩⟩, h42⟩) (k41 x42))⟩) k35)⟩⟩⟩⟩⟩⟩) h30)⟩⟩⟩⟩) (h29 x30)), (fun x30 => (fun h30 => ⟨rfl, ⟨rfl, ⟨rfl, ⟨rfl, ⟨rfl, ⟨rfl, ⟨rfl, ⟨trivial, ⟨trivial, ⟨trivial, ⟨rfl, ⟨⟨⟨trivial, ⟨Sub.refl _, ⟨trivial, ⟨Sub.refl _, ⟨trivial, ⟨Sub.refl _, ⟨trivial, ⟨Sub.refl _, ⟨trivial, ⟨Sub.refl _, trivial⟩⟩⟩⟩⟩⟩⟩⟩⟩⟩, ⟨trivial, ⟨SubB.refl _, ⟨trivial, ⟨SubB.refl _, trivial⟩⟩⟩⟩⟩, h30⟩⟩⟩⟩⟩⟩⟩⟩⟩⟩⟩⟩) (k29 x30))⟩) h20)⟩⟩⟩⟩⟩⟩⟩⟩) (k19 x20))⟩) k15)⟩⟩⟩⟩) h10)⟩⟩⟩⟩) (h9 x10)), (fun x10 => (fun h10 => ⟨rfl, ⟨rfl, ⟨rfl, ⟨rfl, ⟨rfl, ⟨rfl, ⟨rfl, ⟨trivial, ⟨rfl, ⟨⟨rfl, trivial⟩, ⟨trivial, ⟨⟨rfl, trivial⟩, ⟨trivial, ⟨trivial, ⟨⟨⟨rfl, trivial⟩, ⟨trivial, ⟨trivial, trivial⟩⟩⟩, ⟨⟨⟨⟨trivial, ⟨trivial, ⟨trivial, trivial⟩⟩⟩, ⟨Sub.refl _, trivial⟩⟩, trivial⟩, ⟨h10, trivial⟩⟩⟩⟩⟩⟩⟩⟩⟩⟩⟩⟩⟩⟩⟩⟩⟩) (k9 x10))⟩) h)⟩⟩⟩⟩⟩⟩⟩⟩⟩)
theorem r104_0 (s : ByteArray) (at_ : Int) (not_ : Bool) (b0f : Nat → Int) (b1f : Nat → Int) (res : AV)
    (h : L104_1 s at_ not_ b0f b1f res) :
    L104_0 s at_ not_ b0f b1f res :=
  rule Go.Am.Seat.tabOk 104 [] Go.Proofs.Try.f104 hf104 [1, 1, 1, 1, 1, 1] (s104_0 s at_ not_ b0f b1f) (m104_0 s at_ not_ b0f b1f) res [] 400
    (Orc.cut (nat_lit 3) (s104_1 s at_ not_ b0f b1f) (m104_1 s at_ not_ b0f b1f) [((1000 : Nat), some (1000 : Nat)), ((1001 : Nat), some (1001 : Nat))]) _ _ (by kernel_rfl) (by kernel_rfl) (show ((True ∧
      Sub (AV.sc (Value.string s)) (AV.sc (Value.string s)) ∧
        True ∧
          Sub (AV.sc (Value.int IntKind.i64 at_)) (AV.sc (Value.int IntKind.i64 at_)) ∧
            True ∧
              Sub (AV.pt (1000 : Nat) [] (0 : Nat)) (AV.pt (1000 : Nat) [] (0 : Nat)) ∧
                True ∧
                  Sub (AV.pt (1001 : Nat) [] (0 : Nat)) (AV.pt (1001 : Nat) [] (0 : Nat)) ∧
                    True ∧ Sub (AV.sc (Value.bool not_)) (AV.sc (Value.bool not_)) ∧ True) ∧
    True ∧
      SubB (AV.ar (4 : Nat) (1 : Nat) fun (i0 : Nat) => AV.sc (Value.int IntKind.u64 (b0f i0)))
          (AV.ar (4 : Nat) (1 : Nat) fun (i0 : Nat) => AV.sc (Value.int IntKind.u64 (b0f i0))) ∧
        True ∧
          SubB (AV.ar (4 : Nat) (1 : Nat) fun (i0 : Nat) => AV.sc (Value.int IntKind.u64 (b1f i0)))
              (AV.ar (4 : Nat) (1 : Nat) fun (i0 : Nat) => AV.sc (Value.int IntKind.u64 (b1f i0))) ∧
            True) ∧
  L104_1 s at_ not_ b0f b1f res from
    ⟨⟨⟨trivial, ⟨Sub.refl _, ⟨trivial, ⟨Sub.refl _, ⟨trivial, ⟨Sub.refl _, ⟨trivial, ⟨Sub.refl _, ⟨trivial, ⟨Sub.refl _, trivial⟩⟩⟩⟩⟩⟩⟩⟩⟩⟩, ⟨trivial, ⟨SubB.refl _, ⟨trivial, ⟨SubB.refl _, trivial⟩⟩⟩⟩⟩, h⟩)
theorem r104_1 (s : ByteArray) (at_ : Int) (not_ : Bool) (b0f : Nat → Int) (b1f : Nat → Int) (res : AV)
    (h : (decide (at_ < (↑s.size : Int)) = true →
    ((0 : Int) ≤ at_ ∧ at_ < (↑s.size : Int)) ∧
      (((↑(byteAt s at_.toNat).toNat : Int) != (93 : Int)) = true →
          ∃ (r : Int × Int × Bool),
            Ok Proofs.Try.prog (113 : Nat) [AV.sc (Value.string s), AV.sc (Value.int IntKind.i64 at_)] []
                (AV.cons (1 : Nat) (AV.sc (Value.int IntKind.u8 r.fst))
                    (AV.cons (1 : Nat) (AV.sc (Value.int IntKind.i64 r.snd.fst)) (AV.cons (1 : Nat) (AV.sc (Value.bool r.snd.snd)) AV.nil))).tup
                [] ∧
              ((!r.snd.snd) = true →
                  Sub
                    (AV.cons (1 : Nat) (AV.ar (4 : Nat) (1 : Nat) fun (x : Nat) => AV.sc (Value.int IntKind.u64 (0 : Int)))
                        (AV.cons (1 : Nat) (AV.sc (Value.int IntKind.i64 r.snd.fst)) (AV.cons (1 : Nat) (AV.sc (Value.bool false)) AV.nil))).tup
                    res) ∧
                ((!r.snd.snd) = false →
                  (decide (r.snd.fst < (↑s.size : Int)) = true →
                      ((0 : Int) ≤ r.snd.fst ∧ r.snd.fst < (↑s.size : Int)) ∧
                        (((↑(byteAt s r.snd.fst.toNat).toNat : Int) == (45 : Int)) = true →
                            ∃ (r_1 : Int × Int × Bool),
                              Ok Proofs.Try.prog (113 : Nat) [AV.sc (Value.string s), AV.sc (Value.int IntKind.i64 (IntKind.i64.wrap (r.snd.fst + (1 : Int))))]
                                  []
                                  (AV.cons (1 : Nat) (AV.sc (Value.int IntKind.u8 r_1.fst))
                                      (AV.cons (1 : Nat) (AV.sc (Value.int IntKind.i64 r_1.snd.fst))
                                        (AV.cons (1 : Nat) (AV.sc (Value.bool r_1.snd.snd)) AV.nil))).tup
                                  [] ∧
                                ((!r_1.snd.snd) = true →
                                    Sub
                                      (AV.cons (1 : Nat) (AV.ar (4 : Nat) (1 : Nat) fun (x : Nat) => AV.sc (Value.int IntKind.u64 (0 : Int)))
                                          (AV.cons (1 : Nat) (AV.sc (Value.int IntKind.i64 r_1.snd.fst))
                                            (AV.cons (1 : Nat) (AV.sc (Value.bool false)) AV.nil))).tup
                                      res) ∧
                                  ((!r_1.snd.snd) = false →
                                    (decide (r_1.fst < r.fst) = true →
                                        Sub
                                          (AV.cons (1 : Nat) (AV.ar (4 : Nat) (1 : Nat) fun (x : Nat) => AV.sc (Value.int IntKind.u64 (0 : Int)))
                                              (AV.cons (1 : Nat) (AV.sc (Value.int IntKind.i64 (IntKind.i64.wrap (r_1.snd.fst - (1 : Int)))))
                                                (AV.cons (1 : Nat) (AV.sc (Value.bool false)) AV.nil))).tup
                                          res) ∧
                                      (decide (r_1.fst < r.fst) = false → L104_2 s not_ r.fst r_1.snd.fst r_1.fst b0f b1f res))) ∧
                          (((↑(byteAt s r.snd.fst.toNat).toNat : Int) == (45 : Int)) = false → L104_2 s not_ r.fst r.snd.fst r.fst b0f b1f res)) ∧
                    (decide (r.snd.fst < (↑s.size : Int)) = !true → L104_2 s not_ r.fst r.snd.fst r.fst b0f b1f res))) ∧
        (((↑(byteAt s at_.toNat).toNat : Int) != (93 : Int)) = false →
          (decide (at_ ≥ (↑s.size : Int)) = true →
              Sub
                (AV.cons (1 : Nat) (AV.ar (4 : Nat) (1 : Nat) fun (x : Nat) => AV.sc (Value.int IntKind.u64 (0 : Int)))
                    (AV.cons (1 : Nat) (AV.sc (Value.int IntKind.i64 (↑s.size : Int))) (AV.cons (1 : Nat) (AV.sc (Value.bool false)) AV.nil))).tup
                res) ∧
            (decide (at_ ≥ (↑s.size : Int)) = false → (not_ = true → L104_4 at_ (0 : Int) b0f b1f res) ∧ (not_ = false → L104_5 at_ b0f b1f res)))) ∧
  (decide (at_ < (↑s.size : Int)) = !true →
    (decide (at_ ≥ (↑s.size : Int)) = true →
        Sub
          (AV.cons (1 : Nat) (AV.ar (4 : Nat) (1 : Nat) fun (x : Nat) => AV.sc (Value.int IntKind.u64 (0 : Int)))
              (AV.cons (1 : Nat) (AV.sc (Value.int IntKind.i64 (↑s.size : Int))) (AV.cons (1 : Nat) (AV.sc (Value.bool false)) AV.nil))).tup
          res) ∧
      (decide (at_ ≥ (↑s.size : Int)) = false → (not_ = true → L104_4 at_ (0 : Int) b0f b1f res) ∧ (not_ = false → L104_5 at_ b0f b1f res)))) :
    L104_1 s at_ not_ b0f b1f res :=
  rule Go.Am.Seat.tabOk 104 [] Go.Proofs.Try.f104 hf104 [1, 1, 1, 1, 1, 1, 0, 0, 0] (s104_1 s at_ not_ b0f b1f) (m104_1 s at_ not_ b0f b1f) res [] 400
    (((Orc.call [] []
                (fun (r113 : Int × Int × Bool) =>
                  (AV.cons (1 : Nat) (AV.sc (Value.int IntKind.u8 r113.fst))
                      (AV.cons (1 : Nat) (AV.sc (Value.int IntKind.i64 r113.snd.fst)) (AV.cons (1 : Nat) (AV.sc (Value.bool r113.snd.snd)) AV.nil))).tup)
                (fun (r113 : Int × Int × Bool) => []) fun (r113 : Int × Int × Bool) =>
                (Orc.fin
                      (AV.cons (1 : Nat) (AV.ar (4 : Nat) (1 : Nat) fun (x : Nat) => AV.sc (Value.int IntKind.u64 (0 : Int)))
                          (AV.cons (1 : Nat) (AV.sc (Value.int IntKind.i64 r113.snd.fst)) (AV.cons (1 : Nat) (AV.sc (Value.bool false)) AV.nil))).tup
                      [] []).br
                  (((Orc.call [] []
                                  (fun (r113 : Int × Int × Bool) =>
                                    (AV.cons (1 : Nat) (AV.sc (Value.int IntKind.u8 r113.fst))
                                        (AV.cons (1 : Nat) (AV.sc (Value.int IntKind.i64 r113.snd.fst))
                                          (AV.cons (1 : Nat) (AV.sc (Value.bool r113.snd.snd)) AV.nil))).tup)
                                  (fun (r113 : Int × Int × Bool) => []) fun (r113_1 : Int × Int × Bool) =>
                                  (Orc.fin
                                        (AV.cons (1 : Nat) (AV.ar (4 : Nat) (1 : Nat) fun (x : Nat) => AV.sc (Value.int IntKind.u64 (0 : Int)))
                                            (AV.cons (1 : Nat) (AV.sc (Value.int IntKind.i64 r113_1.snd.fst))
                                              (AV.cons (1 : Nat) (AV.sc (Value.bool false)) AV.nil))).tup
                                        [] []).br
                                    ((Orc.fin
                                          (AV.cons (1 : Nat) (AV.ar (4 : Nat) (1 : Nat) fun (x : Nat) => AV.sc (Value.int IntKind.u64 (0 : Int)))
                                              (AV.cons (1 : Nat) (AV.sc (Value.int IntKind.i64 (IntKind.i64.wrap (r113_1.snd.fst - (1 : Int)))))
                                                (AV.cons (1 : Nat) (AV.sc (Value.bool false)) AV.nil))).tup
                                          [] []).br
                                      (Orc.cut (nat_lit 1) (s104_2 s not_ r113.fst r113_1.snd.fst r113_1.fst b0f b1f)
                                        (m104_2 s not_ r113.fst r113_1.snd.fst r113_1.fst b0f b1f)
                                        [((1000 : Nat), some (1000 : Nat)), ((1001 : Nat), some (1001 : Nat))]))).br
                              (Orc.cut (nat_lit 1) (s104_2 s not_ r113.fst r113.snd.fst r113.fst b0f b1f) (m104_2 s not_ r113.fst r113.snd.fst r113.fst b0f b1f)
                                [((1000 : Nat), some (1000 : Nat)), ((1001 : Nat), some (1001 : Nat))])).yes.yes.yes.br
                    (Orc.cut (nat_lit 1) (s104_2 s not_ r113.fst r113.snd.fst r113.fst b0f b1f) (m104_2 s not_ r113.fst r113.snd.fst r113.fst b0f b1f)
                              [((1000 : Nat), some (1000 : Nat)), ((1001 : Nat), some (1001 : Nat))]).no.no.no.no)).br
            ((Orc.fin
                  (AV.cons (1 : Nat) (AV.ar (4 : Nat) (1 : Nat) fun (x : Nat) => AV.sc (Value.int IntKind.u64 (0 : Int)))
                      (AV.cons (1 : Nat) (AV.sc (Value.int IntKind.i64 (↑s.size : Int))) (AV.cons (1 : Nat) (AV.sc (Value.bool false)) AV.nil))).tup
                  [] []).br
              ((Orc.cut (nat_lit 4) (s104_4 at_ (0 : Int) b0f b1f) (m104_4 at_ (0 : Int) b0f b1f)
                    [((1000 : Nat), some (1000 : Nat)), ((1001 : Nat), some (1001 : Nat))]).br
                (Orc.cut (nat_lit 1) (s104_5 at_ b0f b1f) (m104_5 at_ b0f b1f)
                  [((1000 : Nat), some (1000 : Nat)), ((1001 : Nat), some (1001 : Nat))])))).yes.yes.yes.br
  ((Orc.fin
                (AV.cons (1 : Nat) (AV.ar (4 : Nat) (1 : Nat) fun (x : Nat) => AV.sc (Value.int IntKind.u64 (0 : Int)))
                    (AV.cons (1 : Nat) (AV.sc (Value.int IntKind.i64 (↑s.size : Int))) (AV.cons (1 : Nat) (AV.sc (Value.bool false)) AV.nil))).tup
                [] []).br
            ((Orc.cut (nat_lit 4) (s104_4 at_ (0 : Int) b0f b1f) (m104_4 at_ (0 : Int) b0f b1f)
                  [((1000 : Nat), some (1000 : Nat)), ((1001 : Nat), some (1001 : Nat))]).br
              (Orc.cut (nat_lit 1) (s104_5 at_ b0f b1f) (m104_5 at_ b0f b1f)
                [((1000 : Nat), some (1000 : Nat)), ((1001 : Nat), some (1001 : Nat))]))).no.no.no.no) _ _ (by kernel_rfl) (by kernel_rfl) (show True ∧
  True ∧
    True ∧
      True ∧
        True ∧
          (decide (at_ < (↑s.size : Int)) = true →
              True ∧
                true = true ∧
                  True ∧
                    true = true ∧
                      ((0 : Int) ≤ at_ ∧ at_ < (↑s.size : Int)) ∧
                        true = true ∧
                          True ∧
                            True ∧
                              (((↑(byteAt s at_.toNat).toNat : Int) != (93 : Int)) = true →
                                  True ∧
                                    True ∧
                                      ∃ (r : Int × Int × Bool),
                                        ((True ∧ True ∧ True) ∧
                                            True ∧
                                              Ok Proofs.Try.prog (113 : Nat) [AV.sc (Value.string s), AV.sc (Value.int IntKind.i64 at_)] []
                                                (AV.cons (1 : Nat) (AV.sc (Value.int IntKind.u8 r.fst))
                                                    (AV.cons (1 : Nat) (AV.sc (Value.int IntKind.i64 r.snd.fst))
                                                      (AV.cons (1 : Nat) (AV.sc (Value.bool r.snd.snd)) AV.nil))).tup
                                                []) ∧
                                          True ∧
                                            True ∧
                                              True ∧
                                                True ∧
                                                  True ∧
                                                    True ∧
                                                      True ∧
                                                        True ∧
                                                          True ∧
                                                            ((!r.snd.snd) = true →
                                                                True ∧
                                                                  True ∧
                                                                    ((0 : Nat) = (0 : Nat) ∧ True) ∧
                                                                      True ∧
                                                                        True ∧
                                                                          (((0 : Nat) = (0 : Nat) ∧ True) ∧ True ∧ True ∧ True) ∧
                                                                            (((True ∧ True ∧ True ∧ True) ∧
                                                                                  Sub
                                                                                      (AV.cons (1 : Nat)
                                                                                          (AV.ar (4 : Nat) (1 : Nat) fun (x : Nat) =>
                                                                                            AV.sc (Value.int IntKind.u64 (0 : Int)))
                                                                                          (AV.cons (1 : Nat) (AV.sc (Value.int IntKind.i64 r.snd.fst))
                                                                                            (AV.cons (1 : Nat) (AV.sc (Value.bool false)) AV.nil))).tup
                                                                                      (AV.cons (1 : Nat)
                                                                                          (AV.ar (4 : Nat) (1 : Nat) fun (x : Nat) =>
                                                                                            AV.sc (Value.int IntKind.u64 (0 : Int)))
                                                                                          (AV.cons (1 : Nat) (AV.sc (Value.int IntKind.i64 r.snd.fst))
                                                                                            (AV.cons (1 : Nat) (AV.sc (Value.bool false)) AV.nil))).tup ∧
                                                                                    True) ∧
                                                                                True) ∧
                                                                              Sub
                                                                                  (AV.cons (1 : Nat)
                                                                                      (AV.ar (4 : Nat) (1 : Nat) fun (x : Nat) =>
                                                                                        AV.sc (Value.int IntKind.u64 (0 : Int)))
                                                                                      (AV.cons (1 : Nat) (AV.sc (Value.int IntKind.i64 r.snd.fst))
                                                                                        (AV.cons (1 : Nat) (AV.sc (Value.bool false)) AV.nil))).tup
                                                                                  res ∧
                                                                                SubOut [] []) ∧
                                                              ((!r.snd.snd) = false →
                                                                True ∧
                                                                  True ∧
                                                                    True ∧
                                                                      True ∧
                                                                        True ∧
                                                                          True ∧
                                                                            True ∧
                                                                              (decide (r.snd.fst < (↑s.size : Int)) = true →
                                                                                  True ∧
                                                                                    true = true ∧
                                                                                      True ∧
                                                                                        true = true ∧
                                                                                          ((0 : Int) ≤ r.snd.fst ∧ r.snd.fst < (↑s.size : Int)) ∧
                                                                                            true = true ∧
                                                                                              True ∧
                                                                                                True ∧
                                                                                                  (((↑(byteAt s r.snd.fst.toNat).toNat : Int) == (45 : Int)) =
                                                                                                        true →
                                                                                                      True ∧
                                                                                                        True ∧
                                                                                                          True ∧
                                                                                                            ∃ (r_1 : Int × Int × Bool),
                                                                                                              ((True ∧ True ∧ True) ∧
                                                                                                                  True ∧
                                                                                                                    Ok Proofs.Try.prog (113 : Nat)
                                                                                                                      [AV.sc (Value.string s),
                                                                                                                        AV.sc
                                                                                                                          (Value.int IntKind.i64
                                                                                                                            (IntKind.i64.wrap
                                                                                                                              (r.snd.fst + (1 : Int))))]
                                                                                                                      []
                                                                                                                      (AV.cons (1 : Nat)
                                                                                                                          (AV.sc (Value.int IntKind.u8 r_1.fst))
                                                                                                                          (AV.cons (1 : Nat)
                                                                                                                            (AV.sc
                                                                                                                              (Value.int IntKind.i64
                                                                                                                                r_1.snd.fst))
                                                                                                                            (AV.cons (1 : Nat)
                                                                                                                              (AV.sc (Value.bool r_1.snd.snd))
                                                                                                                              AV.nil))).tup
                                                                                                                      []) ∧
                                                                                                                True ∧
                                                                                                                  True ∧
                                                                                                                    True ∧
                                                                                                                      True ∧
                                                                                                                        True ∧
                                                                                                                          True ∧
                                                                                                                            True ∧
                                                                                                                              True ∧
                                                                                                                                True ∧
                                                                                                                                  ((!r_1.snd.snd) = true →
                                                                                                                                      True ∧
                                                                                                                                        True ∧
                                                                                                                                          ((0 : Nat) =
                                                                                                                                                (0 : Nat) ∧
                                                                                                                                              True) ∧
                                                                                                                                            True ∧
                                                                                                                                              True ∧
                                                                                                                                                (((0 : Nat) =
                                                                                                                                                        (0 :
                                                                                                                                                          Nat) ∧
                                                                                                                                                      True) ∧
                                                                                                                                                    True ∧
                                                                                                                                                      True ∧
                                                                                                                                                        True) ∧
                                                                                                                                                  (((True ∧
                                                                                                                                                          True ∧
                                                                                                                                                            True ∧
                                                                                                                                                              True) ∧
                                                                                                                                                        Sub
                                                                                                                                                            (AV.cons
                                                                                                                                                                (1 :
                                                                                                                                                                  Nat)
                                                                                                                                                                (AV.ar
                                                                                                                                                                  (4 :
                                                                                                                                                                    Nat)
                                                                                                                                                                  (1 :
                                                                                                                                                                    Nat)
                                                                                                                                                                  fun
                                                                                                                                                                    (x :
                                                                                                                                                                      Nat) =>
                                                                                                                                                                  AV.sc
                                                                                                                                                                    (Value.int
                                                                                                                                                                      IntKind.u64
                                                                                                                                                                      (0 :
                                                                                                                                                                        Int)))
                                                                                                                                                                (AV.cons
                                                                                                                                                                  (1 :
                                                                                                                                                                    Nat)
                                                                                                                                                                  (AV.sc
                                                                                                                                                                    (Value.int
                                                                                                                                                                      IntKind.i64
                                                                                                                                                                      r_1.snd.fst))
                                                                                                                                                                  (AV.cons
                                                                                                                                                                    (1 :
                                                                                                                                                                      Nat)
                                                                                                                                                                    (AV.sc
                                                                                                                                                                      (Value.bool
                                                                                                                                                                        false))
                                                                                                                                                                    AV.nil))).tup
                                                                                                                                                            (AV.cons
                                                                                                                                                                (1 :
                                                                                                                                                                  Nat)
                                                                                                                                                                (AV.ar
                                                                                                                                                                  (4 :
                                                                                                                                                                    Nat)
                                                                                                                                                                  (1 :
                                                                                                                                                                    Nat)
                                                                                                                                                                  fun
                                                                                                                                                                    (x :
                                                                                                                                                                      Nat) =>
                                                                                                                                                                  AV.sc
                                                                                                                                                                    (Value.int
                                                                                                                                                                      IntKind.u64
                                                                                                                                                                      (0 :
                                                                                                                                                                        Int)))
                                                                                                                                                                (AV.cons
                                                                                                                                                                  (1 :
                                                                                                                                                                    Nat)
                                                                                                                                                                  (AV.sc
                                                                                                                                                                    (Value.int
                                                                                                                                                                      IntKind.i64
                                                                                                                                                                      r_1.snd.fst))
                                                                                                                                                                  (AV.cons
                                                                                                                                                                    (1 :
                                                                                                                                                                      Nat)
                                                                                                                                                                    (AV.sc
                                                                                                                                                                      (Value.bool
                                                                                                                                                                        false))
                                                                                                                                                                    AV.nil))).tup ∧
                                                                                                                                                          True) ∧
                                                                                                                                                      True) ∧
                                                                                                                                                    Sub
                                                                                                                                                        (AV.cons
                                                                                                                                                            (1 :
                                                                                                                                                              Nat)
                                                                                                                                                            (AV.ar
                                                                                                                                                              (4 :
                                                                                                                                                                Nat)
                                                                                                                                                              (1 :
                                                                                                                                                                Nat)
                                                                                                                                                              fun
                                                                                                                                                                (x :
                                                                                                                                                                  Nat) =>
                                                                                                                                                              AV.sc
                                                                                                                                                                (Value.int
                                                                                                                                                                  IntKind.u64
                                                                                                                                                                  (0 :
                                                                                                                                                                    Int)))
                                                                                                                                                            (AV.cons
                                                                                                                                                              (1 :
                                                                                                                                                                Nat)
                                                                                                                                                              (AV.sc
                                                                                                                                                                (Value.int
                                                                                                                                                                  IntKind.i64
                                                                                                                                                                  r_1.snd.fst))
                                                                                                                                                              (AV.cons
                                                                                                                                                                (1 :
                                                                                                                                                                  Nat)
                                                                                                                                                                (AV.sc
                                                                                                                                                                  (Value.bool
                                                                                                                                                                    false))
                                                                                                                                                                AV.nil))).tup
                                                                                                                                                        res ∧
                                                                                                                                                      SubOut []
                                                                                                                                                        []) ∧
                                                                                                                                    ((!r_1.snd.snd) = false →
                                                                                                                                      True ∧
                                                                                                                                        True ∧
                                                                                                                                          True ∧
                                                                                                                                            (decide
                                                                                                                                                    (r_1.fst <
                                                                                                                                                      r.fst) =
                                                                                                                                                  true →
                                                                                                                                                True ∧
                                                                                                                                                  True ∧
                                                                                                                                                    True ∧
                                                                                                                                                      ((0 :
                                                                                                                                                              Nat) =
                                                                                                                                                            (0 :
                                                                                                                                                              Nat) ∧
                                                                                                                                                          True) ∧
                                                                                                                                                        True ∧
                                                                                                                                                          True ∧
                                                                                                                                                            (((0 :
                                                                                                                                                                      Nat) =
                                                                                                                                                                    (0 :
                                                                                                                                                                      Nat) ∧
                                                                                                                                                                  True) ∧
                                                                                                                                                                True ∧
                                                                                                                                                                  True ∧
                                                                                                                                                                    True) ∧
                                                                                                                                                              (((True ∧
                                                                                                                                                                      True ∧
                                                                                                                                                                        True ∧
                                                                                                                                                                          True) ∧
                                                                                                                                                                    Sub
                                                                                                                                                                        (AV.cons
                                                                                                                                                                            (1 :
                                                                                                                                                                              Nat)
                                                                                                                                                                            (AV.ar
                                                                                                                                                                              (4 :
                                                                                                                                                                                Nat)
                                                                                                                                                                              (1 :
                                                                                                                                                                                Nat)
                                                                                                                                                                              fun
                                                                                                                                                                                (x :
                                                                                                                                                                                  Nat) =>
                                                                                                                                                                              AV.sc
                                                                                                                                                                                (Value.int
                                                                                                                                                                                  IntKind.u64
                                                                                                                                                                                  (0 :
                                                                                                                                                                                    Int)))
                                                                                                                                                                            (AV.cons
                                                                                                                                                                              (1 :
                                                                                                                                                                                Nat)
                                                                                                                                                                              (AV.sc
                                                                                                                                                                                (Value.int
                                                                                                                                                                                  IntKind.i64
                                                                                                                                                                                  (IntKind.i64.wrap
                                                                                                                                                                                    (r_1.snd.fst -
                                                                                                                                                                                      (1 :
                                                                                                                                                                                        Int)))))
                                                                                                                                                                              (AV.cons
                                                                                                                                                                                (1 :
                                                                                                                                                                                  Nat)
                                                                                                                                                                                (AV.sc
                                                                                                                                                                                  (Value.bool
                                                                                                                                                                                    false))
                                                                                                                                                                                AV.nil))).tup
                                                                                                                                                                        (AV.cons
                                                                                                                                                                            (1 :
                                                                                                                                                                              Nat)
                                                                                                                                                                            (AV.ar
                                                                                                                                                                              (4 :
                                                                                                                                                                                Nat)
                                                                                                                                                                              (1 :
                                                                                                                                                                                Nat)
                                                                                                                                                                              fun
                                                                                                                                                                                (x :
                                                                                                                                                                                  Nat) =>
                                                                                                                                                                              AV.sc
                                                                                                                                                                                (Value.int
                                                                                                                                                                                  IntKind.u64
                                                                                                                                                                                  (0 :
                                                                                                                                                                                    Int)))
                                                                                                                                                                            (AV.cons
                                                                                                                                                                              (1 :
                                                                                                                                                                                Nat)
                                                                                                                                                                              (AV.sc
                                                                                                                                                                                (Value.int
                                                                                                                                                                                  IntKind.i64
                                                                                                                                                                                  (IntKind.i64.wrap
                                                                                                                                                                                    (r_1.snd.fst -
                                                                                                                                                                                      (1 :
                                                                                                                                                                                        Int)))))
                                                                                                                                                                              (AV.cons
                                                                                                                                                                                (1 :
                                                                                                                                                                                  Nat)
                                                                                                                                                                                (AV.sc
                                                                                                                                                                                  (Value.bool
                                                                                                                                                                                    false))
                                                                                                                                                                                AV.nil))).tup ∧
                                                                                                                                                                      True) ∧
                                                                                                                                                                  True) ∧
                                                                                                                                                                Sub
                                                                                                                                                                    (AV.cons
                                                                                                                                                                        (1 :
                                                                                                                                                                          Nat)
                                                                                                                                                                        (AV.ar
                                                                                                                                                                          (4 :
                                                                                                                                                                            Nat)
                                                                                                                                                                          (1 :
                                                                                                                                                                            Nat)
                                                                                                                                                                          fun
                                                                                                                                                                            (x :
                                                                                                                                                                              Nat) =>
                                                                                                                                                                          AV.sc
                                                                                                                                                                            (Value.int
                                                                                                                                                                              IntKind.u64
                                                                                                                                                                              (0 :
                                                                                                                                                                                Int)))
                                                                                                                                                                        (AV.cons
                                                                                                                                                                          (1 :
                                                                                                                                                                            Nat)
                                                                                                                                                                          (AV.sc
                                                                                                                                                                            (Value.int
                                                                                                                                                                              IntKind.i64
                                                                                                                                                                              (IntKind.i64.wrap
                                                                                                                                                                                (r_1.snd.fst -
                                                                                                                                                                                  (1 :
                                                                                                                                                                                    Int)))))
                                                                                                                                                                          (AV.cons
                                                                                                                                                                            (1 :
                                                                                                                                                                              Nat)
                                                                                                                                                                            (AV.sc
                                                                                                                                                                              (Value.bool
                                                                                                                                                                                false))
                                                                                                                                                                            AV.nil))).tup
                                                                                                                                                                    res ∧
                                                                                                                                                                  SubOut
                                                                                                                                                                    []
                                                                                                                                                                    []) ∧
                                                                                                                                              (decide
                                                                                                                                                    (r_1.fst <
                                                                                                                                                      r.fst) =
                                                                                                                                                  false →
                                                                                                                                                ((True ∧
                                                                                                                                                      Sub
                                                                                                                                                          (AV.sc
                                                                                                                                                            (Value.string
                                                                                                                                                              s))
                                                                                                                                                          (AV.sc
                                                                                                                                                            (Value.string
                                                                                                                                                              s)) ∧
                                                                                                                                                        True ∧
                                                                                                                                                          Sub
                                                                                                                                                              (AV.pt
                                                                                                                                                                (1000 :
                                                                                                                                                                  Nat)
                                                                                                                                                                []
                                                                                                                                                                (0 :
                                                                                                                                                                  Nat))
                                                                                                                                                              (AV.pt
                                                                                                                                                                (1000 :
                                                                                                                                                                  Nat)
                                                                                                                                                                []
                                                                                                                                                                (0 :
                                                                                                                                                                  Nat)) ∧
                                                                                                                                                            True ∧
                                                                                                                                                              Sub
                                                                                                                                                                  (AV.pt
                                                                                                                                                                    (1001 :
                                                                                                                                                                      Nat)
                                                                                                                                                                    []
                                                                                                                                                                    (0 :
                                                                                                                                                                      Nat))
                                                                                                                                                                  (AV.pt
                                                                                                                                                                    (1001 :
                                                                                                                                                                      Nat)
                                                                                                                                                                    []
                                                                                                                                                                    (0 :
                                                                                                                                                                      Nat)) ∧
                                                                                                                                                                True ∧
                                                                                                                                                                  Sub
                                                                                                                                                                      (AV.sc
                                                                                                                                                                        (Value.bool
                                                                                                                                                                          not_))
                                                                                                                                                                      (AV.sc
                                                                                                                                                                        (Value.bool
                                                                                                                                                                          not_)) ∧
                                                                                                                                                                    True ∧
                                                                                                                                                                      Sub
                                                                                                                                                                          (AV.sc
                                                                                                                                                                            (Value.int
                                                                                                                                                                              IntKind.u8
                                                                                                                                                                              r.fst))
                                                                                                                                                                          (AV.sc
                                                                                                                                                                            (Value.int
                                                                                                                                                                              IntKind.u8
                                                                                                                                                                              r.fst)) ∧
                                                                                                                                                                        True ∧
                                                                                                                                                                          Sub
                                                                                                                                                                              (AV.sc
                                                                                                                                                                                (Value.int
                                                                                                                                                                                  IntKind.i64
                                                                                                                                                                                  r_1.snd.fst))
                                                                                                                                                                              (AV.sc
                                                                                                                                                                                (Value.int
                                                                                                                                                                                  IntKind.i64
                                                                                                                                                                                  r_1.snd.fst)) ∧
                                                                                                                                                                            True ∧
                                                                                                                                                                              Sub
                                                                                                                                                                                  (AV.sc
                                                                                                                                                                                    (Value.int
                                                                                                                                                                                      IntKind.u8
                                                                                                                                                                                      r_1.fst))
                                                                                                                                                                                  (AV.sc
                                                                                                                                                                                    (Value.int
                                                                                                                                                                                      IntKind.u8
                                                                                                                                                                                      r_1.fst)) ∧
                                                                                                                                                                                True) ∧
                                                                                                                                                    True ∧
                                                                                                                                                      SubB
                                                                                                                                                          (AV.ar
                                                                                                                                                            (4 :
                                                                                                                                                              Nat)
                                                                                                                                                            (1 :
                                                                                                                                                              Nat)
                                                                                                                                                            fun
                                                                                                                                                              (i0 :
                                                                                                                                                                Nat) =>
                                                                                                                                                            AV.sc
                                                                                                                                                              (Value.int
                                                                                                                                                                IntKind.u64
                                                                                                                                                                (b0f
                                                                                                                                                                  i0)))
                                                                                                                                                          (AV.ar
                                                                                                                                                            (4 :
                                                                                                                                                              Nat)
                                                                                                                                                            (1 :
                                                                                                                                                              Nat)
                                                                                                                                                            fun
                                                                                                                                                              (i0 :
                                                                                                                                                                Nat) =>
                                                                                                                                                            AV.sc
                                                                                                                                                              (Value.int
                                                                                                                                                                IntKind.u64
                                                                                                                                                                (b0f
                                                                                                                                                                  i0))) ∧
                                                                                                                                                        True ∧
                                                                                                                                                          SubB
                                                                                                                                                              (AV.ar
                                                                                                                                                                (4 :
                                                                                                                                                                  Nat)
                                                                                                                                                                (1 :
                                                                                                                                                                  Nat)
                                                                                                                                                                fun
                                                                                                                                                                  (i0 :
                                                                                                                                                                    Nat) =>
                                                                                                                                                                AV.sc
                                                                                                                                                                  (Value.int
                                                                                                                                                                    IntKind.u64
                                                                                                                                                                    (b1f
                                                                                                                                                                      i0)))
                                                                                                                                                              (AV.ar
                                                                                                                                                                (4 :
                                                                                                                                                                  Nat)
                                                                                                                                                                (1 :
                                                                                                                                                                  Nat)
                                                                                                                                                                fun
                                                                                                                                                                  (i0 :
                                                                                                                                                                    Nat) =>
                                                                                                                                                                AV.sc
                                                                                                                                                                  (Value.int
                                                                                                                                                                    IntKind.u64
                                                                                                                                                                    (b1f
                                                                                                                                                                      i0))) ∧
                                                                                                                                                            True) ∧
                                                                                                                                                  L104_2 s not_
                                                                                                                                                    r.fst
                                                                                                                                                    r_1.snd.fst
                                                                                                                                                    r_1.fst b0f
                                                                                                                                                    b1f res))) ∧
                                                                                                    (((↑(byteAt s r.snd.fst.toNat).toNat : Int) == (45 : Int)) =
                                                                                                        false →
                                                                                                      ((True ∧
                                                                                                            Sub (AV.sc (Value.string s))
                                                                                                                (AV.sc (Value.string s)) ∧
                                                                                                              True ∧
                                                                                                                Sub (AV.pt (1000 : Nat) [] (0 : Nat))
                                                                                                                    (AV.pt (1000 : Nat) [] (0 : Nat)) ∧
                                                                                                                  True ∧
                                                                                                                    Sub (AV.pt (1001 : Nat) [] (0 : Nat))
                                                                                                                        (AV.pt (1001 : Nat) [] (0 : Nat)) ∧
                                                                                                                      True ∧
                                                                                                                        Sub (AV.sc (Value.bool not_))
                                                                                                                            (AV.sc (Value.bool not_)) ∧
                                                                                                                          True ∧
                                                                                                                            Sub
                                                                                                                                (AV.sc
                                                                                                                                  (Value.int IntKind.u8 r.fst))
                                                                                                                                (AV.sc
                                                                                                                                  (Value.int IntKind.u8
                                                                                                                                    r.fst)) ∧
                                                                                                                              True ∧
                                                                                                                                Sub
                                                                                                                                    (AV.sc
                                                                                                                                      (Value.int IntKind.i64
                                                                                                                                        r.snd.fst))
                                                                                                                                    (AV.sc
                                                                                                                                      (Value.int IntKind.i64
                                                                                                                                        r.snd.fst)) ∧
                                                                                                                                  True ∧
                                                                                                                                    Sub
                                                                                                                                        (AV.sc
                                                                                                                                          (Value.int IntKind.u8
                                                                                                                                            r.fst))
                                                                                                                                        (AV.sc
                                                                                                                                          (Value.int IntKind.u8
                                                                                                                                            r.fst)) ∧
                                                                                                                                      True) ∧
                                                                                                          True ∧
                                                                                                            SubB
                                                                                                                (AV.ar (4 : Nat) (1 : Nat) fun (i0 : Nat) =>
                                                                                                                  AV.sc (Value.int IntKind.u64 (b0f i0)))
                                                                                                                (AV.ar (4 : Nat) (1 : Nat) fun (i0 : Nat) =>
                                                                                                                  AV.sc (Value.int IntKind.u64 (b0f i0))) ∧
                                                                                                              True ∧
                                                                                                                SubB
                                                                                                                    (AV.ar (4 : Nat) (1 : Nat) fun (i0 : Nat) =>
                                                                                                                      AV.sc (Value.int IntKind.u64 (b1f i0)))
                                                                                                                    (AV.ar (4 : Nat) (1 : Nat) fun (i0 : Nat) =>
                                                                                                                      AV.sc (Value.int IntKind.u64 (b1f i0))) ∧
                                                                                                                  True) ∧
                                                                                                        L104_2 s not_ r.fst r.snd.fst r.fst b0f b1f res)) ∧
                                                                                (decide (r.snd.fst < (↑s.size : Int)) = !true →
                                                                                  true = true ∧
                                                                                    (!true) = !true ∧
                                                                                      true = true ∧
                                                                                        (!true) = !true ∧
                                                                                          true = true ∧
                                                                                            (!true) = !true ∧
                                                                                              true = true ∧
                                                                                                True ∧
                                                                                                  false = false ∧
                                                                                                    ((True ∧
                                                                                                          Sub (AV.sc (Value.string s))
                                                                                                              (AV.sc (Value.string s)) ∧
                                                                                                            True ∧
                                                                                                              Sub (AV.pt (1000 : Nat) [] (0 : Nat))
                                                                                                                  (AV.pt (1000 : Nat) [] (0 : Nat)) ∧
                                                                                                                True ∧
                                                                                                                  Sub (AV.pt (1001 : Nat) [] (0 : Nat))
                                                                                                                      (AV.pt (1001 : Nat) [] (0 : Nat)) ∧
                                                                                                                    True ∧
                                                                                                                      Sub (AV.sc (Value.bool not_))
                                                                                                                          (AV.sc (Value.bool not_)) ∧
                                                                                                                        True ∧
                                                                                                                          Sub
                                                                                                                              (AV.sc
                                                                                                                                (Value.int IntKind.u8 r.fst))
                                                                                                                              (AV.sc
                                                                                                                                (Value.int IntKind.u8 r.fst)) ∧
                                                                                                                            True ∧
                                                                                                                              Sub
                                                                                                                                  (AV.sc
                                                                                                                                    (Value.int IntKind.i64
                                                                                                                                      r.snd.fst))
                                                                                                                                  (AV.sc
                                                                                                                                    (Value.int IntKind.i64
                                                                                                                                      r.snd.fst)) ∧
                                                                                                                                True ∧
                                                                                                                                  Sub
                                                                                                                                      (AV.sc
                                                                                                                                        (Value.int IntKind.u8
                                                                                                                                          r.fst))
                                                                                                                                      (AV.sc
                                                                                                                                        (Value.int IntKind.u8
                                                                                                                                          r.fst)) ∧
                                                                                                                                    True) ∧
                                                                                                        True ∧
                                                                                                          SubB
                                                                                                              (AV.ar (4 : Nat) (1 : Nat) fun (i0 : Nat) =>
                                                                                                                AV.sc (Value.int IntKind.u64 (b0f i0)))
                                                                                                              (AV.ar (4 : Nat) (1 : Nat) fun (i0 : Nat) =>
                                                                                                                AV.sc (Value.int IntKind.u64 (b0f i0))) ∧
                                                                                                            True ∧
                                                                                                              SubB
                                                                                                                  (AV.ar (4 : Nat) (1 : Nat) fun (i0 : Nat) =>
                                                                                                                    AV.sc (Value.int IntKind.u64 (b1f i0)))
                                                                                                                  (AV.ar (4 : Nat) (1 : Nat) fun (i0 : Nat) =>
                                                                                                                    AV.sc (Value.int IntKind.u64 (b1f i0))) ∧
                                                                                                                True) ∧
                                                                                                      L104_2 s not_ r.fst r.snd.fst r.fst b0f b1f res))) ∧
                                (((↑(byteAt s at_.toNat).toNat : Int) != (93 : Int)) = false →
                                  True ∧
                                    True ∧
                                      True ∧
                                        True ∧
                                          (decide (at_ ≥ (↑s.size : Int)) = true →
                                              True ∧
                                                True ∧
                                                  True ∧
                                                    ((0 : Nat) = (0 : Nat) ∧ True) ∧
                                                      True ∧
                                                        True ∧
                                                          (((0 : Nat) = (0 : Nat) ∧ True) ∧ True ∧ True ∧ True) ∧
                                                            (((True ∧ True ∧ True ∧ True) ∧
                                                                  Sub
                                                                      (AV.cons (1 : Nat)
                                                                          (AV.ar (4 : Nat) (1 : Nat) fun (x : Nat) => AV.sc (Value.int IntKind.u64 (0 : Int)))
                                                                          (AV.cons (1 : Nat) (AV.sc (Value.int IntKind.i64 (↑s.size : Int)))
                                                                            (AV.cons (1 : Nat) (AV.sc (Value.bool false)) AV.nil))).tup
                                                                      (AV.cons (1 : Nat)
                                                                          (AV.ar (4 : Nat) (1 : Nat) fun (x : Nat) => AV.sc (Value.int IntKind.u64 (0 : Int)))
                                                                          (AV.cons (1 : Nat) (AV.sc (Value.int IntKind.i64 (↑s.size : Int)))
                                                                            (AV.cons (1 : Nat) (AV.sc (Value.bool false)) AV.nil))).tup ∧
                                                                    True) ∧
                                                                True) ∧
                                                              Sub
                                                                  (AV.cons (1 : Nat)
                                                                      (AV.ar (4 : Nat) (1 : Nat) fun (x : Nat) => AV.sc (Value.int IntKind.u64 (0 : Int)))
                                                                      (AV.cons (1 : Nat) (AV.sc (Value.int IntKind.i64 (↑s.size : Int)))
                                                                        (AV.cons (1 : Nat) (AV.sc (Value.bool false)) AV.nil))).tup
                                                                  res ∧
                                                                SubOut [] []) ∧
                                            (decide (at_ ≥ (↑s.size : Int)) = false →
                                              True ∧
                                                (not_ = true →
                                                    True ∧
                                                      ((True ∧
                                                            Sub (AV.sc (Value.int IntKind.i64 at_)) (AV.sc (Value.int IntKind.i64 at_)) ∧
                                                              True ∧
                                                                Sub (AV.pt (1000 : Nat) [] (0 : Nat)) (AV.pt (1000 : Nat) [] (0 : Nat)) ∧
                                                                  True ∧
                                                                    Sub (AV.pt (1001 : Nat) [] (0 : Nat)) (AV.pt (1001 : Nat) [] (0 : Nat)) ∧
                                                                      True ∧
                                                                        Sub (AV.sc (Value.int IntKind.i64 (0 : Int)))
                                                                            (AV.sc (Value.int IntKind.i64 (0 : Int))) ∧
                                                                          True) ∧
                                                          True ∧
                                                            SubB (AV.ar (4 : Nat) (1 : Nat) fun (i0 : Nat) => AV.sc (Value.int IntKind.u64 (b0f i0)))
                                                                (AV.ar (4 : Nat) (1 : Nat) fun (i0 : Nat) => AV.sc (Value.int IntKind.u64 (b0f i0))) ∧
                                                              True ∧
                                                                SubB (AV.ar (4 : Nat) (1 : Nat) fun (i0 : Nat) => AV.sc (Value.int IntKind.u64 (b1f i0)))
                                                                    (AV.ar (4 : Nat) (1 : Nat) fun (i0 : Nat) => AV.sc (Value.int IntKind.u64 (b1f i0))) ∧
                                                                  True) ∧
                                                        L104_4 at_ (0 : Int) b0f b1f res) ∧
                                                  (not_ = false →
                                                    ((True ∧
                                                          Sub (AV.sc (Value.int IntKind.i64 at_)) (AV.sc (Value.int IntKind.i64 at_)) ∧
                                                            True ∧
                                                              Sub (AV.pt (1000 : Nat) [] (0 : Nat)) (AV.pt (1000 : Nat) [] (0 : Nat)) ∧
                                                                True ∧ Sub (AV.pt (1001 : Nat) [] (0 : Nat)) (AV.pt (1001 : Nat) [] (0 : Nat)) ∧ True) ∧
                                                        True ∧
                                                          SubB (AV.ar (4 : Nat) (1 : Nat) fun (i0 : Nat) => AV.sc (Value.int IntKind.u64 (b0f i0)))
                                                              (AV.ar (4 : Nat) (1 : Nat) fun (i0 : Nat) => AV.sc (Value.int IntKind.u64 (b0f i0))) ∧
                                                            True ∧
                                                              SubB (AV.ar (4 : Nat) (1 : Nat) fun (i0 : Nat) => AV.sc (Value.int IntKind.u64 (b1f i0)))
                                                                  (AV.ar (4 : Nat) (1 : Nat) fun (i0 : Nat) => AV.sc (Value.int IntKind.u64 (b1f i0))) ∧
                                                                True) ∧
                                                      L104_5 at_ b0f b1f res)))) ∧
            (decide (at_ < (↑s.size : Int)) = !true →
              true = true ∧
                (!true) = !true ∧
                  true = true ∧
                    (!true) = !true ∧
                      true = true ∧
                        (!true) = !true ∧
                          true = true ∧
                            True ∧
                              false = false ∧
                                True ∧
                                  True ∧
                                    True ∧
                                      True ∧
                                        (decide (at_ ≥ (↑s.size : Int)) = true →
                                            True ∧
                                              True ∧
                                                True ∧
                                                  ((0 : Nat) = (0 : Nat) ∧ True) ∧
                                                    True ∧
                                                      True ∧
                                                        (((0 : Nat) = (0 : Nat) ∧ True) ∧ True ∧ True ∧ True) ∧
                                                          (((True ∧ True ∧ True ∧ True) ∧
                                                                Sub
                                                                    (AV.cons (1 : Nat)
                                                                        (AV.ar (4 : Nat) (1 : Nat) fun (x : Nat) => AV.sc (Value.int IntKind.u64 (0 : Int)))
                                                                        (AV.cons (1 : Nat) (AV.sc (Value.int IntKind.i64 (↑s.size : Int)))
                                                                          (AV.cons (1 : Nat) (AV.sc (Value.bool false)) AV.nil))).tup
                                                                    (AV.cons (1 : Nat)
                                                                        (AV.ar (4 : Nat) (1 : Nat) fun (x : Nat) => AV.sc (Value.int IntKind.u64 (0 : Int)))
                                                                        (AV.cons (1 : Nat) (AV.sc (Value.int IntKind.i64 (↑s.size : Int)))
                                                                          (AV.cons (1 : Nat) (AV.sc (Value.bool false)) AV.nil))).tup ∧
                                                                  True) ∧
                                                              True) ∧
                                                            Sub
                                                                (AV.cons (1 : Nat)
                                                                    (AV.ar (4 : Nat) (1 : Nat) fun (x : Nat) => AV.sc (Value.int IntKind.u64 (0 : Int)))
                                                                    (AV.cons (1 : Nat) (AV.sc (Value.int IntKind.i64 (↑s.size : Int)))
                                                                      (AV.cons (1 : Nat) (AV.sc (Value.bool false)) AV.nil))).tup
                                                                res ∧
                                                              SubOut [] []) ∧
                                          (decide (at_ ≥ (↑s.size : Int)) = false →
                                            True ∧
                                              (not_ = true →
                                                  True ∧
                                                    ((True ∧
                                                          Sub (AV.sc (Value.int IntKind.i64 at_)) (AV.sc (Value.int IntKind.i64 at_)) ∧
                                                            True ∧
                                                              Sub (AV.pt (1000 : Nat) [] (0 : Nat)) (AV.pt (1000 : Nat) [] (0 : Nat)) ∧
                                                                True ∧
                                                                  Sub (AV.pt (1001 : Nat) [] (0 : Nat)) (AV.pt (1001 : Nat) [] (0 : Nat)) ∧
                                                                    True ∧
                                                                      Sub (AV.sc (Value.int IntKind.i64 (0 : Int))) (AV.sc (Value.int IntKind.i64 (0 : Int))) ∧
                                                                        True) ∧
                                                        True ∧
                                                          SubB (AV.ar (4 : Nat) (1 : Nat) fun (i0 : Nat) => AV.sc (Value.int IntKind.u64 (b0f i0)))
                                                              (AV.ar (4 : Nat) (1 : Nat) fun (i0 : Nat) => AV.sc (Value.int IntKind.u64 (b0f i0))) ∧
                                                            True ∧
                                                              SubB (AV.ar (4 : Nat) (1 : Nat) fun (i0 : Nat) => AV.sc (Value.int IntKind.u64 (b1f i0)))
                                                                  (AV.ar (4 : Nat) (1 : Nat) fun (i0 : Nat) => AV.sc (Value.int IntKind.u64 (b1f i0))) ∧
                                                                True) ∧
                                                      L104_4 at_ (0 : Int) b0f b1f res) ∧
                                                (not_ = false →
                                                  ((True ∧
                                                        Sub (AV.sc (Value.int IntKind.i64 at_)) (AV.sc (Value.int IntKind.i64 at_)) ∧
                                                          True ∧
                                                            Sub (AV.pt (1000 : Nat) [] (0 : Nat)) (AV.pt (1000 : Nat) [] (0 : Nat)) ∧
                                                              True ∧ Sub (AV.pt (1001 : Nat) [] (0 : Nat)) (AV.pt (1001 : Nat) [] (0 : Nat)) ∧ True) ∧
                                                      True ∧
                                                        SubB (AV.ar (4 : Nat) (1 : Nat) fun (i0 : Nat) => AV.sc (Value.int IntKind.u64 (b0f i0)))
                                                            (AV.ar (4 : Nat) (1 : Nat) fun (i0 : Nat) => AV.sc (Value.int IntKind.u64 (b0f i0))) ∧
                                                          True ∧
                                                            SubB (AV.ar (4 : Nat) (1 : Nat) fun (i0 : Nat) => AV.sc (Value.int IntKind.u64 (b1f i0)))
                                                                (AV.ar (4 : Nat) (1 : Nat) fun (i0 : Nat) => AV.sc (Value.int IntKind.u64 (b1f i0))) ∧
                                                              True) ∧
                                                    L104_5 at_ b0f b1f res))) from
    ⟨trivial, ⟨trivial, ⟨trivial, ⟨trivial, ⟨trivial, (And.elim (fun h5 k5 => ⟨(fun x6 => (fun h6 => ⟨trivial, ⟨rfl, ⟨trivial, ⟨rfl, (And.elim (fun h11 k11 => ⟨(And.elim (fun h12 k12 => ⟨h12, k12⟩) h11), ⟨rfl, ⟨trivial, ⟨trivial, (And.elim (fun h15 k15 => ⟨(fun x16 => (fun h16 => ⟨trivial, ⟨trivial, (Exists.elim h16 fun x19 h19 => ⟨x19, (And.elim (fun h20 k20 => ⟨⟨⟨trivial, ⟨trivial, trivial⟩⟩, ⟨trivial, h20⟩⟩, ⟨trivial, ⟨trivial, ⟨trivial, ⟨trivial, ⟨trivial, ⟨trivial, ⟨trivial, ⟨trivial, ⟨trivial, (And.elim (fun h30 k30 => ⟨(fun x31 => (fun h31 => ⟨trivial, ⟨trivial, ⟨⟨rfl, trivial⟩, ⟨trivial, ⟨trivial, ⟨⟨⟨rfl, trivial⟩, ⟨trivial, ⟨trivial, trivial⟩⟩⟩, ⟨⟨⟨⟨trivial, ⟨trivial, ⟨trivial, trivial⟩⟩⟩, ⟨Sub.refl _, trivial⟩⟩, trivial⟩, ⟨h31, trivial⟩⟩⟩⟩⟩⟩⟩⟩) (h30 x31)), (fun x31 => (fun h31 => ⟨trivial, ⟨trivial, ⟨trivial, ⟨trivial, ⟨trivial, ⟨trivial, ⟨trivial, (And.elim (fun h39 k39 => ⟨(fun x40 => (fun h40 => ⟨trivial, ⟨rfl, ⟨trivial, ⟨rfl, (And.elim (fun h45 k45 => ⟨(And.elim (fun h46 k46 => ⟨h46, k46⟩) h45), ⟨rfl, ⟨trivial, ⟨trivial, (And.elim (fun h49 k49 => ⟨(fun x50 => (fun h50 => ⟨trivial, ⟨trivial, ⟨trivial, (Exists.elim h50 fun x54 h54 => ⟨x54, (And.elim (fun h55 k55 => ⟨⟨⟨trivial, ⟨trivial, trivial⟩⟩, ⟨trivial, h55⟩⟩, ⟨trivial, ⟨trivial, ⟨trivial, ⟨trivial, ⟨trivial, ⟨trivial, ⟨trivial, ⟨trivial, ⟨trivial, (And.elim (fun h65 k65 => ⟨(fun x66 => (fun h66 => ⟨trivial, ⟨trivial, ⟨⟨rfl, trivial⟩, ⟨trivial, ⟨trivial, ⟨⟨⟨rfl, trivial⟩, ⟨trivial, ⟨trivial, trivial⟩⟩⟩, ⟨⟨⟨⟨trivial, ⟨trivial, ⟨trivial, trivial⟩⟩⟩, ⟨Sub.refl _, trivial⟩⟩, trivial⟩, ⟨h66, trivial⟩⟩⟩⟩⟩⟩⟩⟩) (h65 x66)), (fun x66 => (fun h66 => ⟨trivial, ⟨trivial, ⟨trivial, (And.elim (fun h70 k70 => ⟨(fun x71 => (fun h71 => ⟨trivial, ⟨trivial, ⟨trivial, ⟨⟨rfl, trivial⟩, ⟨trivial, ⟨trivial, ⟨⟨⟨rfl, trivial⟩, ⟨trivial, ⟨trivial, trivial⟩⟩⟩, ⟨⟨⟨⟨trivial, ⟨trivial, ⟨trivial, trivial⟩⟩⟩, ⟨Sub.refl _, trivial⟩⟩, trivial⟩, ⟨h71, trivial⟩⟩⟩⟩⟩⟩⟩⟩⟩) (h70 x71)), (fun x71 => (fun h71 => ⟨⟨⟨trivial, ⟨Sub.refl _, ⟨trivial, ⟨Sub.refl _, ⟨trivial, ⟨Sub.refl _, ⟨trivial, ⟨Sub.refl _, ⟨trivial, ⟨Sub.refl _, ⟨trivial, ⟨Sub.refl _, ⟨trivial, ⟨Sub.refl _, trivial⟩⟩⟩⟩⟩⟩⟩⟩⟩⟩⟩⟩⟩⟩, ⟨trivial, ⟨SubB.refl _, ⟨trivial, ⟨SubB.refl _, trivial⟩⟩⟩⟩⟩, h71⟩) (k70 x71))⟩) h66)⟩⟩⟩) (k65 x66))⟩) k55)⟩⟩⟩⟩⟩⟩⟩⟩⟩⟩) h54)⟩)⟩⟩⟩) (h49 x50)), (fun x50 => (fun h50 => ⟨⟨⟨trivial, ⟨Sub.refl _, ⟨trivial, ⟨Sub.refl _, ⟨trivial, ⟨Sub.refl _, ⟨trivial, ⟨Sub.refl _, ⟨trivial, ⟨Sub.refl _, ⟨trivial, ⟨Sub.refl _, ⟨trivial, ⟨Sub.refl _, trivial⟩⟩⟩⟩⟩⟩⟩⟩⟩⟩⟩⟩⟩⟩, ⟨trivial, ⟨SubB.refl _, ⟨trivial, ⟨SubB.refl _, trivial⟩⟩⟩⟩⟩, h50⟩) (k49 x50))⟩) k45)⟩⟩⟩⟩) h40)⟩⟩⟩⟩) (h39 x40)), (fun x40 => (fun h40 => ⟨rfl, ⟨rfl, ⟨rfl, ⟨rfl, ⟨rfl, ⟨rfl, ⟨rfl, ⟨trivial, ⟨rfl, ⟨⟨⟨trivial, ⟨Sub.refl _, ⟨trivial, ⟨Sub.refl _, ⟨trivial, ⟨Sub.refl _, ⟨trivial, ⟨Sub.refl _, ⟨trivial, ⟨Sub.refl _, ⟨trivial, ⟨Sub.refl _, ⟨trivial, ⟨Sub.refl _, trivial⟩⟩⟩⟩⟩⟩⟩⟩⟩⟩⟩⟩⟩⟩, ⟨trivial, ⟨SubB.refl _, ⟨trivial, ⟨SubB.refl _, trivial⟩⟩⟩⟩⟩, h40⟩⟩⟩⟩⟩⟩⟩⟩⟩⟩) (k39 x40))⟩) h31)⟩⟩⟩⟩⟩⟩⟩) (k30 x31))⟩) k20)⟩⟩⟩⟩⟩⟩⟩⟩⟩⟩) h19)⟩)⟩⟩) (h15 x16)), (fun x16 => (fun h16 => ⟨trivial, ⟨trivial, ⟨trivial, ⟨trivial, (And.elim (fun h21 k21 => ⟨(fun x22 => (fun h22 => ⟨trivial, ⟨trivial, ⟨trivial, ⟨⟨rfl, trivial⟩, ⟨trivial, ⟨trivial, ⟨⟨⟨rfl, trivial⟩, ⟨trivial, ⟨trivial, trivial⟩⟩⟩, ⟨⟨⟨⟨trivial, ⟨trivial, ⟨trivial, trivial⟩⟩⟩, ⟨Sub.refl _, trivial⟩⟩, trivial⟩, ⟨h22, trivial⟩⟩⟩⟩⟩⟩⟩⟩⟩) (h21 x22)), (fun x22 => (fun h22 => ⟨trivial, (And.elim (fun h24 k24 => ⟨(fun x25 => (fun h25 => ⟨trivial, ⟨⟨⟨trivial, ⟨Sub.refl _, ⟨trivial, ⟨Sub.refl _, ⟨trivial, ⟨Sub.refl _, ⟨trivial, ⟨Sub.refl _, trivial⟩⟩⟩⟩⟩⟩⟩⟩, ⟨trivial, ⟨SubB.refl _, ⟨trivial, ⟨SubB.refl _, trivial⟩⟩⟩⟩⟩, h25⟩⟩) (h24 x25)), (fun x25 => (fun h25 => ⟨⟨⟨trivial, ⟨Sub.refl _, ⟨trivial, ⟨Sub.refl _, ⟨trivial, ⟨Sub.refl _, trivial⟩⟩⟩⟩⟩⟩, ⟨trivial, ⟨SubB.refl _, ⟨trivial, ⟨SubB.refl _, trivial⟩⟩⟩⟩⟩, h25⟩) (k24 x25))⟩) h22)⟩) (k21 x22))⟩) h16)⟩⟩⟩⟩) (k15 x16))⟩) k11)⟩⟩⟩⟩) h6)⟩⟩⟩⟩) (h5 x6)), (fun x6 => (fun h6 => ⟨rfl, ⟨rfl, ⟨rfl, ⟨rfl, ⟨rfl, ⟨rfl, ⟨rfl, ⟨trivial, ⟨rfl, ⟨trivial, ⟨trivial, ⟨trivial, ⟨trivial, (And.elim (fun h20 k20 => ⟨(fun x21 => (fun h21 => ⟨trivial, ⟨trivial, ⟨trivial, ⟨⟨rfl, trivial⟩, ⟨trivial, ⟨trivial, ⟨⟨⟨rfl, trivial⟩, ⟨trivial, ⟨trivial, trivial⟩⟩⟩, ⟨⟨⟨⟨trivial, ⟨trivial, ⟨trivial, trivial⟩⟩⟩, ⟨Sub.refl _, trivial⟩⟩, trivial⟩, ⟨h21, trivial⟩⟩⟩⟩⟩⟩⟩⟩⟩) (h20 x21)), (fun x21 => (fun h21 => ⟨trivial, (And.elim (fun h23 k23 => ⟨(fun x24 => (fun h24 => ⟨trivial, ⟨⟨⟨trivial, ⟨Sub.refl _, ⟨trivial, ⟨Sub.refl _, ⟨trivial, ⟨Sub.refl _, ⟨trivial, ⟨Sub.refl _, trivial⟩⟩⟩⟩⟩⟩⟩⟩, ⟨trivial, ⟨SubB.refl _, ⟨trivial, ⟨SubB.refl _, trivial⟩⟩⟩⟩⟩, h24⟩⟩) (h23 x24)), (fun x24 => (fun h24 => ⟨⟨⟨trivial, ⟨Sub.refl _, ⟨trivial, ⟨Sub.refl _, ⟨trivial, ⟨Sub.refl _, trivial⟩⟩⟩⟩⟩⟩, ⟨trivial, ⟨SubB.refl _, ⟨trivial, ⟨SubB.refl _, trivial⟩⟩⟩⟩⟩, h24⟩) (k23 x24))⟩) h21)⟩) (k20 x21))⟩) h6)⟩⟩⟩⟩⟩⟩⟩⟩⟩⟩⟩⟩⟩) (k5 x6))⟩) h)⟩⟩⟩⟩⟩)
theorem r104_2 (s : ByteArray) (not_ : Bool) (a : Int) (next : Int) (b : Int) (b0f : Nat → Int) (b1f : Nat → Int) (res : AV)
    (h : L104_3 s not_ next b (IntKind.i64.wrap a) b0f b1f res) :
    L104_2 s not_ a next b b0f b1f res :=
  rule Go.Am.Seat.tabOk 104 [] Go.Proofs.Try.f104 hf104 [1, 1, 1, 1, 1, 1, 0, 0, 0, 1, 0, 1, 1, 1, 1] (s104_2 s not_ a next b b0f b1f) (m104_2 s not_ a next b b0f b1f) res [] 400
    (Orc.cut (nat_lit 5) (s104_3 s not_ next b (IntKind.i64.wrap a) b0f b1f) (m104_3 s not_ next b (IntKind.i64.wrap a) b0f b1f)
  [((1000 : Nat), some (1000 : Nat)), ((1001 : Nat), some (1001 : Nat))]) _ _ (by kernel_rfl) (by kernel_rfl) (show True ∧
  True ∧
    True ∧
      ((True ∧
            Sub (AV.sc (Value.string s)) (AV.sc (Value.string s)) ∧
              True ∧
                Sub (AV.pt (1000 : Nat) [] (0 : Nat)) (AV.pt (1000 : Nat) [] (0 : Nat)) ∧
                  True ∧
                    Sub (AV.pt (1001 : Nat) [] (0 : Nat)) (AV.pt (1001 : Nat) [] (0 : Nat)) ∧
                      True ∧
                        Sub (AV.sc (Value.bool not_)) (AV.sc (Value.bool not_)) ∧
                          True ∧
                            Sub (AV.sc (Value.int IntKind.i64 next)) (AV.sc (Value.int IntKind.i64 next)) ∧
                              True ∧
                                Sub (AV.sc (Value.int IntKind.u8 b)) (AV.sc (Value.int IntKind.u8 b)) ∧
                                  True ∧ Sub (AV.sc (Value.int IntKind.i64 (IntKind.i64.wrap a))) (AV.sc (Value.int IntKind.i64 (IntKind.i64.wrap a))) ∧ True) ∧
          True ∧
            SubB (AV.ar (4 : Nat) (1 : Nat) fun (i0 : Nat) => AV.sc (Value.int IntKind.u64 (b0f i0)))
                (AV.ar (4 : Nat) (1 : Nat) fun (i0 : Nat) => AV.sc (Value.int IntKind.u64 (b0f i0))) ∧
              True ∧
                SubB (AV.ar (4 : Nat) (1 : Nat) fun (i0 : Nat) => AV.sc (Value.int IntKind.u64 (b1f i0)))
                    (AV.ar (4 : Nat) (1 : Nat) fun (i0 : Nat) => AV.sc (Value.int IntKind.u64 (b1f i0))) ∧
                  True) ∧
        L104_3 s not_ next b (IntKind.i64.wrap a) b0f b1f res from
    ⟨trivial, ⟨trivial, ⟨trivial, ⟨⟨⟨trivial, ⟨Sub.refl _, ⟨trivial, ⟨Sub.refl _, ⟨trivial, ⟨Sub.refl _, ⟨trivial, ⟨Sub.refl _, ⟨trivial, ⟨Sub.refl _, ⟨trivial, ⟨Sub.refl _, ⟨trivial, ⟨Sub.refl _, trivial⟩⟩⟩⟩⟩⟩⟩⟩⟩⟩⟩⟩⟩⟩, ⟨trivial, ⟨SubB.refl _, ⟨trivial, ⟨SubB.refl _, trivial⟩⟩⟩⟩⟩, h⟩⟩⟩⟩)
theorem r104_3 (s : ByteArray) (not_ : Bool) (next : Int) (b : Int) (c : Int) (b0f : Nat → Int) (b1f : Nat → Int) (res : AV)
    (h : (decide (c ≤ IntKind.i64.wrap b) = true →
    ∃ (r : Nat → Int),
      Ok Proofs.Try.prog (103 : Nat)
          [AV.ar (4 : Nat) (1 : Nat) fun (i : Nat) => AV.sc (Value.int IntKind.u64 (b1f i)), AV.sc (Value.int IntKind.u8 (IntKind.u8.wrap c))] []
          (AV.ar (4 : Nat) (1 : Nat) fun (i0 : Nat) => AV.sc (Value.int IntKind.u64 (r i0))) [] ∧
        L104_3 s not_ next b (IntKind.i64.wrap (c + (1 : Int))) b0f r res) ∧
  (decide (c ≤ IntKind.i64.wrap b) = false → L104_1 s next not_ b0f b1f res)) :
    L104_3 s not_ next b c b0f b1f res :=
  rule Go.Am.Seat.tabOk 104 [] Go.Proofs.Try.f104 hf104 [1, 1, 1, 1, 1, 1, 0, 0, 0, 1, 0, 1, 1, 1, 1, 0, 1, 0, 0] (s104_3 s not_ next b c b0f b1f) (m104_3 s not_ next b c b0f b1f) res [] 400
    ((Orc.call [] [] (fun (r103 : Nat → Int) => AV.ar (4 : Nat) (1 : Nat) fun (i0 : Nat) => AV.sc (Value.int IntKind.u64 (r103 i0))) (fun (r103 : Nat → Int) => [])
      fun (r103 : Nat → Int) =>
      Orc.cut (nat_lit 3) (s104_3 s not_ next b (IntKind.i64.wrap (c + (1 : Int))) b0f r103) (m104_3 s not_ next b (IntKind.i64.wrap (c + (1 : Int))) b0f r103)
        [((1000 : Nat), some (1000 : Nat)), ((1001 : Nat), some (1001 : Nat))]).br
  (Orc.cut (nat_lit 4) (s104_1 s next not_ b0f b1f) (m104_1 s next not_ b0f b1f) [((1000 : Nat), some (1000 : Nat)), ((1001 : Nat), some (1001 : Nat))])) _ _ (by kernel_rfl) (by kernel_rfl) (show True ∧
  True ∧
    True ∧
      True ∧
        (decide (c ≤ IntKind.i64.wrap b) = true →
            ((0 : Nat) = (0 : Nat) ∧ True) ∧
              True ∧
                True ∧
                  ∃ (r : Nat → Int),
                    ((True ∧ True ∧ True) ∧
                        True ∧
                          Ok Proofs.Try.prog (103 : Nat)
                            [AV.ar (4 : Nat) (1 : Nat) fun (i : Nat) => AV.sc (Value.int IntKind.u64 (b1f i)), AV.sc (Value.int IntKind.u8 (IntKind.u8.wrap c))]
                            [] (AV.ar (4 : Nat) (1 : Nat) fun (i0 : Nat) => AV.sc (Value.int IntKind.u64 (r i0))) []) ∧
                      ((0 : Nat) = (0 : Nat) ∧ True) ∧
                        True ∧
                          True ∧
                            True ∧
                              ((True ∧
                                    Sub (AV.sc (Value.string s)) (AV.sc (Value.string s)) ∧
                                      True ∧
                                        Sub (AV.pt (1000 : Nat) [] (0 : Nat)) (AV.pt (1000 : Nat) [] (0 : Nat)) ∧
                                          True ∧
                                            Sub (AV.pt (1001 : Nat) [] (0 : Nat)) (AV.pt (1001 : Nat) [] (0 : Nat)) ∧
                                              True ∧
                                                Sub (AV.sc (Value.bool not_)) (AV.sc (Value.bool not_)) ∧
                                                  True ∧
                                                    Sub (AV.sc (Value.int IntKind.i64 next)) (AV.sc (Value.int IntKind.i64 next)) ∧
                                                      True ∧
                                                        Sub (AV.sc (Value.int IntKind.u8 b)) (AV.sc (Value.int IntKind.u8 b)) ∧
                                                          True ∧
                                                            Sub (AV.sc (Value.int IntKind.i64 (IntKind.i64.wrap (c + (1 : Int)))))
                                                                (AV.sc (Value.int IntKind.i64 (IntKind.i64.wrap (c + (1 : Int))))) ∧
                                                              True) ∧
                                  True ∧
                                    SubB (AV.ar (4 : Nat) (1 : Nat) fun (i0 : Nat) => AV.sc (Value.int IntKind.u64 (b0f i0)))
                                        (AV.ar (4 : Nat) (1 : Nat) fun (i0 : Nat) => AV.sc (Value.int IntKind.u64 (b0f i0))) ∧
                                      True ∧
                                        SubB (AV.ar (4 : Nat) (1 : Nat) fun (i0 : Nat) => AV.sc (Value.int IntKind.u64 (r i0)))
                                            (AV.ar (4 : Nat) (1 : Nat) fun (i0 : Nat) => AV.sc (Value.int IntKind.u64 (r i0))) ∧
                                          True) ∧
                                L104_3 s not_ next b (IntKind.i64.wrap (c + (1 : Int))) b0f r res) ∧
          (decide (c ≤ IntKind.i64.wrap b) = false →
            True ∧
              True ∧
                ((True ∧
                      Sub (AV.sc (Value.string s)) (AV.sc (Value.string s)) ∧
                        True ∧
                          Sub (AV.sc (Value.int IntKind.i64 next)) (AV.sc (Value.int IntKind.i64 next)) ∧
                            True ∧
                              Sub (AV.pt (1000 : Nat) [] (0 : Nat)) (AV.pt (1000 : Nat) [] (0 : Nat)) ∧
                                True ∧
                                  Sub (AV.pt (1001 : Nat) [] (0 : Nat)) (AV.pt (1001 : Nat) [] (0 : Nat)) ∧
                                    True ∧ Sub (AV.sc (Value.bool not_)) (AV.sc (Value.bool not_)) ∧ True) ∧
                    True ∧
                      SubB (AV.ar (4 : Nat) (1 : Nat) fun (i0 : Nat) => AV.sc (Value.int IntKind.u64 (b0f i0)))
                          (AV.ar (4 : Nat) (1 : Nat) fun (i0 : Nat) => AV.sc (Value.int IntKind.u64 (b0f i0))) ∧
                        True ∧
                          SubB (AV.ar (4 : Nat) (1 : Nat) fun (i0 : Nat) => AV.sc (Value.int IntKind.u64 (b1f i0)))
                              (AV.ar (4 : Nat) (1 : Nat) fun (i0 : Nat) => AV.sc (Value.int IntKind.u64 (b1f i0))) ∧
                            True) ∧
                  L104_1 s next not_ b0f b1f res) from
    ⟨trivial, ⟨trivial, ⟨trivial, ⟨trivial, (And.elim (fun h4 k4 => ⟨(fun x5 => (fun h5 => ⟨⟨rfl, trivial⟩, ⟨trivial, ⟨trivial, (Exists.elim h5 fun x9 h9 => ⟨x9, (And.elim (fun h10 k10 => ⟨⟨⟨trivial, ⟨trivial, trivial⟩⟩, ⟨trivial, h10⟩⟩, ⟨⟨rfl, trivial⟩, ⟨trivial, ⟨trivial, ⟨trivial, ⟨⟨⟨trivial, ⟨Sub.refl _, ⟨trivial, ⟨Sub.refl _, ⟨trivial, ⟨Sub.refl _, ⟨trivial, ⟨Sub.refl _, ⟨trivial, ⟨Sub.refl _, ⟨trivial, ⟨Sub.refl _, ⟨trivial, ⟨Sub.refl _, trivial⟩⟩⟩⟩⟩⟩⟩⟩⟩⟩⟩⟩⟩⟩, ⟨trivial, ⟨SubB.refl _, ⟨trivial, ⟨SubB.refl _, trivial⟩⟩⟩⟩⟩, k10⟩⟩⟩⟩⟩⟩) h9)⟩)⟩⟩⟩) (h4 x5)), (fun x5 => (fun h5 => ⟨trivial, ⟨trivial, ⟨⟨⟨trivial, ⟨Sub.refl _, ⟨trivial, ⟨Sub.refl _, ⟨trivial, ⟨Sub.refl _, ⟨trivial, ⟨Sub.refl _, ⟨trivial, ⟨Sub.refl _, trivial⟩⟩⟩⟩⟩⟩⟩⟩⟩⟩, ⟨trivial, ⟨SubB.refl _, ⟨trivial, ⟨SubB.refl _, trivial⟩⟩⟩⟩⟩, h5⟩⟩⟩) (k4 x5))⟩) h)⟩⟩⟩⟩)
theorem r104_4 (at_ : Int) (t113 : Int) (b0f : Nat → Int) (b1f : Nat → Int) (res : AV)
    (h : (decide (t113 < (4 : Int)) = true →
    ((0 : Int) ≤ t113 ∧ t113 < (↑(4 : Nat) : Int)) ∧
      t113.toNat < (4 : Nat) ∧
        ((0 : Int) ≤ t113 ∧ t113 < (↑(4 : Nat) : Int)) ∧
          t113.toNat < (4 : Nat) ∧
            L104_4 at_ (IntKind.i64.wrap (t113 + (1 : Int))) b0f
              (fun (i : Nat) =>
                bif i.beq t113.toNat then
                  IntKind.u64.wrap
                    (↑(BitVec.ofInt IntKind.u64.bits (if IntKind.u64.signed = true then (-1 : Int) else IntKind.u64.max) ^^^
                            BitVec.ofInt IntKind.u64.bits (b1f t113.toNat)).toNat :
                      Int)
                else b1f i)
              res) ∧
  (decide (t113 < (4 : Int)) = false → L104_5 at_ b0f b1f res)) :
    L104_4 at_ t113 b0f b1f res :=
  rule Go.Am.Seat.tabOk 104 [] Go.Proofs.Try.f104 hf104 [1, 1, 1, 1, 1, 1, 1, 1, 0, 1, 0, 1, 0, 0] (s104_4 at_ t113 b0f b1f) (m104_4 at_ t113 b0f b1f) res [] 400
    ((Orc.cut (nat_lit 9)
      (s104_4 at_ (IntKind.i64.wrap (t113 + (1 : Int))) b0f fun (i : Nat) =>
        bif i.beq t113.toNat then
          IntKind.u64.wrap
            (↑(BitVec.ofInt IntKind.u64.bits (if IntKind.u64.signed = true then (-1 : Int) else IntKind.u64.max) ^^^
                    BitVec.ofInt IntKind.u64.bits (b1f t113.toNat)).toNat :
              Int)
        else b1f i)
      (m104_4 at_ (IntKind.i64.wrap (t113 + (1 : Int))) b0f fun (i : Nat) =>
        bif i.beq t113.toNat then
          IntKind.u64.wrap
            (↑(BitVec.ofInt IntKind.u64.bits (if IntKind.u64.signed = true then (-1 : Int) else IntKind.u64.max) ^^^
                    BitVec.ofInt IntKind.u64.bits (b1f t113.toNat)).toNat :
              Int)
        else b1f i)
      [((1000 : Nat), some (1000 : Nat)), ((1001 : Nat), some (1001 : Nat))]).br
  (Orc.cut (nat_lit 1) (s104_5 at_ b0f b1f) (m104_5 at_ b0f b1f) [((1000 : Nat), some (1000 : Nat)), ((1001 : Nat), some (1001 : Nat))])) _ _ (by kernel_rfl) (by kernel_rfl) (show True ∧
  (decide (t113 < (4 : Int)) = true →
      True ∧
        True ∧
          True ∧
            True ∧
              ((0 : Int) ≤ t113 ∧ t113 < (↑(4 : Nat) : Int)) ∧
                (t113.toNat * (1 : Nat) + (0 : Nat) = plus (0 : Nat) (t113.toNat * (1 : Nat)) ∧ t113.toNat < (4 : Nat) ∧ True) ∧
                  True ∧
                    ((0 : Int) ≤ t113 ∧ t113 < (↑(4 : Nat) : Int)) ∧
                      (t113.toNat * (1 : Nat) + (0 : Nat) = plus (0 : Nat) (t113.toNat * (1 : Nat)) ∧ (t113.toNat < (4 : Nat) ∧ True) ∧ True) ∧
                        True ∧
                          True ∧
                            ((True ∧
                                  Sub (AV.sc (Value.int IntKind.i64 at_)) (AV.sc (Value.int IntKind.i64 at_)) ∧
                                    True ∧
                                      Sub (AV.pt (1000 : Nat) [] (0 : Nat)) (AV.pt (1000 : Nat) [] (0 : Nat)) ∧
                                        True ∧
                                          Sub (AV.pt (1001 : Nat) [] (0 : Nat)) (AV.pt (1001 : Nat) [] (0 : Nat)) ∧
                                            True ∧
                                              Sub (AV.sc (Value.int IntKind.i64 (IntKind.i64.wrap (t113 + (1 : Int)))))
                                                  (AV.sc (Value.int IntKind.i64 (IntKind.i64.wrap (t113 + (1 : Int))))) ∧
                                                True) ∧
                                True ∧
                                  SubB (AV.ar (4 : Nat) (1 : Nat) fun (i0 : Nat) => AV.sc (Value.int IntKind.u64 (b0f i0)))
                                      (AV.ar (4 : Nat) (1 : Nat) fun (i0 : Nat) => AV.sc (Value.int IntKind.u64 (b0f i0))) ∧
                                    True ∧
                                      SubB
                                          (AV.ar (4 : Nat) (1 : Nat) fun (i : Nat) =>
                                            AV.sc
                                              (Value.int IntKind.u64
                                                (bif i.beq t113.toNat then
                                                  IntKind.u64.wrap
                                                    (↑(BitVec.ofInt IntKind.u64.bits (if IntKind.u64.signed = true then (-1 : Int) else IntKind.u64.max) ^^^
                                                            BitVec.ofInt IntKind.u64.bits (b1f t113.toNat)).toNat :
                                                      Int)
                                                else b1f i)))
                                          (AV.ar (4 : Nat) (1 : Nat) fun (i0 : Nat) =>
                                            AV.sc
                                              (Value.int IntKind.u64
                                                (bif i0.beq t113.toNat then
                                                  IntKind.u64.wrap
                                                    (↑(BitVec.ofInt IntKind.u64.bits (if IntKind.u64.signed = true then (-1 : Int) else IntKind.u64.max) ^^^
                                                            BitVec.ofInt IntKind.u64.bits (b1f t113.toNat)).toNat :
                                                      Int)
                                                else b1f i0))) ∧
                                        True) ∧
                              L104_4 at_ (IntKind.i64.wrap (t113 + (1 : Int))) b0f
                                (fun (i : Nat) =>
                                  bif i.beq t113.toNat then
                                    IntKind.u64.wrap
                                      (↑(BitVec.ofInt IntKind.u64.bits (if IntKind.u64.signed = true then (-1 : Int) else IntKind.u64.max) ^^^
                                              BitVec.ofInt IntKind.u64.bits (b1f t113.toNat)).toNat :
                                        Int)
                                  else b1f i)
                                res) ∧
    (decide (t113 < (4 : Int)) = false →
      ((True ∧
            Sub (AV.sc (Value.int IntKind.i64 at_)) (AV.sc (Value.int IntKind.i64 at_)) ∧
              True ∧
                Sub (AV.pt (1000 : Nat) [] (0 : Nat)) (AV.pt (1000 : Nat) [] (0 : Nat)) ∧
                  True ∧ Sub (AV.pt (1001 : Nat) [] (0 : Nat)) (AV.pt (1001 : Nat) [] (0 : Nat)) ∧ True) ∧
          True ∧
            SubB (AV.ar (4 : Nat) (1 : Nat) fun (i0 : Nat) => AV.sc (Value.int IntKind.u64 (b0f i0)))
                (AV.ar (4 : Nat) (1 : Nat) fun (i0 : Nat) => AV.sc (Value.int IntKind.u64 (b0f i0))) ∧
              True ∧
                SubB (AV.ar (4 : Nat) (1 : Nat) fun (i0 : Nat) => AV.sc (Value.int IntKind.u64 (b1f i0)))
                    (AV.ar (4 : Nat) (1 : Nat) fun (i0 : Nat) => AV.sc (Value.int IntKind.u64 (b1f i0))) ∧
                  True) ∧
        L104_5 at_ b0f b1f res) from
    ⟨trivial, (And.elim (fun h1 k1 => ⟨(fun x2 => (fun h2 => ⟨trivial, ⟨trivial, ⟨trivial, ⟨trivial, (And.elim (fun h7 k7 => ⟨(And.elim (fun h8 k8 => ⟨h8, k8⟩) h7), (And.elim (fun h8 k8 => ⟨⟨rfl, ⟨h8, trivial⟩⟩, ⟨trivial, (And.elim (fun h10 k10 => ⟨(And.elim (fun h11 k11 => ⟨h11, k11⟩) h10), (And.elim (fun h11 k11 => ⟨⟨rfl, ⟨⟨h11, trivial⟩, trivial⟩⟩, ⟨trivial, ⟨trivial, ⟨⟨⟨trivial, ⟨Sub.refl _, ⟨trivial, ⟨Sub.refl _, ⟨trivial, ⟨Sub.refl _, ⟨trivial, ⟨Sub.refl _, trivial⟩⟩⟩⟩⟩⟩⟩⟩, ⟨trivial, ⟨SubB.refl _, ⟨trivial, ⟨SubB.refl _, trivial⟩⟩⟩⟩⟩, k11⟩⟩⟩⟩) k10)⟩) k8)⟩⟩) k7)⟩) h2)⟩⟩⟩⟩) (h1 x2)), (fun x2 => (fun h2 => ⟨⟨⟨trivial, ⟨Sub.refl _, ⟨trivial, ⟨Sub.refl _, ⟨trivial, ⟨Sub.refl _, trivial⟩⟩⟩⟩⟩⟩, ⟨trivial, ⟨SubB.refl _, ⟨trivial, ⟨SubB.refl _, trivial⟩⟩⟩⟩⟩, h2⟩) (k1 x2))⟩) h)⟩)
theorem r104_5 (at_ : Int) (b0f : Nat → Int) (b1f : Nat → Int) (res : AV)
    (h : Sub
  (AV.cons (1 : Nat) (AV.ar (4 : Nat) (1 : Nat) fun (i0 : Nat) => AV.sc (Value.int IntKind.u64 (b1f i0)))
      (AV.cons (1 : Nat) (AV.sc (Value.int IntKind.i64 (IntKind.i64.wrap (at_ + (1 : Int))))) (AV.cons (1 : Nat) (AV.sc (Value.bool true)) AV.nil))).tup
  res) :
    L104_5 at_ b0f b1f res :=
  rule Go.Am.Seat.tabOk 104 [] Go.Proofs.Try.f104 hf104 [1, 1, 1, 1, 1, 1, 1, 1, 1] (s104_5 at_ b0f b1f) (m104_5 at_ b0f b1f) res [] 400
    (Orc.fin
  (AV.cons (1 : Nat) (AV.ar (4 : Nat) (1 : Nat) fun (i0 : Nat) => AV.sc (Value.int IntKind.u64 (b1f i0)))
      (AV.cons (1 : Nat) (AV.sc (Value.int IntKind.i64 (IntKind.i64.wrap (at_ + (1 : Int))))) (AV.cons (1 : Nat) (AV.sc (Value.bool true)) AV.nil))).tup
  [] []) _ _ (by kernel_rfl) (by kernel_rfl) (show ((0 : Nat) = (0 : Nat) ∧ True) ∧
  True ∧
    True ∧
      ((0 : Nat) = (0 : Nat) ∧ True) ∧
        True ∧
          True ∧
            (((0 : Nat) = (0 : Nat) ∧ True) ∧ True ∧ True ∧ True) ∧
              (((True ∧ True ∧ True ∧ True) ∧
                    Sub
                        (AV.cons (1 : Nat) (AV.ar (4 : Nat) (1 : Nat) fun (i0 : Nat) => AV.sc (Value.int IntKind.u64 (b1f i0)))
                            (AV.cons (1 : Nat) (AV.sc (Value.int IntKind.i64 (IntKind.i64.wrap (at_ + (1 : Int)))))
                              (AV.cons (1 : Nat) (AV.sc (Value.bool true)) AV.nil))).tup
                        (AV.cons (1 : Nat) (AV.ar (4 : Nat) (1 : Nat) fun (i0 : Nat) => AV.sc (Value.int IntKind.u64 (b1f i0)))
                            (AV.cons (1 : Nat) (AV.sc (Value.int IntKind.i64 (IntKind.i64.wrap (at_ + (1 : Int)))))
                              (AV.cons (1 : Nat) (AV.sc (Value.bool true)) AV.nil))).tup ∧
                      True) ∧
                  True) ∧
                Sub
                    (AV.cons (1 : Nat) (AV.ar (4 : Nat) (1 : Nat) fun (i0 : Nat) => AV.sc (Value.int IntKind.u64 (b1f i0)))
                        (AV.cons (1 : Nat) (AV.sc (Value.int IntKind.i64 (IntKind.i64.wrap (at_ + (1 : Int)))))
                          (AV.cons (1 : Nat) (AV.sc (Value.bool true)) AV.nil))).tup
                    res ∧
                  SubOut [] [] from
    ⟨⟨rfl, trivial⟩, ⟨trivial, ⟨trivial, ⟨⟨rfl, trivial⟩, ⟨trivial, ⟨trivial, ⟨⟨⟨rfl, trivial⟩, ⟨trivial, ⟨trivial, trivial⟩⟩⟩, ⟨⟨⟨⟨trivial, ⟨trivial, ⟨trivial, trivial⟩⟩⟩, ⟨Sub.refl _, trivial⟩⟩, trivial⟩, ⟨h, trivial⟩⟩⟩⟩⟩⟩⟩⟩⟩)
theorem hf112 : Go.Proofs.Try.prog.funcs[112]? = some Go.Proofs.Try.f112 := by kernel_rfl
abbrev s112_e (b : Int) : List (Nat × AV) := [(0, (.sc (.int .u8 b)))]
abbrev m112_e (b : Int) : List (Nat × Nat × AV) := []
def L112_e (b : Int) (res : AV) : Prop := Goes ⟨Go.Proofs.Try.prog, 112, [], res, []⟩ (place Go.Proofs.Try.f112 []) (s112_e b) (m112_e b)
theorem a112_e (b : Int) (res : AV) (h : (∀ slot, fact (look .undef (s112_e b) slot)) → L112_e b res) : L112_e b res :=
  assumeRule 112 [] Go.Proofs.Try.f112 hf112 [] (s112_e b) (m112_e b) res [] _ (by kernel_rfl) h
theorem o112 (b : Int) (res : AV) (hnew : newOnly res) (h : L112_e b res) : Ok Go.Proofs.Try.prog 112 [(.sc (.int .u8 b))] [] res [] :=
  okRule2 112 Go.Proofs.Try.f112 hf112 [(.sc (.int .u8 b))] [] res [] [] rfl (by kernel_rfl) (by kernel_rfl) (by kernel_rfl) ⟨hnew, by simp⟩ (L112_e b res) (by kernel_rfl) h
theorem r112_e (b : Int) (res : AV)
    (h : ((b == (92 : Int)) = false →
    ((b == (91 : Int)) = false →
        ((b == (93 : Int)) = false →
            ((b == (94 : Int)) = false → Sub (AV.sc (Value.bool (b == (45 : Int)))) res) ∧ ((b == (94 : Int)) = !false → Sub (AV.sc (Value.bool true)) res)) ∧
          ((b == (93 : Int)) = !false → Sub (AV.sc (Value.bool true)) res)) ∧
      ((b == (91 : Int)) = !false → Sub (AV.sc (Value.bool true)) res)) ∧
  ((b == (92 : Int)) = !false → Sub (AV.sc (Value.bool true)) res)) :
    L112_e b res :=
  rule Go.Am.Seat.tabOk 112 [] Go.Proofs.Try.f112 hf112 [] (s112_e b) (m112_e b) res [] 400
    (((((Orc.fin (AV.sc (Value.bool (bif false then true else b == (45 : Int)))) [] []).yes.br (Orc.fin (AV.sc (Value.bool true)) [] []).no).yes.br
              (Orc.fin (AV.sc (Value.bool true)) [] []).no.no.no).yes.br
        (Orc.fin (AV.sc (Value.bool true)) [] []).no.no.no.no.no).yes.br
  (Orc.fin (AV.sc (Value.bool true)) [] []).no.no.no.no.no.no.no) _ _ (by kernel_rfl) (by kernel_rfl) (show True ∧
  True ∧
    True ∧
      True ∧
        ((b == (92 : Int)) = false →
            True ∧
              false = false ∧
                True ∧
                  True ∧
                    True ∧
                      ((b == (91 : Int)) = false →
                          True ∧
                            false = false ∧
                              True ∧
                                True ∧
                                  True ∧
                                    ((b == (93 : Int)) = false →
                                        True ∧
                                          false = false ∧
                                            True ∧
                                              True ∧
                                                True ∧
                                                  ((b == (94 : Int)) = false →
                                                      True ∧
                                                        false = false ∧
                                                          True ∧
                                                            True ∧
                                                              True ∧
                                                                True ∧
                                                                  ((True ∧
                                                                        Sub (AV.sc (Value.bool (b == (45 : Int)))) (AV.sc (Value.bool (b == (45 : Int)))) ∧
                                                                          True) ∧
                                                                      True) ∧
                                                                    Sub (AV.sc (Value.bool (b == (45 : Int)))) res ∧ SubOut [] []) ∧
                                                    ((b == (94 : Int)) = !false →
                                                      true = true ∧
                                                        (!false) = !false ∧
                                                          true = true ∧
                                                            True ∧
                                                              True ∧
                                                                True ∧
                                                                  ((True ∧ Sub (AV.sc (Value.bool true)) (AV.sc (Value.bool true)) ∧ True) ∧ True) ∧
                                                                    Sub (AV.sc (Value.bool true)) res ∧ SubOut [] [])) ∧
                                      ((b == (93 : Int)) = !false →
                                        true = true ∧
                                          (!false) = !false ∧
                                            true = true ∧
                                              True ∧
                                                True ∧
                                                  true = !false ∧
                                                    true = true ∧
                                                      (!false) = !false ∧
                                                        true = true ∧
                                                          True ∧
                                                            True ∧
                                                              True ∧
                                                                ((True ∧ Sub (AV.sc (Value.bool true)) (AV.sc (Value.bool true)) ∧ True) ∧ True) ∧
                                                                  Sub (AV.sc (Value.bool true)) res ∧ SubOut [] [])) ∧
                        ((b == (91 : Int)) = !false →
                          true = true ∧
                            (!false) = !false ∧
                              true = true ∧
                                True ∧
                                  True ∧
                                    true = !false ∧
                                      true = true ∧
                                        (!false) = !false ∧
                                          true = true ∧
                                            True ∧
                                              True ∧
                                                true = !false ∧
                                                  true = true ∧
                                                    (!false) = !false ∧
                                                      true = true ∧
                                                        True ∧
                                                          True ∧
                                                            True ∧
                                                              ((True ∧ Sub (AV.sc (Value.bool true)) (AV.sc (Value.bool true)) ∧ True) ∧ True) ∧
                                                                Sub (AV.sc (Value.bool true)) res ∧ SubOut [] [])) ∧
          ((b == (92 : Int)) = !false →
            true = true ∧
              (!false) = !false ∧
                true = true ∧
                  True ∧
                    True ∧
                      true = !false ∧
                        true = true ∧
                          (!false) = !false ∧
                            true = true ∧
                              True ∧
                                True ∧
                                  true = !false ∧
                                    true = true ∧
                                      (!false) = !false ∧
                                        true = true ∧
                                          True ∧
                                            True ∧
                                              true = !false ∧
                                                true = true ∧
                                                  (!false) = !false ∧
                                                    true = true ∧
                                                      True ∧
                                                        True ∧
                                                          True ∧
                                                            ((True ∧ Sub (AV.sc (Value.bool true)) (AV.sc (Value.bool true)) ∧ True) ∧ True) ∧
                                                              Sub (AV.sc (Value.bool true)) res ∧ SubOut [] []) from
    ⟨trivial, ⟨trivial, ⟨trivial, ⟨trivial, (And.elim (fun h4 k4 => ⟨(fun x5 => (fun h5 => ⟨trivial, ⟨rfl, ⟨trivial, ⟨trivial, ⟨trivial, (And.elim (fun h11 k11 => ⟨(fun x12 => (fun h12 => ⟨trivial, ⟨rfl, ⟨trivial, ⟨trivial, ⟨trivial, (And.elim (fun h18 k18 => ⟨(fun x19 => (fun h19 => ⟨trivial, ⟨rfl, ⟨trivial, ⟨trivial, ⟨trivial, (And.elim (fun h25 k25 => ⟨(fun x26 => (fun h26 => ⟨trivial, ⟨rfl, ⟨trivial, ⟨trivial, ⟨trivial, ⟨trivial, ⟨⟨⟨trivial, ⟨Sub.refl _, trivial⟩⟩, trivial⟩, ⟨h26, trivial⟩⟩⟩⟩⟩⟩⟩⟩) (h25 x26)), (fun x26 => (fun h26 => ⟨rfl, ⟨rfl, ⟨rfl, ⟨trivial, ⟨trivial, ⟨trivial, ⟨⟨⟨trivial, ⟨Sub.refl _, trivial⟩⟩, trivial⟩, ⟨h26, trivial⟩⟩⟩⟩⟩⟩⟩⟩) (k25 x26))⟩) h19)⟩⟩⟩⟩⟩) (h18 x19)), (fun x19 => (fun h19 => ⟨rfl, ⟨rfl, ⟨rfl, ⟨trivial, ⟨trivial, ⟨rfl, ⟨rfl, ⟨rfl, ⟨rfl, ⟨trivial, ⟨trivial, ⟨trivial, ⟨⟨⟨trivial, ⟨Sub.refl _, trivial⟩⟩, trivial⟩, ⟨h19, trivial⟩⟩⟩⟩⟩⟩⟩⟩⟩⟩⟩⟩⟩⟩) (k18 x19))⟩) h12)⟩⟩⟩⟩⟩) (h11 x12)), (fun x12 => (fun h12 => ⟨rfl, ⟨rfl, ⟨rfl, ⟨trivial, ⟨trivial, ⟨rfl, ⟨rfl, ⟨rfl, ⟨rfl, ⟨trivial, ⟨trivial, ⟨rfl, ⟨rfl, ⟨rfl, ⟨rfl, ⟨trivial, ⟨trivial, ⟨trivial, ⟨⟨⟨trivial, ⟨Sub.refl _, trivial⟩⟩, trivial⟩, ⟨h12, trivial⟩⟩⟩⟩⟩⟩⟩⟩⟩⟩⟩⟩⟩⟩⟩⟩⟩⟩⟩⟩) (k11 x12))⟩) h5)⟩⟩⟩⟩⟩) (h4 x5)), (fun x5 => (fun h5 => ⟨rfl, ⟨rfl, ⟨rfl, ⟨trivial, ⟨trivial, ⟨rfl, ⟨rfl, ⟨rfl, ⟨rfl, ⟨trivial, ⟨trivial, ⟨rfl, ⟨rfl, ⟨rfl, ⟨rfl, ⟨trivial, ⟨trivial, ⟨rfl, ⟨rfl, ⟨rfl, ⟨rfl, ⟨trivial, ⟨trivial, ⟨trivial, ⟨⟨⟨trivial, ⟨Sub.refl _, trivial⟩⟩, trivial⟩, ⟨h5, trivial⟩⟩⟩⟩⟩⟩⟩⟩⟩⟩⟩⟩⟩⟩⟩⟩⟩⟩⟩⟩⟩⟩⟩⟩⟩⟩) (k4 x5))⟩) h)⟩⟩⟩⟩)
end Go.Am.Seat
