/- The rules of 6 functions: from what is owed at each place of a function the function goes on as it is told there. Printed by a program of this seat; Lean checks each. -/
import Derived.Test.YtpmgbnlenpgdoaaAmLawIndentSteps2
import Derived.Test.YtpmgbnlenpgdoaaTab
open Go Go.Am Go.Am.Seat
namespace Go.Am.Seat
set_option linter.unusedVariables false
set_option maxRecDepth 100000
theorem hf48 : Go.Proofs.Try.prog.funcs[48]? = some Go.Proofs.Try.f48 := by kernel_rfl
abbrev s48_e (tan : Nat) (taf : Nat → Int) (tba tbba : Int) (tbbba : Bool) (tbbbba : Int) (o : ByteArray) (Aa Aba Abba : Int) : List (Nat × AV) := [(0, (.cons 1 (.vec true 1 tan tan (fun i0 => (.sc (.int .i64 (taf i0))))) (.cons 1 (.sc (.int .i64 tba)) (.cons 1 (.sc (.int .i64 tbba)) (.cons 1 (.sc (.bool tbbba)) (.cons 1 (.sc (.int .i64 tbbbba)) .nil)))))), (1, (.sc (.string o))), (2, (.cons 1 (.sc (.int .i64 Aa)) (.cons 1 (.sc (.int .i64 Aba)) (.cons 1 (.sc (.int .i64 Abba)) .nil))))]
abbrev m48_e (tan : Nat) (taf : Nat → Int) (tba tbba : Int) (tbbba : Bool) (tbbbba : Int) (o : ByteArray) (Aa Aba Abba : Int) : List (Nat × Nat × AV) := []
def L48_e (tan : Nat) (taf : Nat → Int) (tba tbba : Int) (tbbba : Bool) (tbbbba : Int) (o : ByteArray) (Aa Aba Abba : Int) (res : AV) : Prop := Goes ⟨Go.Proofs.Try.prog, 48, [], res, []⟩ (place Go.Proofs.Try.f48 []) (s48_e tan taf tba tbba tbbba tbbbba o Aa Aba Abba) (m48_e tan taf tba tbba tbbba tbbbba o Aa Aba Abba)
abbrev s48_0 (b0ba b0bba : Int) (b0bbba : Bool) (b0bbbba : Int) (b1an : Nat) (b1af : Nat → Int) (b1ba b1bba : Int) (b1bbba : Bool) (b1bbbba : Int) : List (Nat × AV) := [(6, (.pt 1000 [] 0)), (8, (.pt 1001 [] 0))]
abbrev m48_0 (b0ba b0bba : Int) (b0bbba : Bool) (b0bbbba : Int) (b1an : Nat) (b1af : Nat → Int) (b1ba b1bba : Int) (b1bbba : Bool) (b1bbbba : Int) : List (Nat × Nat × AV) := [(1000, 64, (.cons 1 (.sc (.slice none 0 0)) (.cons 1 (.sc (.int .i64 b0ba)) (.cons 1 (.sc (.int .i64 b0bba)) (.cons 1 (.sc (.bool b0bbba)) (.cons 1 (.sc (.int .i64 b0bbbba)) .nil)))))), (1001, 64, (.cons 1 (.vec false 1 b1an b1an (fun i0 => (.sc (.int .i64 (b1af i0))))) (.cons 1 (.sc (.int .i64 b1ba)) (.cons 1 (.sc (.int .i64 b1bba)) (.cons 1 (.sc (.bool b1bbba)) (.cons 1 (.sc (.int .i64 b1bbbba)) .nil))))))]
def L48_0 (b0ba b0bba : Int) (b0bbba : Bool) (b0bbbba : Int) (b1an : Nat) (b1af : Nat → Int) (b1ba b1bba : Int) (b1bbba : Bool) (b1bbbba : Int) (res : AV) : Prop := Goes ⟨Go.Proofs.Try.prog, 48, [], res, []⟩ (place Go.Proofs.Try.f48 [1, 1, 1, 0, 0, 1, 0, 1, 1]) (s48_0 b0ba b0bba b0bbba b0bbbba b1an b1af b1ba b1bba b1bbba b1bbbba) (m48_0 b0ba b0bba b0bbba b0bbbba b1an b1af b1ba b1bba b1bbba b1bbbba)
abbrev s48_1 (b0ba b0bba : Int) (b0bbba : Bool) (b0bbbba : Int) (b1an : Nat) (b1af : Nat → Int) (b1ba b1bba : Int) (b1bbba : Bool) (b1bbbba : Int) : List (Nat × AV) := [(6, (.pt 1000 [] 0)), (8, (.pt 1001 [] 0))]
abbrev m48_1 (b0ba b0bba : Int) (b0bbba : Bool) (b0bbbba : Int) (b1an : Nat) (b1af : Nat → Int) (b1ba b1bba : Int) (b1bbba : Bool) (b1bbbba : Int) : List (Nat × Nat × AV) := [(1000, 64, (.cons 1 (.sc (.slice none 0 0)) (.cons 1 (.sc (.int .i64 b0ba)) (.cons 1 (.sc (.int .i64 b0bba)) (.cons 1 (.sc (.bool b0bbba)) (.cons 1 (.sc (.int .i64 b0bbbba)) .nil)))))), (1001, 64, (.cons 1 (.vec false 1 b1an b1an (fun i0 => (.sc (.int .i64 (b1af i0))))) (.cons 1 (.sc (.int .i64 b1ba)) (.cons 1 (.sc (.int .i64 b1bba)) (.cons 1 (.sc (.bool b1bbba)) (.cons 1 (.sc (.int .i64 b1bbbba)) .nil))))))]
def L48_1 (b0ba b0bba : Int) (b0bbba : Bool) (b0bbbba : Int) (b1an : Nat) (b1af : Nat → Int) (b1ba b1bba : Int) (b1bbba : Bool) (b1bbbba : Int) (res : AV) : Prop := Goes ⟨Go.Proofs.Try.prog, 48, [], res, []⟩ (place Go.Proofs.Try.f48 [1, 1, 1, 0, 0, 1, 1, 1, 1, 1, 1, 1, 0, 1, 1]) (s48_1 b0ba b0bba b0bbba b0bbbba b1an b1af b1ba b1bba b1bbba b1bbbba) (m48_1 b0ba b0bba b0bbba b0bbbba b1an b1af b1ba b1bba b1bbba b1bbbba)
abbrev s48_2 (t10n : Nat) (b0a b0ba b0bba b1ba b1bba : Int) (b1bbba : Bool) (b1bbbba : Int) (b2an : Nat) (b2ba b2bba : Int) (b2bbba : Bool) (b2bbbba : Int) (b3n : Nat) (b3fa b3fba b3fbba : Nat → Int) (b4n : Nat) (b4f : Nat → Int) : List (Nat × AV) := [(5, (.pt 1000 [] 0)), (6, (.pt 1001 [] 0)), (8, (.pt 1002 [] 0)), (10, (.rf 1003 3 0 t10n))]
abbrev m48_2 (t10n : Nat) (b0a b0ba b0bba b1ba b1bba : Int) (b1bbba : Bool) (b1bbbba : Int) (b2an : Nat) (b2ba b2bba : Int) (b2bbba : Bool) (b2bbbba : Int) (b3n : Nat) (b3fa b3fba b3fbba : Nat → Int) (b4n : Nat) (b4f : Nat → Int) : List (Nat × Nat × AV) := [(1000, 45, (.cons 1 (.sc (.int .i64 b0a)) (.cons 1 (.sc (.int .i64 b0ba)) (.cons 1 (.sc (.int .i64 b0bba)) .nil)))), (1001, 64, (.cons 1 (.sc (.slice none 0 0)) (.cons 1 (.sc (.int .i64 b1ba)) (.cons 1 (.sc (.int .i64 b1bba)) (.cons 1 (.sc (.bool b1bbba)) (.cons 1 (.sc (.int .i64 b1bbbba)) .nil)))))), (1002, 64, (.cons 1 (.rf 1004 1 0 b2an) (.cons 1 (.sc (.int .i64 b2ba)) (.cons 1 (.sc (.int .i64 b2bba)) (.cons 1 (.sc (.bool b2bbba)) (.cons 1 (.sc (.int .i64 b2bbbba)) .nil)))))), (1003, 81, (.ar b3n 3 (fun i0 => (.cons 1 (.sc (.int .i64 (b3fa i0))) (.cons 1 (.sc (.int .i64 (b3fba i0))) (.cons 1 (.sc (.int .i64 (b3fbba i0))) .nil)))))), (1004, 3, (.ar b4n 1 (fun i0 => (.sc (.int .i64 (b4f i0))))))]
def L48_2 (t10n : Nat) (b0a b0ba b0bba b1ba b1bba : Int) (b1bbba : Bool) (b1bbbba : Int) (b2an : Nat) (b2ba b2bba : Int) (b2bbba : Bool) (b2bbbba : Int) (b3n : Nat) (b3fa b3fba b3fbba : Nat → Int) (b4n : Nat) (b4f : Nat → Int) (res : AV) : Prop := Goes ⟨Go.Proofs.Try.prog, 48, [], res, []⟩ (place Go.Proofs.Try.f48 [1, 1, 1, 1, 1, 1, 1, 1, 1, 1, 1, 1]) (s48_2 t10n b0a b0ba b0bba b1ba b1bba b1bbba b1bbbba b2an b2ba b2bba b2bbba b2bbbba b3n b3fa b3fba b3fbba b4n b4f) (m48_2 t10n b0a b0ba b0bba b1ba b1bba b1bbba b1bbbba b2an b2ba b2bba b2bbba b2bbbba b3n b3fa b3fba b3fbba b4n b4f)
abbrev s48_3 (t10n : Nat) (b0ba b0bba : Int) (b0bbba : Bool) (b0bbbba : Int) (b1an : Nat) (b1ba b1bba : Int) (b1bbba : Bool) (b1bbbba : Int) (b2n : Nat) (b2fa b2fba b2fbba : Nat → Int) (b3n : Nat) (b3f : Nat → Int) : List (Nat × AV) := [(6, (.pt 1000 [] 0)), (8, (.pt 1001 [] 0)), (10, (.rf 1002 3 0 t10n))]
abbrev m48_3 (t10n : Nat) (b0ba b0bba : Int) (b0bbba : Bool) (b0bbbba : Int) (b1an : Nat) (b1ba b1bba : Int) (b1bbba : Bool) (b1bbbba : Int) (b2n : Nat) (b2fa b2fba b2fbba : Nat → Int) (b3n : Nat) (b3f : Nat → Int) : List (Nat × Nat × AV) := [(1000, 64, (.cons 1 (.sc (.slice none 0 0)) (.cons 1 (.sc (.int .i64 b0ba)) (.cons 1 (.sc (.int .i64 b0bba)) (.cons 1 (.sc (.bool b0bbba)) (.cons 1 (.sc (.int .i64 b0bbbba)) .nil)))))), (1001, 64, (.cons 1 (.rf 1003 1 0 b1an) (.cons 1 (.sc (.int .i64 b1ba)) (.cons 1 (.sc (.int .i64 b1bba)) (.cons 1 (.sc (.bool b1bbba)) (.cons 1 (.sc (.int .i64 b1bbbba)) .nil)))))), (1002, 81, (.ar b2n 3 (fun i0 => (.cons 1 (.sc (.int .i64 (b2fa i0))) (.cons 1 (.sc (.int .i64 (b2fba i0))) (.cons 1 (.sc (.int .i64 (b2fbba i0))) .nil)))))), (1003, 3, (.ar b3n 1 (fun i0 => (.sc (.int .i64 (b3f i0))))))]
def L48_3 (t10n : Nat) (b0ba b0bba : Int) (b0bbba : Bool) (b0bbbba : Int) (b1an : Nat) (b1ba b1bba : Int) (b1bbba : Bool) (b1bbbba : Int) (b2n : Nat) (b2fa b2fba b2fbba : Nat → Int) (b3n : Nat) (b3f : Nat → Int) (res : AV) : Prop := Goes ⟨Go.Proofs.Try.prog, 48, [], res, []⟩ (place Go.Proofs.Try.f48 [1, 1, 1, 1, 1, 1, 1, 1, 1, 1, 1, 1, 1]) (s48_3 t10n b0ba b0bba b0bbba b0bbbba b1an b1ba b1bba b1bbba b1bbbba b2n b2fa b2fba b2fbba b3n b3f) (m48_3 t10n b0ba b0bba b0bbba b0bbbba b1an b1ba b1bba b1bbba b1bbbba b2n b2fa b2fba b2fbba b3n b3f)
theorem o48 (tan : Nat) (taf : Nat → Int) (tba tbba : Int) (tbbba : Bool) (tbbbba : Int) (o : ByteArray) (Aa Aba Abba : Int) (res : AV) (hnew : newOnly res) (h : L48_e tan taf tba tbba tbbba tbbbba o Aa Aba Abba res) : Ok Go.Proofs.Try.prog 48 [(.cons 1 (.vec true 1 tan tan (fun i0 => (.sc (.int .i64 (taf i0))))) (.cons 1 (.sc (.int .i64 tba)) (.cons 1 (.sc (.int .i64 tbba)) (.cons 1 (.sc (.bool tbbba)) (.cons 1 (.sc (.int .i64 tbbbba)) .nil))))), (.sc (.string o)), (.cons 1 (.sc (.int .i64 Aa)) (.cons 1 (.sc (.int .i64 Aba)) (.cons 1 (.sc (.int .i64 Abba)) .nil)))] [] res [] :=
 okRule2 48 Go.Proofs.Try.f48 hf48 [(.cons 1 (.vec true 1 tan tan (fun i0 => (.sc (.int .i64 (taf i0))))) (.cons 1 (.sc (.int .i64 tba)) (.cons 1 (.sc (.int .i64 tbba)) (.cons 1 (.sc (.bool tbbba)) (.cons 1 (.sc (.int .i64 tbbbba)) .nil))))), (.sc (.string o)), (.cons 1 (.sc (.int .i64 Aa)) (.cons 1 (.sc (.int .i64 Aba)) (.cons 1 (.sc (.int .i64 Abba)) .nil)))] [] res [] [] rfl (by kernel_rfl) (by kernel_rfl) (by kernel_rfl) ⟨hnew, by simp⟩ (L48_e tan taf tba tbba tbbba tbbbba o Aa Aba Abba res) (by kernel_rfl) h
theorem r48_e (tan : Nat) (taf : Nat → Int) (tba tbba : Int) (tbbba : Bool) (tbbbba : Int) (o : ByteArray) (Aa Aba Abba : Int) (res : AV)
 (h : ∃ (r : Bool),
 Ok Proofs.Try.prog (72 : Nat)
 [.cons 1 (.vec true 1 tan tan fun (i : Nat) => .sc (.int .i64 (taf i)))
 (.cons 1 (.sc (.int .i64 tba))
 (.cons 1 (.sc (.int .i64 tbba))
 (.cons 1 (.sc (.bool tbbba)) (.cons 1 (.sc (.int .i64 tbbbba)) .nil))))]
 [] (.sc (.bool r)) [] ∧
 ((!r) = false →
 (decide (Aba < (1 : Int)) = false →
 (((↑o.size : Int) != Aba) = false →
 (decide (Aba > IntKind.i64.wrap ((65536 : Int) - tbbbba)) = true →
 Sub
 (AV.cons 1
 (.cons 1 (.sc (.slice none (0 : Nat) (0 : Nat)))
 (.cons 1 (.sc (.int .i64 (0 : Int)))
 (.cons 1 (.sc (.int .i64 (0 : Int)))
 (.cons 1 (.sc (.bool false)) (.cons 1 (.sc (.int .i64 (0 : Int))) .nil)))))
 (.cons 1 (.sc (.slice none (0 : Nat) (0 : Nat))) .nil)).tup
 res) ∧
 (decide (Aba > IntKind.i64.wrap ((65536 : Int) - tbbbba)) = false →
 ∃ (r : Nat × (Nat → Int) × Int × Int × Bool × Int),
 Ok Proofs.Try.prog (77 : Nat)
 [.cons 1 (.vec true 1 tan tan fun (i : Nat) => .sc (.int .i64 (taf i)))
 (.cons 1 (.sc (.int .i64 tba))
 (.cons 1 (.sc (.int .i64 tbba))
 (.cons 1 (.sc (.bool tbbba)) (.cons 1 (.sc (.int .i64 tbbbba)) .nil))))]
 []
 (.cons 1 (.vec false 1 r.1 r.1 fun (i0 : Nat) => .sc (.int .i64 (r.2.1 i0)))
 (.cons 1 (.sc (.int .i64 r.2.2.1))
 (.cons 1 (.sc (.int .i64 r.2.2.2.1))
 (.cons 1 (.sc (.bool r.2.2.2.2.1))
 (.cons 1 (.sc (.int .i64 r.2.2.2.2.2)) .nil)))))
 [] ∧
 ((Aa == (25 : Int)) = true →
 (tbbba = true →
 ((tba == (0 : Int)) = true →
 ∃ (r_1 : Int),
 Ok Proofs.Try.prog (79 : Nat) [.sc (.int .i64 tbba), .sc (.string o)] []
 (.sc (.int .i64 r_1)) [] ∧
 L48_0 (0 : Int) (0 : Int) false (0 : Int) r.1 r.2.1 r.2.2.1 r_1 r.2.2.2.2.1
 (IntKind.i64.wrap (tbbbba + Aba)) res) ∧
 ((tba == (0 : Int)) = false →
 L48_0 (0 : Int) (0 : Int) false (0 : Int) r.1 r.2.1 r.2.2.1 r.2.2.2.1 r.2.2.2.2.1
 (IntKind.i64.wrap (tbbbba + Aba)) res)) ∧
 (tbbba = !true →
 L48_0 (0 : Int) (0 : Int) false (0 : Int) r.1 r.2.1 r.2.2.1 r.2.2.2.1 r.2.2.2.2.1
 (IntKind.i64.wrap (tbbbba + Aba)) res)) ∧
 ((Aa == (25 : Int)) = false →
 ((Aa == (26 : Int)) = false →
 ((Aa == (27 : Int)) = true →
 Sub
 (AV.cons 1
 (.cons 1 (.vec false 1 r.1 r.1 fun (i0 : Nat) => .sc (.int .i64 (r.2.1 i0)))
 (.cons 1 (.sc (.int .i64 r.2.2.1))
 (.cons 1 (.sc (.int .i64 r.2.2.2.1))
 (.cons 1 (.sc (.bool r.2.2.2.2.1))
 (.cons 1 (.sc (.int .i64 (IntKind.i64.wrap (tbbbba + Aba)))) .nil)))))
 (.cons 1 (.sc (.slice none (0 : Nat) (0 : Nat))) .nil)).tup
 res) ∧
 ((Aa == (27 : Int)) = false →
 ((Aa == (19 : Int)) = true →
 ((!tbbba) = true →
 ((tba == (0 : Int)) = true →
 (0 : Nat) + (1 : Nat) ≤ (1 : Nat) ∧
 Sub
 (AV.cons 1
 (.cons 1
 (.vec false 1 r.1 r.1 fun (i0 : Nat) => .sc (.int .i64 (r.2.1 i0)))
 (.cons 1 (.sc (.int .i64 r.2.2.1))
 (.cons 1 (.sc (.int .i64 (0 : Int)))
 (.cons 1 (.sc (.bool true))
 (.cons 1 (.sc (.int .i64 (0 : Int))) .nil)))))
 (.cons 1
 (.vec false 3 1 1 fun (i : Nat) =>
 .cons 1 (.sc (.int .i64 (19 : Int)))
 (.cons 1 (.sc (.int .i64 tbbbba))
 (.cons 1 (.sc (.int .i64 Aba)) .nil)))
 .nil)).tup
 res) ∧
 ((tba == (0 : Int)) = false →
 ((Aa == (19 : Int)) = true →
 ((tba == (0 : Int)) = true →
 L48_1 (0 : Int) (0 : Int) false (0 : Int) r.1 r.2.1 r.2.2.1 (0 : Int) r.2.2.2.2.1
 (IntKind.i64.wrap (tbbbba + Aba)) res) ∧
 ((tba == (0 : Int)) = false →
 L48_1 (0 : Int) (0 : Int) false (0 : Int) r.1 r.2.1 r.2.2.1 r.2.2.2.1
 r.2.2.2.2.1 (IntKind.i64.wrap (tbbbba + Aba)) res)) ∧
 ((Aa == (19 : Int)) = false →
 ∃ (r_1 : Nat × Nat × Nat × (Nat → Int) × Nat × (Nat → Int) × (Nat → Int) × (Nat → Int)),
 Ok Proofs.Try.prog (80 : Nat)
 [.cons 1
 (.vec true 1 tan tan fun (i : Nat) => .sc (.int .i64 (taf i)))
 (.cons 1 (.sc (.int .i64 tba))
 (.cons 1 (.sc (.int .i64 tbba))
 (.cons 1 (.sc (.bool tbbba))
 (.cons 1 (.sc (.int .i64 tbbbba)) .nil))))]
 []
 (AV.cons 1 (.rf 1000 1 0 r_1.1)
 (.cons 1 (.rf 1001 3 0 r_1.2.1) .nil)).tup
 [((1000 : Nat), (3 : Nat),
 .ar r_1.2.2.1 (1 : Nat) fun (i0 : Nat) =>
 .sc (.int .i64 (r_1.2.2.2.1 i0))),
 ((1001 : Nat), (81 : Nat),
 .ar r_1.2.2.2.2.1 (3 : Nat) fun (i0 : Nat) =>
 .cons 1 (.sc (.int .i64 (r_1.2.2.2.2.2.1 i0)))
 (.cons 1 (.sc (.int .i64 (r_1.2.2.2.2.2.2.1 i0)))
 (.cons 1 (.sc (.int .i64 (r_1.2.2.2.2.2.2.2 i0)))
 .nil)))] ∧
 (r_1.2.1 ≤ r_1.2.2.2.2.1 ∧
 (0 : Nat) + (1 : Nat) ≤ (1 : Nat) ∧
 (r_1.2.1 + (1 : Nat)) * (24 : Nat) ≤ (140737488355328 : Nat) ∧
 r_1.2.1 + (1 : Nat) ≤ maxLen) ∧
 ((0 : Int) ≤ (0 : Int) ∧ (0 : Int) < (↑(r_1.2.1 + (1 : Nat)) : Int)) ∧
 plus (0 : Nat) (Int.toNat (0 : Int)) < r_1.2.1 + (1 : Nat) ∧
 ((Aa == (9 : Int)) = true →
 (decide (r.2.2.1 < (65536 : Int)) = true →
 L48_2 (r_1.2.1 + (1 : Nat)) Aa Aba Abba (0 : Int) (0 : Int) false (0 : Int) r_1.1
 (IntKind.i64.wrap (r.2.2.1 + (1 : Int))) (0 : Int) false (0 : Int)
 (r_1.2.1 + (1 : Nat))
 (fun (i : Nat) =>
 bif i.beq (plus (0 : Nat) (Int.toNat (0 : Int))) then
 bif (plus (0 : Nat) (Int.toNat (0 : Int))).blt r_1.2.1 then
 r_1.2.2.2.2.2.1 (plus (0 : Nat) (Int.toNat (0 : Int)))
 else Aa
 else bif i.blt r_1.2.1 then r_1.2.2.2.2.2.1 i else Aa)
 (fun (i : Nat) =>
 bif i.beq (plus (0 : Nat) (Int.toNat (0 : Int))) then tbbbba
 else bif i.blt r_1.2.1 then r_1.2.2.2.2.2.2.1 i else (0 : Int))
 (fun (i : Nat) =>
 bif i.beq (plus (0 : Nat) (Int.toNat (0 : Int))) then
 bif (plus (0 : Nat) (Int.toNat (0 : Int))).blt r_1.2.1 then
 r_1.2.2.2.2.2.2.2 (plus (0 : Nat) (Int.toNat (0 : Int)))
 else Aba
 else bif i.blt r_1.2.1 then r_1.2.2.2.2.2.2.2 i else Aba)
 r_1.2.2.1 r_1.2.2.2.1 res) ∧
 (decide (r.2.2.1 < (65536 : Int)) = false →
 L48_2 (r_1.2.1 + (1 : Nat)) Aa Aba Abba (0 : Int) (0 : Int) false (0 : Int) r_1.1
 r.2.2.1 (0 : Int) false (0 : Int) (r_1.2.1 + (1 : Nat))
 (fun (i : Nat) =>
 bif i.beq (plus (0 : Nat) (Int.toNat (0 : Int))) then
 bif (plus (0 : Nat) (Int.toNat (0 : Int))).blt r_1.2.1 then
 r_1.2.2.2.2.2.1 (plus (0 : Nat) (Int.toNat (0 : Int)))
 else Aa
 else bif i.blt r_1.2.1 then r_1.2.2.2.2.2.1 i else Aa)
 (fun (i : Nat) =>
 bif i.beq (plus (0 : Nat) (Int.toNat (0 : Int))) then tbbbba
 else bif i.blt r_1.2.1 then r_1.2.2.2.2.2.2.1 i else (0 : Int))
 (fun (i : Nat) =>
 bif i.beq (plus (0 : Nat) (Int.toNat (0 : Int))) then
 bif (plus (0 : Nat) (Int.toNat (0 : Int))).blt r_1.2.1 then
 r_1.2.2.2.2.2.2.2 (plus (0 : Nat) (Int.toNat (0 : Int)))
 else Aba
 else bif i.blt r_1.2.1 then r_1.2.2.2.2.2.2.2 i else Aba)
 r_1.2.2.1 r_1.2.2.2.1 res)) ∧
 ((Aa == (9 : Int)) = !true →
 L48_2 (r_1.2.1 + (1 : Nat)) Aa Aba Abba (0 : Int) (0 : Int) false (0 : Int) r_1.1
 r.2.2.1 (0 : Int) false (0 : Int) (r_1.2.1 + (1 : Nat))
 (fun (i : Nat) =>
 bif i.beq (plus (0 : Nat) (Int.toNat (0 : Int))) then
 bif (plus (0 : Nat) (Int.toNat (0 : Int))).blt r_1.2.1 then
 r_1.2.2.2.2.2.1 (plus (0 : Nat) (Int.toNat (0 : Int)))
 else Aa
 else bif i.blt r_1.2.1 then r_1.2.2.2.2.2.1 i else Aa)
 (fun (i : Nat) =>
 bif i.beq (plus (0 : Nat) (Int.toNat (0 : Int))) then tbbbba
 else bif i.blt r_1.2.1 then r_1.2.2.2.2.2.2.1 i else (0 : Int))
 (fun (i : Nat) =>
 bif i.beq (plus (0 : Nat) (Int.toNat (0 : Int))) then
 bif (plus (0 : Nat) (Int.toNat (0 : Int))).blt r_1.2.1 then
 r_1.2.2.2.2.2.2.2 (plus (0 : Nat) (Int.toNat (0 : Int)))
 else Aba
 else bif i.blt r_1.2.1 then r_1.2.2.2.2.2.2.2 i else Aba)
 r_1.2.2.1 r_1.2.2.2.1 res)))) ∧
 ((!tbbba) = !true →
 ((Aa == (19 : Int)) = true →
 ((tba == (0 : Int)) = true →
 L48_1 (0 : Int) (0 : Int) false (0 : Int) r.1 r.2.1 r.2.2.1 (0 : Int) r.2.2.2.2.1
 (IntKind.i64.wrap (tbbbba + Aba)) res) ∧
 ((tba == (0 : Int)) = false →
 L48_1 (0 : Int) (0 : Int) false (0 : Int) r.1 r.2.1 r.2.2.1 r.2.2.2.1
 r.2.2.2.2.1 (IntKind.i64.wrap (tbbbba + Aba)) res)) ∧
 ((Aa == (19 : Int)) = false →
 ∃ (r_1 : Nat × Nat × Nat × (Nat → Int) × Nat × (Nat → Int) × (Nat → Int) × (Nat → Int)),
 Ok Proofs.Try.prog (80 : Nat)
 [.cons 1 (.vec true 1 tan tan fun (i : Nat) => .sc (.int .i64 (taf i)))
 (.cons 1 (.sc (.int .i64 tba))
 (.cons 1 (.sc (.int .i64 tbba))
 (.cons 1 (.sc (.bool tbbba))
 (.cons 1 (.sc (.int .i64 tbbbba)) .nil))))]
 []
 (AV.cons 1 (.rf 1000 1 0 r_1.1)
 (.cons 1 (.rf 1001 3 0 r_1.2.1) .nil)).tup
 [((1000 : Nat), (3 : Nat),
 .ar r_1.2.2.1 (1 : Nat) fun (i0 : Nat) =>
 .sc (.int .i64 (r_1.2.2.2.1 i0))),
 ((1001 : Nat), (81 : Nat),
 .ar r_1.2.2.2.2.1 (3 : Nat) fun (i0 : Nat) =>
 .cons 1 (.sc (.int .i64 (r_1.2.2.2.2.2.1 i0)))
 (.cons 1 (.sc (.int .i64 (r_1.2.2.2.2.2.2.1 i0)))
 (.cons 1 (.sc (.int .i64 (r_1.2.2.2.2.2.2.2 i0)))
 .nil)))] ∧
 (r_1.2.1 ≤ r_1.2.2.2.2.1 ∧
 (0 : Nat) + (1 : Nat) ≤ (1 : Nat) ∧
 (r_1.2.1 + (1 : Nat)) * (24 : Nat) ≤ (140737488355328 : Nat) ∧ r_1.2.1 + (1 : Nat) ≤ maxLen) ∧
 ((0 : Int) ≤ (0 : Int) ∧ (0 : Int) < (↑(r_1.2.1 + (1 : Nat)) : Int)) ∧
 plus (0 : Nat) (Int.toNat (0 : Int)) < r_1.2.1 + (1 : Nat) ∧
 ((Aa == (9 : Int)) = true →
 (decide (r.2.2.1 < (65536 : Int)) = true →
 L48_2 (r_1.2.1 + (1 : Nat)) Aa Aba Abba (0 : Int) (0 : Int) false (0 : Int) r_1.1
 (IntKind.i64.wrap (r.2.2.1 + (1 : Int))) (0 : Int) false (0 : Int)
 (r_1.2.1 + (1 : Nat))
 (fun (i : Nat) =>
 bif i.beq (plus (0 : Nat) (Int.toNat (0 : Int))) then
 bif (plus (0 : Nat) (Int.toNat (0 : Int))).blt r_1.2.1 then
 r_1.2.2.2.2.2.1 (plus (0 : Nat) (Int.toNat (0 : Int)))
 else Aa
 else bif i.blt r_1.2.1 then r_1.2.2.2.2.2.1 i else Aa)
 (fun (i : Nat) =>
 bif i.beq (plus (0 : Nat) (Int.toNat (0 : Int))) then tbbbba
 else bif i.blt r_1.2.1 then r_1.2.2.2.2.2.2.1 i else (0 : Int))
 (fun (i : Nat) =>
 bif i.beq (plus (0 : Nat) (Int.toNat (0 : Int))) then
 bif (plus (0 : Nat) (Int.toNat (0 : Int))).blt r_1.2.1 then
 r_1.2.2.2.2.2.2.2 (plus (0 : Nat) (Int.toNat (0 : Int)))
 else Aba
 else bif i.blt r_1.2.1 then r_1.2.2.2.2.2.2.2 i else Aba)
 r_1.2.2.1 r_1.2.2.2.1 res) ∧
 (decide (r.2.2.1 < (65536 : Int)) = false →
 L48_2 (r_1.2.1 + (1 : Nat)) Aa Aba Abba (0 : Int) (0 : Int) false (0 : Int) r_1.1
 r.2.2.1 (0 : Int) false (0 : Int) (r_1.2.1 + (1 : Nat))
 (fun (i : Nat) =>
 bif i.beq (plus (0 : Nat) (Int.toNat (0 : Int))) then
 bif (plus (0 : Nat) (Int.toNat (0 : Int))).blt r_1.2.1 then
 r_1.2.2.2.2.2.1 (plus (0 : Nat) (Int.toNat (0 : Int)))
 else Aa
 else bif i.blt r_1.2.1 then r_1.2.2.2.2.2.1 i else Aa)
 (fun (i : Nat) =>
 bif i.beq (plus (0 : Nat) (Int.toNat (0 : Int))) then tbbbba
 else bif i.blt r_1.2.1 then r_1.2.2.2.2.2.2.1 i else (0 : Int))
 (fun (i : Nat) =>
 bif i.beq (plus (0 : Nat) (Int.toNat (0 : Int))) then
 bif (plus (0 : Nat) (Int.toNat (0 : Int))).blt r_1.2.1 then
 r_1.2.2.2.2.2.2.2 (plus (0 : Nat) (Int.toNat (0 : Int)))
 else Aba
 else bif i.blt r_1.2.1 then r_1.2.2.2.2.2.2.2 i else Aba)
 r_1.2.2.1 r_1.2.2.2.1 res)) ∧
 ((Aa == (9 : Int)) = !true →
 L48_2 (r_1.2.1 + (1 : Nat)) Aa Aba Abba (0 : Int) (0 : Int) false (0 : Int) r_1.1
 r.2.2.1 (0 : Int) false (0 : Int) (r_1.2.1 + (1 : Nat))
 (fun (i : Nat) =>
 bif i.beq (plus (0 : Nat) (Int.toNat (0 : Int))) then
 bif (plus (0 : Nat) (Int.toNat (0 : Int))).blt r_1.2.1 then
 r_1.2.2.2.2.2.1 (plus (0 : Nat) (Int.toNat (0 : Int)))
 else Aa
 else bif i.blt r_1.2.1 then r_1.2.2.2.2.2.1 i else Aa)
 (fun (i : Nat) =>
 bif i.beq (plus (0 : Nat) (Int.toNat (0 : Int))) then tbbbba
 else bif i.blt r_1.2.1 then r_1.2.2.2.2.2.2.1 i else (0 : Int))
 (fun (i : Nat) =>
 bif i.beq (plus (0 : Nat) (Int.toNat (0 : Int))) then
 bif (plus (0 : Nat) (Int.toNat (0 : Int))).blt r_1.2.1 then
 r_1.2.2.2.2.2.2.2 (plus (0 : Nat) (Int.toNat (0 : Int)))
 else Aba
 else bif i.blt r_1.2.1 then r_1.2.2.2.2.2.2.2 i else Aba)
 r_1.2.2.1 r_1.2.2.2.1 res)))) ∧
 ((Aa == (19 : Int)) = !true →
 ((Aa == (19 : Int)) = true →
 ((tba == (0 : Int)) = true →
 L48_1 (0 : Int) (0 : Int) false (0 : Int) r.1 r.2.1 r.2.2.1 (0 : Int) r.2.2.2.2.1
 (IntKind.i64.wrap (tbbbba + Aba)) res) ∧
 ((tba == (0 : Int)) = false →
 L48_1 (0 : Int) (0 : Int) false (0 : Int) r.1 r.2.1 r.2.2.1 r.2.2.2.1 r.2.2.2.2.1
 (IntKind.i64.wrap (tbbbba + Aba)) res)) ∧
 ((Aa == (19 : Int)) = false →
 ∃ (r_1 : Nat × Nat × Nat × (Nat → Int) × Nat × (Nat → Int) × (Nat → Int) × (Nat → Int)),
 Ok Proofs.Try.prog (80 : Nat)
 [.cons 1 (.vec true 1 tan tan fun (i : Nat) => .sc (.int .i64 (taf i)))
 (.cons 1 (.sc (.int .i64 tba))
 (.cons 1 (.sc (.int .i64 tbba))
 (.cons 1 (.sc (.bool tbbba))
 (.cons 1 (.sc (.int .i64 tbbbba)) .nil))))]
 []
 (AV.cons 1 (.rf 1000 1 0 r_1.1)
 (.cons 1 (.rf 1001 3 0 r_1.2.1) .nil)).tup
 [((1000 : Nat), (3 : Nat),
 .ar r_1.2.2.1 (1 : Nat) fun (i0 : Nat) => .sc (.int .i64 (r_1.2.2.2.1 i0))),
 ((1001 : Nat), (81 : Nat),
 .ar r_1.2.2.2.2.1 (3 : Nat) fun (i0 : Nat) =>
 .cons 1 (.sc (.int .i64 (r_1.2.2.2.2.2.1 i0)))
 (.cons 1 (.sc (.int .i64 (r_1.2.2.2.2.2.2.1 i0)))
 (.cons 1 (.sc (.int .i64 (r_1.2.2.2.2.2.2.2 i0))) .nil)))] ∧
 (r_1.2.1 ≤ r_1.2.2.2.2.1 ∧
 (0 : Nat) + (1 : Nat) ≤ (1 : Nat) ∧
 (r_1.2.1 + (1 : Nat)) * (24 : Nat) ≤ (140737488355328 : Nat) ∧ r_1.2.1 + (1 : Nat) ≤ maxLen) ∧
 ((0 : Int) ≤ (0 : Int) ∧ (0 : Int) < (↑(r_1.2.1 + (1 : Nat)) : Int)) ∧
 plus (0 : Nat) (Int.toNat (0 : Int)) < r_1.2.1 + (1 : Nat) ∧
 ((Aa == (9 : Int)) = true →
 (decide (r.2.2.1 < (65536 : Int)) = true →
 L48_2 (r_1.2.1 + (1 : Nat)) Aa Aba Abba (0 : Int) (0 : Int) false (0 : Int) r_1.1
 (IntKind.i64.wrap (r.2.2.1 + (1 : Int))) (0 : Int) false (0 : Int)
 (r_1.2.1 + (1 : Nat))
 (fun (i : Nat) =>
 bif i.beq (plus (0 : Nat) (Int.toNat (0 : Int))) then
 bif (plus (0 : Nat) (Int.toNat (0 : Int))).blt r_1.2.1 then
 r_1.2.2.2.2.2.1 (plus (0 : Nat) (Int.toNat (0 : Int)))
 else Aa
 else bif i.blt r_1.2.1 then r_1.2.2.2.2.2.1 i else Aa)
 (fun (i : Nat) =>
 bif i.beq (plus (0 : Nat) (Int.toNat (0 : Int))) then tbbbba
 else bif i.blt r_1.2.1 then r_1.2.2.2.2.2.2.1 i else (0 : Int))
 (fun (i : Nat) =>
 bif i.beq (plus (0 : Nat) (Int.toNat (0 : Int))) then
 bif (plus (0 : Nat) (Int.toNat (0 : Int))).blt r_1.2.1 then
 r_1.2.2.2.2.2.2.2 (plus (0 : Nat) (Int.toNat (0 : Int)))
 else Aba
 else bif i.blt r_1.2.1 then r_1.2.2.2.2.2.2.2 i else Aba)
 r_1.2.2.1 r_1.2.2.2.1 res) ∧
 (decide (r.2.2.1 < (65536 : Int)) = false →
 L48_2 (r_1.2.1 + (1 : Nat)) Aa Aba Abba (0 : Int) (0 : Int) false (0 : Int) r_1.1
 r.2.2.1 (0 : Int) false (0 : Int) (r_1.2.1 + (1 : Nat))
 (fun (i : Nat) =>
 bif i.beq (plus (0 : Nat) (Int.toNat (0 : Int))) then
 bif (plus (0 : Nat) (Int.toNat (0 : Int))).blt r_1.2.1 then
 r_1.2.2.2.2.2.1 (plus (0 : Nat) (Int.toNat (0 : Int)))
 else Aa
 else bif i.blt r_1.2.1 then r_1.2.2.2.2.2.1 i else Aa)
 (fun (i : Nat) =>
 bif i.beq (plus (0 : Nat) (Int.toNat (0 : Int))) then tbbbba
 else bif i.blt r_1.2.1 then r_1.2.2.2.2.2.2.1 i else (0 : Int))
 (fun (i : Nat) =>
 bif i.beq (plus (0 : Nat) (Int.toNat (0 : Int))) then
 bif (plus (0 : Nat) (Int.toNat (0 : Int))).blt r_1.2.1 then
 r_1.2.2.2.2.2.2.2 (plus (0 : Nat) (Int.toNat (0 : Int)))
 else Aba
 else bif i.blt r_1.2.1 then r_1.2.2.2.2.2.2.2 i else Aba)
 r_1.2.2.1 r_1.2.2.2.1 res)) ∧
 ((Aa == (9 : Int)) = !true →
 L48_2 (r_1.2.1 + (1 : Nat)) Aa Aba Abba (0 : Int) (0 : Int) false (0 : Int) r_1.1 r.2.2.1
 (0 : Int) false (0 : Int) (r_1.2.1 + (1 : Nat))
 (fun (i : Nat) =>
 bif i.beq (plus (0 : Nat) (Int.toNat (0 : Int))) then
 bif (plus (0 : Nat) (Int.toNat (0 : Int))).blt r_1.2.1 then
 r_1.2.2.2.2.2.1 (plus (0 : Nat) (Int.toNat (0 : Int)))
 else Aa
 else bif i.blt r_1.2.1 then r_1.2.2.2.2.2.1 i else Aa)
 (fun (i : Nat) =>
 bif i.beq (plus (0 : Nat) (Int.toNat (0 : Int))) then tbbbba
 else bif i.blt r_1.2.1 then r_1.2.2.2.2.2.2.1 i else (0 : Int))
 (fun (i : Nat) =>
 bif i.beq (plus (0 : Nat) (Int.toNat (0 : Int))) then
 bif (plus (0 : Nat) (Int.toNat (0 : Int))).blt r_1.2.1 then
 r_1.2.2.2.2.2.2.2 (plus (0 : Nat) (Int.toNat (0 : Int)))
 else Aba
 else bif i.blt r_1.2.1 then r_1.2.2.2.2.2.2.2 i else Aba)
 r_1.2.2.1 r_1.2.2.2.1 res))))) ∧
 ((Aa == (26 : Int)) = !false →
 Sub
 (AV.cons 1
 (.cons 1 (.vec false 1 r.1 r.1 fun (i0 : Nat) => .sc (.int .i64 (r.2.1 i0)))
 (.cons 1 (.sc (.int .i64 r.2.2.1))
 (.cons 1 (.sc (.int .i64 r.2.2.2.1))
 (.cons 1 (.sc (.bool r.2.2.2.2.1))
 (.cons 1 (.sc (.int .i64 (IntKind.i64.wrap (tbbbba + Aba)))) .nil)))))
 (.cons 1 (.sc (.slice none (0 : Nat) (0 : Nat))) .nil)).tup
 res)))) ∧
 (((↑o.size : Int) != Aba) = !false →
 Sub
 (AV.cons 1
 (.cons 1 (.sc (.slice none (0 : Nat) (0 : Nat)))
 (.cons 1 (.sc (.int .i64 (0 : Int)))
 (.cons 1 (.sc (.int .i64 (0 : Int)))
 (.cons 1 (.sc (.bool false)) (.cons 1 (.sc (.int .i64 (0 : Int))) .nil)))))
 (.cons 1 (.sc (.slice none (0 : Nat) (0 : Nat))) .nil)).tup
 res)) ∧
 (decide (Aba < (1 : Int)) = !false →
 Sub
 (AV.cons 1
 (.cons 1 (.sc (.slice none (0 : Nat) (0 : Nat)))
 (.cons 1 (.sc (.int .i64 (0 : Int)))
 (.cons 1 (.sc (.int .i64 (0 : Int)))
 (.cons 1 (.sc (.bool false)) (.cons 1 (.sc (.int .i64 (0 : Int))) .nil)))))
 (.cons 1 (.sc (.slice none (0 : Nat) (0 : Nat))) .nil)).tup
 res)) ∧
 ((!r) = !false →
 Sub
 (AV.cons 1
 (.cons 1 (.sc (.slice none (0 : Nat) (0 : Nat)))
 (.cons 1 (.sc (.int .i64 (0 : Int)))
 (.cons 1 (.sc (.int .i64 (0 : Int)))
 (.cons 1 (.sc (.bool false)) (.cons 1 (.sc (.int .i64 (0 : Int))) .nil)))))
 (.cons 1 (.sc (.slice none (0 : Nat) (0 : Nat))) .nil)).tup
 res)) :
 L48_e tan taf tba tbba tbbba tbbbba o Aa Aba Abba res :=
 rule Go.Am.Seat.tabOk 48 [] Go.Proofs.Try.f48 hf48 [] (s48_e tan taf tba tbba tbbba tbbbba o Aa Aba Abba) (m48_e tan taf tba tbba tbbba tbbbba o Aa Aba Abba) res [] 400
 (Orc.call [] [] (fun (r72 : Bool) => .sc (.bool r72)) (fun (r72 : Bool) => []) fun (r72 : Bool) =>
 ((((Orc.fin
 (AV.cons 1
 (.cons 1 (.sc (.slice none (0 : Nat) (0 : Nat)))
 (.cons 1 (.sc (.int .i64 (0 : Int)))
 (.cons 1 (.sc (.int .i64 (0 : Int)))
 (.cons 1 (.sc (.bool false))
 (.cons 1 (.sc (.int .i64 (0 : Int))) .nil)))))
 (.cons 1 (.sc (.slice none (0 : Nat) (0 : Nat))) .nil)).tup
 [] []).br
 (Orc.call [] []
 (fun (r77 : Nat × (Nat → Int) × Int × Int × Bool × Int) =>
 .cons 1
 (.vec false 1 r77.1 r77.1 fun (i0 : Nat) => .sc (.int .i64 (r77.2.1 i0)))
 (.cons 1 (.sc (.int .i64 r77.2.2.1))
 (.cons 1 (.sc (.int .i64 r77.2.2.2.1))
 (.cons 1 (.sc (.bool r77.2.2.2.2.1))
 (.cons 1 (.sc (.int .i64 r77.2.2.2.2.2)) .nil)))))
 (fun (r77 : Nat × (Nat → Int) × Int × Int × Bool × Int) => []) fun (r77 : Nat × (Nat → Int) × Int × Int × Bool × Int) =>
 (((Orc.call [] [] (fun (r79 : Int) => .sc (.int .i64 r79)) (fun (r79 : Int) => []) fun (r79 : Int) =>
 Orc.cut (nat_lit 0)
 (s48_0 (0 : Int) (0 : Int) false (0 : Int) r77.1 r77.2.1 r77.2.2.1 r79
 r77.2.2.2.2.1 (IntKind.i64.wrap (tbbbba + Aba)))
 (m48_0 (0 : Int) (0 : Int) false (0 : Int) r77.1 r77.2.1 r77.2.2.1 r79
 r77.2.2.2.2.1 (IntKind.i64.wrap (tbbbba + Aba)))
 [((1000 : Nat), some (6 : Nat)), ((1001 : Nat), some (8 : Nat))]).br
 (Orc.cut (nat_lit 1)
 (s48_0 (0 : Int) (0 : Int) false (0 : Int) r77.1 r77.2.1 r77.2.2.1 r77.2.2.2.1
 r77.2.2.2.2.1 (IntKind.i64.wrap (tbbbba + Aba)))
 (m48_0 (0 : Int) (0 : Int) false (0 : Int) r77.1 r77.2.1 r77.2.2.1 r77.2.2.2.1
 r77.2.2.2.2.1 (IntKind.i64.wrap (tbbbba + Aba)))
 [((1000 : Nat), some (6 : Nat)), ((1001 : Nat), some (8 : Nat))])).yes.yes.br
 (Orc.cut (nat_lit 1)
 (s48_0 (0 : Int) (0 : Int) false (0 : Int) r77.1 r77.2.1 r77.2.2.1 r77.2.2.2.1
 r77.2.2.2.2.1 (IntKind.i64.wrap (tbbbba + Aba)))
 (m48_0 (0 : Int) (0 : Int) false (0 : Int) r77.1 r77.2.1 r77.2.2.1 r77.2.2.2.1
 r77.2.2.2.2.1 (IntKind.i64.wrap (tbbbba + Aba)))
 [((1000 : Nat), some (6 : Nat)), ((1001 : Nat), some (8 : Nat))]).no.no.no).br
 (((Orc.fin
 (AV.cons 1
 (.cons 1
 (.vec false 1 r77.1 r77.1 fun (i0 : Nat) =>
 .sc (.int .i64 (r77.2.1 i0)))
 (.cons 1 (.sc (.int .i64 r77.2.2.1))
 (.cons 1 (.sc (.int .i64 r77.2.2.2.1))
 (.cons 1 (.sc (.bool r77.2.2.2.2.1))
 (.cons 1 (.sc (.int .i64 (IntKind.i64.wrap (tbbbba + Aba))))
 .nil)))))
 (.cons 1 (.sc (.slice none (0 : Nat) (0 : Nat))) .nil)).tup
 [] []).br
 ((((Orc.fin
 (AV.cons 1
 (.cons 1
 (.vec false 1 r77.1 r77.1 fun (i0 : Nat) =>
 .sc (.int .i64 (r77.2.1 i0)))
 (.cons 1 (.sc (.int .i64 r77.2.2.1))
 (.cons 1 (.sc (.int .i64 (0 : Int)))
 (.cons 1 (.sc (.bool true))
 (.cons 1 (.sc (.int .i64 (0 : Int))) .nil)))))
 (.cons 1
 (.vec false 3 1 1 fun (i : Nat) =>
 .cons 1 (.sc (.int .i64 (19 : Int)))
 (.cons 1 (.sc (.int .i64 tbbbba))
 (.cons 1 (.sc (.int .i64 Aba)) .nil)))
 .nil)).tup
 [] []).br
 (((Orc.cut (nat_lit 1)
 (s48_1 (0 : Int) (0 : Int) false (0 : Int) r77.1 r77.2.1 r77.2.2.1
 (0 : Int) r77.2.2.2.2.1 (IntKind.i64.wrap (tbbbba + Aba)))
 (m48_1 (0 : Int) (0 : Int) false (0 : Int) r77.1 r77.2.1 r77.2.2.1
 (0 : Int) r77.2.2.2.2.1 (IntKind.i64.wrap (tbbbba + Aba)))
 [((1000 : Nat), some (6 : Nat)), ((1001 : Nat), some (8 : Nat))]).br
 (Orc.cut (nat_lit 1)
 (s48_1 (0 : Int) (0 : Int) false (0 : Int) r77.1 r77.2.1 r77.2.2.1
 r77.2.2.2.1 r77.2.2.2.2.1 (IntKind.i64.wrap (tbbbba + Aba)))
 (m48_1 (0 : Int) (0 : Int) false (0 : Int) r77.1 r77.2.1 r77.2.2.1
 r77.2.2.2.1 r77.2.2.2.2.1 (IntKind.i64.wrap (tbbbba + Aba)))
 [((1000 : Nat), some (6 : Nat)), ((1001 : Nat), some (8 : Nat))])).br
 (Orc.call [] [((101170 : Nat), (1000 : Nat)), ((101171 : Nat), (1001 : Nat))]
 (fun
 (r80 :
 Nat ×
 Nat × Nat × (Nat → Int) × Nat × (Nat → Int) × (Nat → Int) × (Nat → Int)) =>
 (AV.cons 1 (.rf 1000 1 0 r80.1)
 (.cons 1 (.rf 1001 3 0 r80.2.1)
 .nil)).tup)
 (fun
 (r80 :
 Nat ×
 Nat × Nat × (Nat → Int) × Nat × (Nat → Int) × (Nat → Int) × (Nat → Int)) =>
 [((1000 : Nat), (3 : Nat),
 .ar r80.2.2.1 (1 : Nat) fun (i0 : Nat) =>
 .sc (.int .i64 (r80.2.2.2.1 i0))),
 ((1001 : Nat), (81 : Nat),
 .ar r80.2.2.2.2.1 (3 : Nat) fun (i0 : Nat) =>
 .cons 1
 (.sc (.int .i64 (r80.2.2.2.2.2.1 i0)))
 (.cons 1
 (.sc (.int .i64 (r80.2.2.2.2.2.2.1 i0)))
 (.cons 1
 (.sc (.int .i64 (r80.2.2.2.2.2.2.2 i0)))
 .nil)))])
 fun
 (r80 :
 Nat × Nat × Nat × (Nat → Int) × Nat × (Nat → Int) × (Nat → Int) × (Nat → Int)) =>
 ((Orc.cut (nat_lit 1)
 (s48_2 (r80.2.1 + (1 : Nat)) Aa Aba Abba (0 : Int) (0 : Int) false
 (0 : Int) r80.1 (IntKind.i64.wrap (r77.2.2.1 + (1 : Int)))
 (0 : Int) false (0 : Int) (r80.2.1 + (1 : Nat))
 (fun (i : Nat) =>
 bif i.beq (plus (0 : Nat) (Int.toNat (0 : Int))) then
 bif (plus (0 : Nat) (Int.toNat (0 : Int))).blt r80.2.1 then
 r80.2.2.2.2.2.1
 (plus (0 : Nat) (Int.toNat (0 : Int)))
 else Aa
 else
 bif i.blt r80.2.1 then r80.2.2.2.2.2.1 i else Aa)
 (fun (i : Nat) =>
 bif i.beq (plus (0 : Nat) (Int.toNat (0 : Int))) then tbbbba
 else
 bif i.blt r80.2.1 then r80.2.2.2.2.2.2.1 i
 else (0 : Int))
 (fun (i : Nat) =>
 bif i.beq (plus (0 : Nat) (Int.toNat (0 : Int))) then
 bif (plus (0 : Nat) (Int.toNat (0 : Int))).blt r80.2.1 then
 r80.2.2.2.2.2.2.2
 (plus (0 : Nat) (Int.toNat (0 : Int)))
 else Aba
 else
 bif i.blt r80.2.1 then r80.2.2.2.2.2.2.2 i
 else Aba)
 r80.2.2.1 r80.2.2.2.1)
 (m48_2 (r80.2.1 + (1 : Nat)) Aa Aba Abba (0 : Int) (0 : Int) false
 (0 : Int) r80.1 (IntKind.i64.wrap (r77.2.2.1 + (1 : Int)))
 (0 : Int) false (0 : Int) (r80.2.1 + (1 : Nat))
 (fun (i : Nat) =>
 bif i.beq (plus (0 : Nat) (Int.toNat (0 : Int))) then
 bif (plus (0 : Nat) (Int.toNat (0 : Int))).blt r80.2.1 then
 r80.2.2.2.2.2.1
 (plus (0 : Nat) (Int.toNat (0 : Int)))
 else Aa
 else
 bif i.blt r80.2.1 then r80.2.2.2.2.2.1 i else Aa)
 (fun (i : Nat) =>
 bif i.beq (plus (0 : Nat) (Int.toNat (0 : Int))) then tbbbba
 else
 bif i.blt r80.2.1 then r80.2.2.2.2.2.2.1 i
 else (0 : Int))
 (fun (i : Nat) =>
 bif i.beq (plus (0 : Nat) (Int.toNat (0 : Int))) then
 bif (plus (0 : Nat) (Int.toNat (0 : Int))).blt r80.2.1 then
 r80.2.2.2.2.2.2.2
 (plus (0 : Nat) (Int.toNat (0 : Int)))
 else Aba
 else
 bif i.blt r80.2.1 then r80.2.2.2.2.2.2.2 i
 else Aba)
 r80.2.2.1 r80.2.2.2.1)
 [((1000 : Nat), some (5 : Nat)), ((1001 : Nat), some (6 : Nat)),
 ((1002 : Nat), some (8 : Nat)), ((1003 : Nat), some (127 : Nat)),
 ((1004 : Nat), some (101170 : Nat))]).br
 (Orc.cut (nat_lit 1)
 (s48_2 (r80.2.1 + (1 : Nat)) Aa Aba Abba (0 : Int) (0 : Int) false
 (0 : Int) r80.1 r77.2.2.1 (0 : Int) false (0 : Int)
 (r80.2.1 + (1 : Nat))
 (fun (i : Nat) =>
 bif i.beq (plus (0 : Nat) (Int.toNat (0 : Int))) then
 bif (plus (0 : Nat) (Int.toNat (0 : Int))).blt r80.2.1 then
 r80.2.2.2.2.2.1 (plus (0 : Nat) (Int.toNat (0 : Int)))
 else Aa
 else bif i.blt r80.2.1 then r80.2.2.2.2.2.1 i else Aa)
 (fun (i : Nat) =>
 bif i.beq (plus (0 : Nat) (Int.toNat (0 : Int))) then tbbbba
 else
 bif i.blt r80.2.1 then r80.2.2.2.2.2.2.1 i
 else (0 : Int))
 (fun (i : Nat) =>
 bif i.beq (plus (0 : Nat) (Int.toNat (0 : Int))) then
 bif (plus (0 : Nat) (Int.toNat (0 : Int))).blt r80.2.1 then
 r80.2.2.2.2.2.2.2
 (plus (0 : Nat) (Int.toNat (0 : Int)))
 else Aba
 else
 bif i.blt r80.2.1 then r80.2.2.2.2.2.2.2 i
 else Aba)
 r80.2.2.1 r80.2.2.2.1)
 (m48_2 (r80.2.1 + (1 : Nat)) Aa Aba Abba (0 : Int) (0 : Int) false
 (0 : Int) r80.1 r77.2.2.1 (0 : Int) false (0 : Int)
 (r80.2.1 + (1 : Nat))
 (fun (i : Nat) =>
 bif i.beq (plus (0 : Nat) (Int.toNat (0 : Int))) then
 bif (plus (0 : Nat) (Int.toNat (0 : Int))).blt r80.2.1 then
 r80.2.2.2.2.2.1 (plus (0 : Nat) (Int.toNat (0 : Int)))
 else Aa
 else bif i.blt r80.2.1 then r80.2.2.2.2.2.1 i else Aa)
 (fun (i : Nat) =>
 bif i.beq (plus (0 : Nat) (Int.toNat (0 : Int))) then tbbbba
 else
 bif i.blt r80.2.1 then r80.2.2.2.2.2.2.1 i
 else (0 : Int))
 (fun (i : Nat) =>
 bif i.beq (plus (0 : Nat) (Int.toNat (0 : Int))) then
 bif (plus (0 : Nat) (Int.toNat (0 : Int))).blt r80.2.1 then
 r80.2.2.2.2.2.2.2
 (plus (0 : Nat) (Int.toNat (0 : Int)))
 else Aba
 else
 bif i.blt r80.2.1 then r80.2.2.2.2.2.2.2 i
 else Aba)
 r80.2.2.1 r80.2.2.2.1)
 [((1000 : Nat), some (5 : Nat)), ((1001 : Nat), some (6 : Nat)),
 ((1002 : Nat), some (8 : Nat)), ((1003 : Nat), some (127 : Nat)),
 ((1004 : Nat), some (101170 : Nat))])).yes.yes.br
 (Orc.cut (nat_lit 1)
 (s48_2 (r80.2.1 + (1 : Nat)) Aa Aba Abba (0 : Int) (0 : Int) false
 (0 : Int) r80.1 r77.2.2.1 (0 : Int) false (0 : Int)
 (r80.2.1 + (1 : Nat))
 (fun (i : Nat) =>
 bif i.beq (plus (0 : Nat) (Int.toNat (0 : Int))) then
 bif (plus (0 : Nat) (Int.toNat (0 : Int))).blt r80.2.1 then
 r80.2.2.2.2.2.1 (plus (0 : Nat) (Int.toNat (0 : Int)))
 else Aa
 else bif i.blt r80.2.1 then r80.2.2.2.2.2.1 i else Aa)
 (fun (i : Nat) =>
 bif i.beq (plus (0 : Nat) (Int.toNat (0 : Int))) then tbbbba
 else
 bif i.blt r80.2.1 then r80.2.2.2.2.2.2.1 i
 else (0 : Int))
 (fun (i : Nat) =>
 bif i.beq (plus (0 : Nat) (Int.toNat (0 : Int))) then
 bif (plus (0 : Nat) (Int.toNat (0 : Int))).blt r80.2.1 then
 r80.2.2.2.2.2.2.2
 (plus (0 : Nat) (Int.toNat (0 : Int)))
 else Aba
 else
 bif i.blt r80.2.1 then r80.2.2.2.2.2.2.2 i else Aba)
 r80.2.2.1 r80.2.2.2.1)
 (m48_2 (r80.2.1 + (1 : Nat)) Aa Aba Abba (0 : Int) (0 : Int) false
 (0 : Int) r80.1 r77.2.2.1 (0 : Int) false (0 : Int)
 (r80.2.1 + (1 : Nat))
 (fun (i : Nat) =>
 bif i.beq (plus (0 : Nat) (Int.toNat (0 : Int))) then
 bif (plus (0 : Nat) (Int.toNat (0 : Int))).blt r80.2.1 then
 r80.2.2.2.2.2.1 (plus (0 : Nat) (Int.toNat (0 : Int)))
 else Aa
 else bif i.blt r80.2.1 then r80.2.2.2.2.2.1 i else Aa)
 (fun (i : Nat) =>
 bif i.beq (plus (0 : Nat) (Int.toNat (0 : Int))) then tbbbba
 else
 bif i.blt r80.2.1 then r80.2.2.2.2.2.2.1 i
 else (0 : Int))
 (fun (i : Nat) =>
 bif i.beq (plus (0 : Nat) (Int.toNat (0 : Int))) then
 bif (plus (0 : Nat) (Int.toNat (0 : Int))).blt r80.2.1 then
 r80.2.2.2.2.2.2.2
 (plus (0 : Nat) (Int.toNat (0 : Int)))
 else Aba
 else
 bif i.blt r80.2.1 then r80.2.2.2.2.2.2.2 i else Aba)
 r80.2.2.1 r80.2.2.2.1)
 [((1000 : Nat), some (5 : Nat)), ((1001 : Nat), some (6 : Nat)),
 ((1002 : Nat), some (8 : Nat)), ((1003 : Nat), some (127 : Nat)),
 ((1004 : Nat), some (101170 : Nat))]).no.no.no))).yes.yes.br
 (((Orc.cut (nat_lit 1)
 (s48_1 (0 : Int) (0 : Int) false (0 : Int) r77.1 r77.2.1 r77.2.2.1
 (0 : Int) r77.2.2.2.2.1 (IntKind.i64.wrap (tbbbba + Aba)))
 (m48_1 (0 : Int) (0 : Int) false (0 : Int) r77.1 r77.2.1 r77.2.2.1
 (0 : Int) r77.2.2.2.2.1 (IntKind.i64.wrap (tbbbba + Aba)))
 [((1000 : Nat), some (6 : Nat)), ((1001 : Nat), some (8 : Nat))]).br
 (Orc.cut (nat_lit 1)
 (s48_1 (0 : Int) (0 : Int) false (0 : Int) r77.1 r77.2.1 r77.2.2.1
 r77.2.2.2.1 r77.2.2.2.2.1 (IntKind.i64.wrap (tbbbba + Aba)))
 (m48_1 (0 : Int) (0 : Int) false (0 : Int) r77.1 r77.2.1 r77.2.2.1
 r77.2.2.2.1 r77.2.2.2.2.1 (IntKind.i64.wrap (tbbbba + Aba)))
 [((1000 : Nat), some (6 : Nat)), ((1001 : Nat), some (8 : Nat))])).br
 (Orc.call [] [((101170 : Nat), (1000 : Nat)), ((101171 : Nat), (1001 : Nat))]
 (fun
 (r80 :
 Nat × Nat × Nat × (Nat → Int) × Nat × (Nat → Int) × (Nat → Int) × (Nat → Int)) =>
 (AV.cons 1 (.rf 1000 1 0 r80.1)
 (.cons 1 (.rf 1001 3 0 r80.2.1)
 .nil)).tup)
 (fun
 (r80 :
 Nat × Nat × Nat × (Nat → Int) × Nat × (Nat → Int) × (Nat → Int) × (Nat → Int)) =>
 [((1000 : Nat), (3 : Nat),
 .ar r80.2.2.1 (1 : Nat) fun (i0 : Nat) =>
 .sc (.int .i64 (r80.2.2.2.1 i0))),
 ((1001 : Nat), (81 : Nat),
 .ar r80.2.2.2.2.1 (3 : Nat) fun (i0 : Nat) =>
 .cons 1
 (.sc (.int .i64 (r80.2.2.2.2.2.1 i0)))
 (.cons 1
 (.sc (.int .i64 (r80.2.2.2.2.2.2.1 i0)))
 (.cons 1
 (.sc (.int .i64 (r80.2.2.2.2.2.2.2 i0)))
 .nil)))])
 fun
 (r80 :
 Nat × Nat × Nat × (Nat → Int) × Nat × (Nat → Int) × (Nat → Int) × (Nat → Int)) =>
 ((Orc.cut (nat_lit 1)
 (s48_2 (r80.2.1 + (1 : Nat)) Aa Aba Abba (0 : Int) (0 : Int) false
 (0 : Int) r80.1 (IntKind.i64.wrap (r77.2.2.1 + (1 : Int)))
 (0 : Int) false (0 : Int) (r80.2.1 + (1 : Nat))
 (fun (i : Nat) =>
 bif i.beq (plus (0 : Nat) (Int.toNat (0 : Int))) then
 bif (plus (0 : Nat) (Int.toNat (0 : Int))).blt r80.2.1 then
 r80.2.2.2.2.2.1 (plus (0 : Nat) (Int.toNat (0 : Int)))
 else Aa
 else bif i.blt r80.2.1 then r80.2.2.2.2.2.1 i else Aa)
 (fun (i : Nat) =>
 bif i.beq (plus (0 : Nat) (Int.toNat (0 : Int))) then tbbbba
 else
 bif i.blt r80.2.1 then r80.2.2.2.2.2.2.1 i
 else (0 : Int))
 (fun (i : Nat) =>
 bif i.beq (plus (0 : Nat) (Int.toNat (0 : Int))) then
 bif (plus (0 : Nat) (Int.toNat (0 : Int))).blt r80.2.1 then
 r80.2.2.2.2.2.2.2
 (plus (0 : Nat) (Int.toNat (0 : Int)))
 else Aba
 else
 bif i.blt r80.2.1 then r80.2.2.2.2.2.2.2 i
 else Aba)
 r80.2.2.1 r80.2.2.2.1)
 (m48_2 (r80.2.1 + (1 : Nat)) Aa Aba Abba (0 : Int) (0 : Int) false
 (0 : Int) r80.1 (IntKind.i64.wrap (r77.2.2.1 + (1 : Int)))
 (0 : Int) false (0 : Int) (r80.2.1 + (1 : Nat))
 (fun (i : Nat) =>
 bif i.beq (plus (0 : Nat) (Int.toNat (0 : Int))) then
 bif (plus (0 : Nat) (Int.toNat (0 : Int))).blt r80.2.1 then
 r80.2.2.2.2.2.1 (plus (0 : Nat) (Int.toNat (0 : Int)))
 else Aa
 else bif i.blt r80.2.1 then r80.2.2.2.2.2.1 i else Aa)
 (fun (i : Nat) =>
 bif i.beq (plus (0 : Nat) (Int.toNat (0 : Int))) then tbbbba
 else
 bif i.blt r80.2.1 then r80.2.2.2.2.2.2.1 i
 else (0 : Int))
 (fun (i : Nat) =>
 bif i.beq (plus (0 : Nat) (Int.toNat (0 : Int))) then
 bif (plus (0 : Nat) (Int.toNat (0 : Int))).blt r80.2.1 then
 r80.2.2.2.2.2.2.2
 (plus (0 : Nat) (Int.toNat (0 : Int)))
 else Aba
 else
 bif i.blt r80.2.1 then r80.2.2.2.2.2.2.2 i
 else Aba)
 r80.2.2.1 r80.2.2.2.1)
 [((1000 : Nat), some (5 : Nat)), ((1001 : Nat), some (6 : Nat)),
 ((1002 : Nat), some (8 : Nat)), ((1003 : Nat), some (127 : Nat)),
 ((1004 : Nat), some (101170 : Nat))]).br
 (Orc.cut (nat_lit 1)
 (s48_2 (r80.2.1 + (1 : Nat)) Aa Aba Abba (0 : Int) (0 : Int) false
 (0 : Int) r80.1 r77.2.2.1 (0 : Int) false (0 : Int)
 (r80.2.1 + (1 : Nat))
 (fun (i : Nat) =>
 bif i.beq (plus (0 : Nat) (Int.toNat (0 : Int))) then
 bif (plus (0 : Nat) (Int.toNat (0 : Int))).blt r80.2.1 then
 r80.2.2.2.2.2.1 (plus (0 : Nat) (Int.toNat (0 : Int)))
 else Aa
 else bif i.blt r80.2.1 then r80.2.2.2.2.2.1 i else Aa)
 (fun (i : Nat) =>
 bif i.beq (plus (0 : Nat) (Int.toNat (0 : Int))) then tbbbba
 else
 bif i.blt r80.2.1 then r80.2.2.2.2.2.2.1 i
 else (0 : Int))
 (fun (i : Nat) =>
 bif i.beq (plus (0 : Nat) (Int.toNat (0 : Int))) then
 bif (plus (0 : Nat) (Int.toNat (0 : Int))).blt r80.2.1 then
 r80.2.2.2.2.2.2.2
 (plus (0 : Nat) (Int.toNat (0 : Int)))
 else Aba
 else
 bif i.blt r80.2.1 then r80.2.2.2.2.2.2.2 i else Aba)
 r80.2.2.1 r80.2.2.2.1)
 (m48_2 (r80.2.1 + (1 : Nat)) Aa Aba Abba (0 : Int) (0 : Int) false
 (0 : Int) r80.1 r77.2.2.1 (0 : Int) false (0 : Int)
 (r80.2.1 + (1 : Nat))
 (fun (i : Nat) =>
 bif i.beq (plus (0 : Nat) (Int.toNat (0 : Int))) then
 bif (plus (0 : Nat) (Int.toNat (0 : Int))).blt r80.2.1 then
 r80.2.2.2.2.2.1 (plus (0 : Nat) (Int.toNat (0 : Int)))
 else Aa
 else bif i.blt r80.2.1 then r80.2.2.2.2.2.1 i else Aa)
 (fun (i : Nat) =>
 bif i.beq (plus (0 : Nat) (Int.toNat (0 : Int))) then tbbbba
 else
 bif i.blt r80.2.1 then r80.2.2.2.2.2.2.1 i
 else (0 : Int))
 (fun (i : Nat) =>
 bif i.beq (plus (0 : Nat) (Int.toNat (0 : Int))) then
 bif (plus (0 : Nat) (Int.toNat (0 : Int))).blt r80.2.1 then
 r80.2.2.2.2.2.2.2
 (plus (0 : Nat) (Int.toNat (0 : Int)))
 else Aba
 else
 bif i.blt r80.2.1 then r80.2.2.2.2.2.2.2 i else Aba)
 r80.2.2.1 r80.2.2.2.1)
 [((1000 : Nat), some (5 : Nat)), ((1001 : Nat), some (6 : Nat)),
 ((1002 : Nat), some (8 : Nat)), ((1003 : Nat), some (127 : Nat)),
 ((1004 : Nat), some (101170 : Nat))])).yes.yes.br
 (Orc.cut (nat_lit 1)
 (s48_2 (r80.2.1 + (1 : Nat)) Aa Aba Abba (0 : Int) (0 : Int) false
 (0 : Int) r80.1 r77.2.2.1 (0 : Int) false (0 : Int)
 (r80.2.1 + (1 : Nat))
 (fun (i : Nat) =>
 bif i.beq (plus (0 : Nat) (Int.toNat (0 : Int))) then
 bif (plus (0 : Nat) (Int.toNat (0 : Int))).blt r80.2.1 then
 r80.2.2.2.2.2.1 (plus (0 : Nat) (Int.toNat (0 : Int)))
 else Aa
 else bif i.blt r80.2.1 then r80.2.2.2.2.2.1 i else Aa)
 (fun (i : Nat) =>
 bif i.beq (plus (0 : Nat) (Int.toNat (0 : Int))) then tbbbba
 else
 bif i.blt r80.2.1 then r80.2.2.2.2.2.2.1 i
 else (0 : Int))
 (fun (i : Nat) =>
 bif i.beq (plus (0 : Nat) (Int.toNat (0 : Int))) then
 bif (plus (0 : Nat) (Int.toNat (0 : Int))).blt r80.2.1 then
 r80.2.2.2.2.2.2.2 (plus (0 : Nat) (Int.toNat (0 : Int)))
 else Aba
 else
 bif i.blt r80.2.1 then r80.2.2.2.2.2.2.2 i else Aba)
 r80.2.2.1 r80.2.2.2.1)
 (m48_2 (r80.2.1 + (1 : Nat)) Aa Aba Abba (0 : Int) (0 : Int) false
 (0 : Int) r80.1 r77.2.2.1 (0 : Int) false (0 : Int)
 (r80.2.1 + (1 : Nat))
 (fun (i : Nat) =>
 bif i.beq (plus (0 : Nat) (Int.toNat (0 : Int))) then
 bif (plus (0 : Nat) (Int.toNat (0 : Int))).blt r80.2.1 then
 r80.2.2.2.2.2.1 (plus (0 : Nat) (Int.toNat (0 : Int)))
 else Aa
 else bif i.blt r80.2.1 then r80.2.2.2.2.2.1 i else Aa)
 (fun (i : Nat) =>
 bif i.beq (plus (0 : Nat) (Int.toNat (0 : Int))) then tbbbba
 else
 bif i.blt r80.2.1 then r80.2.2.2.2.2.2.1 i
 else (0 : Int))
 (fun (i : Nat) =>
 bif i.beq (plus (0 : Nat) (Int.toNat (0 : Int))) then
 bif (plus (0 : Nat) (Int.toNat (0 : Int))).blt r80.2.1 then
 r80.2.2.2.2.2.2.2 (plus (0 : Nat) (Int.toNat (0 : Int)))
 else Aba
 else
 bif i.blt r80.2.1 then r80.2.2.2.2.2.2.2 i else Aba)
 r80.2.2.1 r80.2.2.2.1)
 [((1000 : Nat), some (5 : Nat)), ((1001 : Nat), some (6 : Nat)),
 ((1002 : Nat), some (8 : Nat)), ((1003 : Nat), some (127 : Nat)),
 ((1004 : Nat), some (101170 : Nat))]).no.no.no)).no.no.no).yes.yes.br
 (((Orc.cut (nat_lit 1)
 (s48_1 (0 : Int) (0 : Int) false (0 : Int) r77.1 r77.2.1 r77.2.2.1
 (0 : Int) r77.2.2.2.2.1 (IntKind.i64.wrap (tbbbba + Aba)))
 (m48_1 (0 : Int) (0 : Int) false (0 : Int) r77.1 r77.2.1 r77.2.2.1
 (0 : Int) r77.2.2.2.2.1 (IntKind.i64.wrap (tbbbba + Aba)))
 [((1000 : Nat), some (6 : Nat)), ((1001 : Nat), some (8 : Nat))]).br
 (Orc.cut (nat_lit 1)
 (s48_1 (0 : Int) (0 : Int) false (0 : Int) r77.1 r77.2.1 r77.2.2.1
 r77.2.2.2.1 r77.2.2.2.2.1 (IntKind.i64.wrap (tbbbba + Aba)))
 (m48_1 (0 : Int) (0 : Int) false (0 : Int) r77.1 r77.2.1 r77.2.2.1
 r77.2.2.2.1 r77.2.2.2.2.1 (IntKind.i64.wrap (tbbbba + Aba)))
 [((1000 : Nat), some (6 : Nat)), ((1001 : Nat), some (8 : Nat))])).br
 (Orc.call [] [((101170 : Nat), (1000 : Nat)), ((101171 : Nat), (1001 : Nat))]
 (fun
 (r80 :
 Nat × Nat × Nat × (Nat → Int) × Nat × (Nat → Int) × (Nat → Int) × (Nat → Int)) =>
 (AV.cons 1 (.rf 1000 1 0 r80.1)
 (.cons 1 (.rf 1001 3 0 r80.2.1)
 .nil)).tup)
 (fun
 (r80 :
 Nat × Nat × Nat × (Nat → Int) × Nat × (Nat → Int) × (Nat → Int) × (Nat → Int)) =>
 [((1000 : Nat), (3 : Nat),
 .ar r80.2.2.1 (1 : Nat) fun (i0 : Nat) =>
 .sc (.int .i64 (r80.2.2.2.1 i0))),
 ((1001 : Nat), (81 : Nat),
 .ar r80.2.2.2.2.1 (3 : Nat) fun (i0 : Nat) =>
 .cons 1 (.sc (.int .i64 (r80.2.2.2.2.2.1 i0)))
 (.cons 1
 (.sc (.int .i64 (r80.2.2.2.2.2.2.1 i0)))
 (.cons 1
 (.sc (.int .i64 (r80.2.2.2.2.2.2.2 i0)))
 .nil)))])
 fun
 (r80 : Nat × Nat × Nat × (Nat → Int) × Nat × (Nat → Int) × (Nat → Int) × (Nat → Int)) =>
 ((Orc.cut (nat_lit 1)
 (s48_2 (r80.2.1 + (1 : Nat)) Aa Aba Abba (0 : Int) (0 : Int) false
 (0 : Int) r80.1 (IntKind.i64.wrap (r77.2.2.1 + (1 : Int)))
 (0 : Int) false (0 : Int) (r80.2.1 + (1 : Nat))
 (fun (i : Nat) =>
 bif i.beq (plus (0 : Nat) (Int.toNat (0 : Int))) then
 bif (plus (0 : Nat) (Int.toNat (0 : Int))).blt r80.2.1 then
 r80.2.2.2.2.2.1 (plus (0 : Nat) (Int.toNat (0 : Int)))
 else Aa
 else bif i.blt r80.2.1 then r80.2.2.2.2.2.1 i else Aa)
 (fun (i : Nat) =>
 bif i.beq (plus (0 : Nat) (Int.toNat (0 : Int))) then tbbbba
 else
 bif i.blt r80.2.1 then r80.2.2.2.2.2.2.1 i
 else (0 : Int))
 (fun (i : Nat) =>
 bif i.beq (plus (0 : Nat) (Int.toNat (0 : Int))) then
 bif (plus (0 : Nat) (Int.toNat (0 : Int))).blt r80.2.1 then
 r80.2.2.2.2.2.2.2
 (plus (0 : Nat) (Int.toNat (0 : Int)))
 else Aba
 else
 bif i.blt r80.2.1 then r80.2.2.2.2.2.2.2 i else Aba)
 r80.2.2.1 r80.2.2.2.1)
 (m48_2 (r80.2.1 + (1 : Nat)) Aa Aba Abba (0 : Int) (0 : Int) false
 (0 : Int) r80.1 (IntKind.i64.wrap (r77.2.2.1 + (1 : Int)))
 (0 : Int) false (0 : Int) (r80.2.1 + (1 : Nat))
 (fun (i : Nat) =>
 bif i.beq (plus (0 : Nat) (Int.toNat (0 : Int))) then
 bif (plus (0 : Nat) (Int.toNat (0 : Int))).blt r80.2.1 then
 r80.2.2.2.2.2.1 (plus (0 : Nat) (Int.toNat (0 : Int)))
 else Aa
 else bif i.blt r80.2.1 then r80.2.2.2.2.2.1 i else Aa)
 (fun (i : Nat) =>
 bif i.beq (plus (0 : Nat) (Int.toNat (0 : Int))) then tbbbba
 else
 bif i.blt r80.2.1 then r80.2.2.2.2.2.2.1 i
 else (0 : Int))
 (fun (i : Nat) =>
 bif i.beq (plus (0 : Nat) (Int.toNat (0 : Int))) then
 bif (plus (0 : Nat) (Int.toNat (0 : Int))).blt r80.2.1 then
 r80.2.2.2.2.2.2.2
 (plus (0 : Nat) (Int.toNat (0 : Int)))
 else Aba
 else
 bif i.blt r80.2.1 then r80.2.2.2.2.2.2.2 i else Aba)
 r80.2.2.1 r80.2.2.2.1)
 [((1000 : Nat), some (5 : Nat)), ((1001 : Nat), some (6 : Nat)),
 ((1002 : Nat), some (8 : Nat)), ((1003 : Nat), some (127 : Nat)),
 ((1004 : Nat), some (101170 : Nat))]).br
 (Orc.cut (nat_lit 1)
 (s48_2 (r80.2.1 + (1 : Nat)) Aa Aba Abba (0 : Int) (0 : Int) false
 (0 : Int) r80.1 r77.2.2.1 (0 : Int) false (0 : Int)
 (r80.2.1 + (1 : Nat))
 (fun (i : Nat) =>
 bif i.beq (plus (0 : Nat) (Int.toNat (0 : Int))) then
 bif (plus (0 : Nat) (Int.toNat (0 : Int))).blt r80.2.1 then
 r80.2.2.2.2.2.1 (plus (0 : Nat) (Int.toNat (0 : Int)))
 else Aa
 else bif i.blt r80.2.1 then r80.2.2.2.2.2.1 i else Aa)
 (fun (i : Nat) =>
 bif i.beq (plus (0 : Nat) (Int.toNat (0 : Int))) then tbbbba
 else
 bif i.blt r80.2.1 then r80.2.2.2.2.2.2.1 i
 else (0 : Int))
 (fun (i : Nat) =>
 bif i.beq (plus (0 : Nat) (Int.toNat (0 : Int))) then
 bif (plus (0 : Nat) (Int.toNat (0 : Int))).blt r80.2.1 then
 r80.2.2.2.2.2.2.2 (plus (0 : Nat) (Int.toNat (0 : Int)))
 else Aba
 else
 bif i.blt r80.2.1 then r80.2.2.2.2.2.2.2 i else Aba)
 r80.2.2.1 r80.2.2.2.1)
 (m48_2 (r80.2.1 + (1 : Nat)) Aa Aba Abba (0 : Int) (0 : Int) false
 (0 : Int) r80.1 r77.2.2.1 (0 : Int) false (0 : Int)
 (r80.2.1 + (1 : Nat))
 (fun (i : Nat) =>
 bif i.beq (plus (0 : Nat) (Int.toNat (0 : Int))) then
 bif (plus (0 : Nat) (Int.toNat (0 : Int))).blt r80.2.1 then
 r80.2.2.2.2.2.1 (plus (0 : Nat) (Int.toNat (0 : Int)))
 else Aa
 else bif i.blt r80.2.1 then r80.2.2.2.2.2.1 i else Aa)
 (fun (i : Nat) =>
 bif i.beq (plus (0 : Nat) (Int.toNat (0 : Int))) then tbbbba
 else
 bif i.blt r80.2.1 then r80.2.2.2.2.2.2.1 i
 else (0 : Int))
 (fun (i : Nat) =>
 bif i.beq (plus (0 : Nat) (Int.toNat (0 : Int))) then
 bif (plus (0 : Nat) (Int.toNat (0 : Int))).blt r80.2.1 then
 r80.2.2.2.2.2.2.2 (plus (0 : Nat) (Int.toNat (0 : Int)))
 else Aba
 else
 bif i.blt r80.2.1 then r80.2.2.2.2.2.2.2 i else Aba)
 r80.2.2.1 r80.2.2.2.1)
 [((1000 : Nat), some (5 : Nat)), ((1001 : Nat), some (6 : Nat)),
 ((1002 : Nat), some (8 : Nat)), ((1003 : Nat), some (127 : Nat)),
 ((1004 : Nat), some (101170 : Nat))])).yes.yes.br
 (Orc.cut (nat_lit 1)
 (s48_2 (r80.2.1 + (1 : Nat)) Aa Aba Abba (0 : Int) (0 : Int) false (0 : Int)
 r80.1 r77.2.2.1 (0 : Int) false (0 : Int) (r80.2.1 + (1 : Nat))
 (fun (i : Nat) =>
 bif i.beq (plus (0 : Nat) (Int.toNat (0 : Int))) then
 bif (plus (0 : Nat) (Int.toNat (0 : Int))).blt r80.2.1 then
 r80.2.2.2.2.2.1 (plus (0 : Nat) (Int.toNat (0 : Int)))
 else Aa
 else bif i.blt r80.2.1 then r80.2.2.2.2.2.1 i else Aa)
 (fun (i : Nat) =>
 bif i.beq (plus (0 : Nat) (Int.toNat (0 : Int))) then tbbbba
 else
 bif i.blt r80.2.1 then r80.2.2.2.2.2.2.1 i
 else (0 : Int))
 (fun (i : Nat) =>
 bif i.beq (plus (0 : Nat) (Int.toNat (0 : Int))) then
 bif (plus (0 : Nat) (Int.toNat (0 : Int))).blt r80.2.1 then
 r80.2.2.2.2.2.2.2 (plus (0 : Nat) (Int.toNat (0 : Int)))
 else Aba
 else bif i.blt r80.2.1 then r80.2.2.2.2.2.2.2 i else Aba)
 r80.2.2.1 r80.2.2.2.1)
 (m48_2 (r80.2.1 + (1 : Nat)) Aa Aba Abba (0 : Int) (0 : Int) false (0 : Int)
 r80.1 r77.2.2.1 (0 : Int) false (0 : Int) (r80.2.1 + (1 : Nat))
 (fun (i : Nat) =>
 bif i.beq (plus (0 : Nat) (Int.toNat (0 : Int))) then
 bif (plus (0 : Nat) (Int.toNat (0 : Int))).blt r80.2.1 then
 r80.2.2.2.2.2.1 (plus (0 : Nat) (Int.toNat (0 : Int)))
 else Aa
 else bif i.blt r80.2.1 then r80.2.2.2.2.2.1 i else Aa)
 (fun (i : Nat) =>
 bif i.beq (plus (0 : Nat) (Int.toNat (0 : Int))) then tbbbba
 else
 bif i.blt r80.2.1 then r80.2.2.2.2.2.2.1 i
 else (0 : Int))
 (fun (i : Nat) =>
 bif i.beq (plus (0 : Nat) (Int.toNat (0 : Int))) then
 bif (plus (0 : Nat) (Int.toNat (0 : Int))).blt r80.2.1 then
 r80.2.2.2.2.2.2.2 (plus (0 : Nat) (Int.toNat (0 : Int)))
 else Aba
 else bif i.blt r80.2.1 then r80.2.2.2.2.2.2.2 i else Aba)
 r80.2.2.1 r80.2.2.2.1)
 [((1000 : Nat), some (5 : Nat)), ((1001 : Nat), some (6 : Nat)),
 ((1002 : Nat), some (8 : Nat)), ((1003 : Nat), some (127 : Nat)),
 ((1004 : Nat),
 some (101170 : Nat))]).no.no.no)).no.no.no.no.no.no)).yes.yes.br
 (Orc.fin
 (AV.cons 1
 (.cons 1
 (.vec false 1 r77.1 r77.1 fun (i0 : Nat) =>
 .sc (.int .i64 (r77.2.1 i0)))
 (.cons 1 (.sc (.int .i64 r77.2.2.1))
 (.cons 1 (.sc (.int .i64 r77.2.2.2.1))
 (.cons 1 (.sc (.bool r77.2.2.2.2.1))
 (.cons 1 (.sc (.int .i64 (IntKind.i64.wrap (tbbbba + Aba)))) .nil)))))
 (.cons 1 (.sc (.slice none (0 : Nat) (0 : Nat))) .nil)).tup
 [] []).yes.no.no))).yes.yes.yes.yes.yes.br
 (Orc.fin
 (AV.cons 1
 (.cons 1 (.sc (.slice none (0 : Nat) (0 : Nat)))
 (.cons 1 (.sc (.int .i64 (0 : Int)))
 (.cons 1 (.sc (.int .i64 (0 : Int)))
 (.cons 1 (.sc (.bool false))
 (.cons 1 (.sc (.int .i64 (0 : Int))) .nil)))))
 (.cons 1 (.sc (.slice none (0 : Nat) (0 : Nat))) .nil)).tup
 [] []).yes.no.no.no.no.no).yes.yes.yes.yes.br
 (Orc.fin
 (AV.cons 1
 (.cons 1 (.sc (.slice none (0 : Nat) (0 : Nat)))
 (.cons 1 (.sc (.int .i64 (0 : Int)))
 (.cons 1 (.sc (.int .i64 (0 : Int)))
 (.cons 1 (.sc (.bool false))
 (.cons 1 (.sc (.int .i64 (0 : Int))) .nil)))))
 (.cons 1 (.sc (.slice none (0 : Nat) (0 : Nat))) .nil)).tup
 [] []).yes.no.no.no.no.no.no.no.no.no.no).yes.yes.br
 (Orc.fin
 (AV.cons 1
 (.cons 1 (.sc (.slice none (0 : Nat) (0 : Nat)))
 (.cons 1 (.sc (.int .i64 (0 : Int)))
 (.cons 1 (.sc (.int .i64 (0 : Int)))
 (.cons 1 (.sc (.bool false))
 (.cons 1 (.sc (.int .i64 (0 : Int))) .nil)))))
 (.cons 1 (.sc (.slice none (0 : Nat) (0 : Nat))) .nil)).tup
 [] []).yes.no.no.no.no.no.no.no.no.no.no.no.no.no) _ _ (by kernel_rfl) (by kernel_rfl) (show True ∧
 True ∧
 True ∧
 True ∧
 ((0 : Nat) = (0 : Nat) ∧ True) ∧
 ∃ (r : Bool),
 (((True ∧ True ∧ True ∧ True ∧ True ∧ True) ∧ True) ∧
 True ∧
 Ok Proofs.Try.prog (72 : Nat)
 [.cons 1 (.vec true 1 tan tan fun (i : Nat) => .sc (.int .i64 (taf i)))
 (.cons 1 (.sc (.int .i64 tba))
 (.cons 1 (.sc (.int .i64 tbba))
 (.cons 1 (.sc (.bool tbbba)) (.cons 1 (.sc (.int .i64 tbbbba)) .nil))))]
 [] (.sc (.bool r)) []) ∧
 True ∧
 True ∧
 ((!r) = false →
 True ∧
 false = false ∧
 ((1 : Nat) + (0 : Nat) = plus (0 : Nat) (1 : Nat) ∧ True) ∧
 false = false ∧
 True ∧
 True ∧
 True ∧
 (decide (Aba < (1 : Int)) = false →
 True ∧
 false = false ∧
 True ∧
 false = false ∧
 True ∧
 false = false ∧
 ((1 : Nat) + (0 : Nat) = plus (0 : Nat) (1 : Nat) ∧ True) ∧
 false = false ∧
 True ∧
 True ∧
 True ∧
 (((↑o.size : Int) != Aba) = false →
 True ∧
 false = false ∧
 ((1 : Nat) + (0 : Nat) = plus (0 : Nat) (1 : Nat) ∧ True) ∧
 false = false ∧
 True ∧
 false = false ∧
 ((1 : Nat) + ((1 : Nat) + ((1 : Nat) + ((1 : Nat) + (0 : Nat)))) =
 plus (0 : Nat) (4 : Nat) ∧
 True) ∧
 false = false ∧
 True ∧
 false = false ∧
 True ∧
 True ∧
 (decide (Aba > IntKind.i64.wrap ((65536 : Int) - tbbbba)) = true →
 True ∧
 ((0 : Nat) = (0 : Nat) ∧ True) ∧
 True ∧
 (((0 : Nat) = (0 : Nat) ∧ True) ∧ True ∧ True) ∧
 ((((True ∧ True ∧ True ∧ True ∧ True ∧ True) ∧
 True ∧ True) ∧
 Sub
 (AV.cons 1
 (.cons 1
 (.sc
 (.slice none (0 : Nat) (0 : Nat)))
 (.cons 1
 (.sc
 (.int .i64 (0 : Int)))
 (.cons 1
 (.sc
 (.int .i64 (0 : Int)))
 (.cons 1
 (.sc (.bool false))
 (.cons 1
 (.sc
 (.int IntKind.i64
 (0 : Int)))
 .nil)))))
 (.cons 1
 (.sc
 (.slice none (0 : Nat) (0 : Nat)))
 .nil)).tup
 (AV.cons 1
 (.cons 1
 (.sc
 (.slice none (0 : Nat) (0 : Nat)))
 (.cons 1
 (.sc
 (.int .i64 (0 : Int)))
 (.cons 1
 (.sc
 (.int .i64 (0 : Int)))
 (.cons 1
 (.sc (.bool false))
 (.cons 1
 (.sc
 (.int IntKind.i64
 (0 : Int)))
 .nil)))))
 (.cons 1
 (.sc
 (.slice none (0 : Nat) (0 : Nat)))
 .nil)).tup ∧
 True) ∧
 True) ∧
 Sub
 (AV.cons 1
 (.cons 1
 (.sc (.slice none (0 : Nat) (0 : Nat)))
 (.cons 1
 (.sc (.int .i64 (0 : Int)))
 (.cons 1
 (.sc (.int .i64 (0 : Int)))
 (.cons 1
 (.sc (.bool false))
 (.cons 1
 (.sc
 (.int .i64 (0 : Int)))
 .nil)))))
 (.cons 1
 (.sc (.slice none (0 : Nat) (0 : Nat)))
 .nil)).tup
 res ∧
 SubOut [] []) ∧
 (decide (Aba > IntKind.i64.wrap ((65536 : Int) - tbbbba)) = false →
 ((0 : Nat) = (0 : Nat) ∧ True) ∧
 ∃ (r : Nat × (Nat → Int) × Int × Int × Bool × Int),
 (((True ∧ True ∧ True ∧ True ∧ True ∧ True) ∧ True) ∧
 True ∧
 Ok Proofs.Try.prog (77 : Nat)
 [.cons 1
 (.vec true 1 tan tan fun (i : Nat) =>
 .sc (.int .i64 (taf i)))
 (.cons 1
 (.sc (.int .i64 tba))
 (.cons 1
 (.sc (.int .i64 tbba))
 (.cons 1 (.sc (.bool tbbba))
 (.cons 1
 (.sc (.int .i64 tbbbba))
 .nil))))]
 []
 (.cons 1
 (.vec false 1 r.1 r.1
 fun (i0 : Nat) =>
 .sc (.int .i64 (r.2.1 i0)))
 (.cons 1
 (.sc (.int .i64 r.2.2.1))
 (.cons 1
 (.sc
 (.int .i64 r.2.2.2.1))
 (.cons 1
 (.sc (.bool r.2.2.2.2.1))
 (.cons 1
 (.sc
 (.int IntKind.i64
 r.2.2.2.2.2))
 .nil)))))
 []) ∧
 True ∧
 ((0 : Nat) = (0 : Nat) ∧ True) ∧
 True ∧
 ((0 : Nat) = plus (0 : Nat) (0 : Nat) ∧ True) ∧
 True ∧
 True ∧
 ((Aa == (25 : Int)) = true →
 True ∧
 ((1 : Nat) +
 ((1 : Nat) +
 ((1 : Nat) +
 ((1 : Nat) + (0 : Nat)))) =
 plus (0 : Nat) (4 : Nat) ∧
 True) ∧
 True ∧
 ((1 : Nat) + (0 : Nat) =
 plus (0 : Nat) (1 : Nat) ∧
 True) ∧
 True ∧
 True ∧
 ((1 : Nat) +
 ((1 : Nat) +
 ((1 : Nat) +
 ((1 : Nat) +
 (0 : Nat)))) =
 plus (0 : Nat) (4 : Nat) ∧
 True) ∧
 True ∧
 ((1 : Nat) +
 ((1 : Nat) +
 ((1 : Nat) +
 (0 : Nat))) =
 plus (0 : Nat)
 (3 : Nat) ∧
 True) ∧
 True ∧
 (tbbba = true →
 True ∧
 true = true ∧
 ((1 : Nat) +
 (0 :
 Nat) =
 plus
 (0 :
 Nat)
 (1 :
 Nat) ∧
 True) ∧
 true = true ∧
 True ∧
 True ∧
 ((tba ==
 (0 :
 Int)) =
 true →
 True ∧
 ((1 :
 Nat) +
 ((1 :
 Nat) +
 (0 :
 Nat)) =
 plus
 (0 :
 Nat)
 (2 :
 Nat) ∧
 True) ∧
 True ∧
 ∃
 (r_1
 :
 Int),
 ((True ∧
 True ∧
 True) ∧
 True ∧
 Ok
 Proofs.Try.prog
 (79 :
 Nat)
 [.sc
 (Value.int
 IntKind.i64
 tbba),
 .sc
 (Value.string
 o)]
 []
 (.sc
 (Value.int
 IntKind.i64
 r_1))
 []) ∧
 True ∧
 ((1 :
 Nat) +
 ((1 :
 Nat) +
 (0 :
 Nat)) =
 plus
 (0 :
 Nat)
 (2 :
 Nat) ∧
 True) ∧
 ((True ∧
 Sub
 (.pt
 (1000 :
 Nat)
 []
 (0 :
 Nat))
 (.pt
 (1000 :
 Nat)
 []
 (0 :
 Nat)) ∧
 True ∧
 Sub
 (.pt
 (1001 :
 Nat)
 []
 (0 :
 Nat))
 (.pt
 (1001 :
 Nat)
 []
 (0 :
 Nat)) ∧
 True) ∧
 (True ∧
 True ∧
 True ∧
 True ∧
 True ∧
 True) ∧
 SubB
 (.cons
 (1 :
 Nat)
 (.sc
 (Value.slice
 none
 (0 :
 Nat)
 (0 :
 Nat)))
 (.cons
 (1 :
 Nat)
 (.sc
 (Value.int
 IntKind.i64
 (0 :
 Int)))
 (.cons
 (1 :
 Nat)
 (.sc
 (Value.int
 IntKind.i64
 (0 :
 Int)))
 (.cons
 (1 :
 Nat)
 (.sc
 (Value.bool
 false))
 (.cons
 (1 :
 Nat)
 (.sc
 (Value.int
 IntKind.i64
 (0 :
 Int)))
 .nil)))))
 (.cons
 (1 :
 Nat)
 (.sc
 (Value.slice
 none
 (0 :
 Nat)
 (0 :
 Nat)))
 (.cons
 (1 :
 Nat)
 (.sc
 (Value.int
 IntKind.i64
 (0 :
 Int)))
 (.cons
 (1 :
 Nat)
 (.sc
 (Value.int
 IntKind.i64
 (0 :
 Int)))
 (.cons
 (1 :
 Nat)
 (.sc
 (Value.bool
 false))
 (.cons
 (1 :
 Nat)
 (.sc
 (Value.int
 IntKind.i64
 (0 :
 Int)))
 .nil))))) ∧
 (True ∧
 True ∧
 True ∧
 True ∧
 True ∧
 True) ∧
 SubB
 (.cons
 (1 :
 Nat)
 (.vec
 false
 (1 :
 Nat)
 r.1
 r.1
 fun
 (i0 :
 Nat) =>
 .sc
 (Value.int
 IntKind.i64
 (r.2.1
 i0)))
 (.cons
 (1 :
 Nat)
 (.sc
 (Value.int
 IntKind.i64
 r.2.2.1))
 (.cons
 (1 :
 Nat)
 (.sc
 (Value.int
 IntKind.i64
 r_1))
 (.cons
 (1 :
 Nat)
 (.sc
 (Value.bool
 r.2.2.2.2.1))
 (.cons
 (1 :
 Nat)
 (.sc
 (Value.int
 IntKind.i64
 (IntKind.i64.wrap
 (tbbbba +
 Aba))))
 .nil)))))
 (.cons
 (1 :
 Nat)
 (.vec
 false
 (1 :
 Nat)
 r.1
 r.1
 fun
 (i0 :
 Nat) =>
 .sc
 (Value.int
 IntKind.i64
 (r.2.1
 i0)))
 (.cons
 (1 :
 Nat)
 (.sc
 (Value.int
 IntKind.i64
 r.2.2.1))
 (.cons
 (1 :
 Nat)
 (.sc
 (Value.int
 IntKind.i64
 r_1))
 (.cons
 (1 :
 Nat)
 (.sc
 (Value.bool
 r.2.2.2.2.1))
 (.cons
 (1 :
 Nat)
 (.sc
 (Value.int
 IntKind.i64
 (IntKind.i64.wrap
 (tbbbba +
 Aba))))
 .nil))))) ∧
 True) ∧
 L48_0
 (0 :
 Int)
 (0 :
 Int)
 false
 (0 :
 Int)
 r.1
 r.2.1
 r.2.2.1
 r_1
 r.2.2.2.2.1
 (IntKind.i64.wrap
 (tbbbba +
 Aba))
 res) ∧
 ((tba ==
 (0 :
 Int)) =
 false →
 ((True ∧
 Sub
 (.pt
 (1000 :
 Nat)
 []
 (0 :
 Nat))
 (.pt
 (1000 :
 Nat)
 []
 (0 :
 Nat)) ∧
 True ∧
 Sub
 (.pt
 (1001 :
 Nat)
 []
 (0 :
 Nat))
 (.pt
 (1001 :
 Nat)
 []
 (0 :
 Nat)) ∧
 True) ∧
 (True ∧
 True ∧
 True ∧
 True ∧
 True ∧
 True) ∧
 SubB
 (.cons
 (1 :
 Nat)
 (.sc
 (Value.slice
 none
 (0 :
 Nat)
 (0 :
 Nat)))
 (.cons
 (1 :
 Nat)
 (.sc
 (Value.int
 IntKind.i64
 (0 :
 Int)))
 (.cons
 (1 :
 Nat)
 (.sc
 (Value.int
 IntKind.i64
 (0 :
 Int)))
 (.cons
 (1 :
 Nat)
 (.sc
 (Value.bool
 false))
 (.cons
 (1 :
 Nat)
 (.sc
 (Value.int
 IntKind.i64
 (0 :
 Int)))
 .nil)))))
 (.cons
 (1 :
 Nat)
 (.sc
 (Value.slice
 none
 (0 :
 Nat)
 (0 :
 Nat)))
 (.cons
 (1 :
 Nat)
 (.sc
 (Value.int
 IntKind.i64
 (0 :
 Int)))
 (.cons
 (1 :
 Nat)
 (.sc
 (Value.int
 IntKind.i64
 (0 :
 Int)))
 (.cons
 (1 :
 Nat)
 (.sc
 (Value.bool
 false))
 (.cons
 (1 :
 Nat)
 (.sc
 (Value.int
 IntKind.i64
 (0 :
 Int)))
 .nil))))) ∧
 (True ∧
 True ∧
 True ∧
 True ∧
 True ∧
 True) ∧
 SubB
 (.cons
 (1 :
 Nat)
 (.vec
 false
 (1 :
 Nat)
 r.1
 r.1
 fun
 (i0 :
 Nat) =>
 .sc
 (Value.int
 IntKind.i64
 (r.2.1
 i0)))
 (.cons
 (1 :
 Nat)
 (.sc
 (Value.int
 IntKind.i64
 r.2.2.1))
 (.cons
 (1 :
 Nat)
 (.sc
 (Value.int
 IntKind.i64
 r.2.2.2.1))
 (.cons
 (1 :
 Nat)
 (.sc
 (Value.bool
 r.2.2.2.2.1))
 (.cons
 (1 :
 Nat)
 (.sc
 (Value.int
 IntKind.i64
 (IntKind.i64.wrap
 (tbbbba +
 Aba))))
 .nil)))))
 (.cons
 (1 :
 Nat)
 (.vec
 false
 (1 :
 Nat)
 r.1
 r.1
 fun
 (i0 :
 Nat) =>
 .sc
 (Value.int
 IntKind.i64
 (r.2.1
 i0)))
 (.cons
 (1 :
 Nat)
 (.sc
 (Value.int
 IntKind.i64
 r.2.2.1))
 (.cons
 (1 :
 Nat)
 (.sc
 (Value.int
 IntKind.i64
 r.2.2.2.1))
 (.cons
 (1 :
 Nat)
 (.sc
 (Value.bool
 r.2.2.2.2.1))
 (.cons
 (1 :
 Nat)
 (.sc
 (Value.int
 IntKind.i64
 (IntKind.i64.wrap
 (tbbbba +
 Aba))))
 .nil))))) ∧
 True) ∧
 L48_0
 (0 :
 Int)
 (0 :
 Int)
 false
 (0 :
 Int)
 r.1
 r.2.1
 r.2.2.1
 r.2.2.2.1
 r.2.2.2.2.1
 (IntKind.i64.wrap
 (tbbbba +
 Aba))
 res)) ∧
 (tbbba = !true →
 true = true ∧
 (!true) = !true ∧
 true = true ∧
 (!true) =
 !true ∧
 true =
 true ∧
 True ∧
 false =
 false ∧
 ((True ∧
 Sub
 (.pt
 (1000 :
 Nat)
 []
 (0 :
 Nat))
 (.pt
 (1000 :
 Nat)
 []
 (0 :
 Nat)) ∧
 True ∧
 Sub
 (.pt
 (1001 :
 Nat)
 []
 (0 :
 Nat))
 (.pt
 (1001 :
 Nat)
 []
 (0 :
 Nat)) ∧
 True) ∧
 (True ∧
 True ∧
 True ∧
 True ∧
 True ∧
 True) ∧
 SubB
 (.cons
 (1 :
 Nat)
 (.sc
 (Value.slice
 none
 (0 :
 Nat)
 (0 :
 Nat)))
 (.cons
 (1 :
 Nat)
 (.sc
 (Value.int
 IntKind.i64
 (0 :
 Int)))
 (.cons
 (1 :
 Nat)
 (.sc
 (Value.int
 IntKind.i64
 (0 :
 Int)))
 (.cons
 (1 :
 Nat)
 (.sc
 (Value.bool
 false))
 (.cons
 (1 :
 Nat)
 (.sc
 (Value.int
 IntKind.i64
 (0 :
 Int)))
 .nil)))))
 (.cons
 (1 :
 Nat)
 (.sc
 (Value.slice
 none
 (0 :
 Nat)
 (0 :
 Nat)))
 (.cons
 (1 :
 Nat)
 (.sc
 (Value.int
 IntKind.i64
 (0 :
 Int)))
 (.cons
 (1 :
 Nat)
 (.sc
 (Value.int
 IntKind.i64
 (0 :
 Int)))
 (.cons
 (1 :
 Nat)
 (.sc
 (Value.bool
 false))
 (.cons
 (1 :
 Nat)
 (.sc
 (Value.int
 IntKind.i64
 (0 :
 Int)))
 .nil))))) ∧
 (True ∧
 True ∧
 True ∧
 True ∧
 True ∧
 True) ∧
 SubB
 (.cons
 (1 :
 Nat)
 (.vec
 false
 (1 :
 Nat)
 r.1
 r.1
 fun
 (i0 :
 Nat) =>
 .sc
 (Value.int
 IntKind.i64
 (r.2.1
 i0)))
 (.cons
 (1 :
 Nat)
 (.sc
 (Value.int
 IntKind.i64
 r.2.2.1))
 (.cons
 (1 :
 Nat)
 (.sc
 (Value.int
 IntKind.i64
 r.2.2.2.1))
 (.cons
 (1 :
 Nat)
 (.sc
 (Value.bool
 r.2.2.2.2.1))
 (.cons
 (1 :
 Nat)
 (.sc
 (Value.int
 IntKind.i64
 (IntKind.i64.wrap
 (tbbbba +
 Aba))))
 .nil)))))
 (.cons
 (1 :
 Nat)
 (.vec
 false
 (1 :
 Nat)
 r.1
 r.1
 fun
 (i0 :
 Nat) =>
 .sc
 (Value.int
 IntKind.i64
 (r.2.1
 i0)))
 (.cons
 (1 :
 Nat)
 (.sc
 (Value.int
 IntKind.i64
 r.2.2.1))
 (.cons
 (1 :
 Nat)
 (.sc
 (Value.int
 IntKind.i64
 r.2.2.2.1))
 (.cons
 (1 :
 Nat)
 (.sc
 (Value.bool
 r.2.2.2.2.1))
 (.cons
 (1 :
 Nat)
 (.sc
 (Value.int
 IntKind.i64
 (IntKind.i64.wrap
 (tbbbba +
 Aba))))
 .nil))))) ∧
 True) ∧
 L48_0
 (0 :
 Int)
 (0 :
 Int)
 false
 (0 :
 Int)
 r.1
 r.2.1
 r.2.2.1
 r.2.2.2.1
 r.2.2.2.2.1
 (IntKind.i64.wrap
 (tbbbba +
 Aba))
 res)) ∧
 ((Aa == (25 : Int)) = false →
 True ∧
 ((0 : Nat) = plus (0 : Nat) (0 : Nat) ∧
 True) ∧
 True ∧
 True ∧
 ((Aa == (26 : Int)) = false →
 True ∧
 false = false ∧
 ((0 : Nat) =
 plus (0 : Nat)
 (0 : Nat) ∧
 True) ∧
 false = false ∧
 True ∧
 True ∧
 True ∧
 ((Aa ==
 (27 :
 Int)) =
 true →
 True ∧
 ((1 : Nat) +
 ((1 :
 Nat) +
 ((1 :
 Nat) +
 ((1 :
 Nat) +
 (0 :
 Nat)))) =
 plus
 (0 :
 Nat)
 (4 :
 Nat) ∧
 True) ∧
 True ∧
 ((1 :
 Nat) +
 (0 :
 Nat) =
 plus
 (0 :
 Nat)
 (1 :
 Nat) ∧
 True) ∧
 True ∧
 True ∧
 ((1 :
 Nat) +
 ((1 :
 Nat) +
 ((1 :
 Nat) +
 ((1 :
 Nat) +
 (0 :
 Nat)))) =
 plus
 (0 :
 Nat)
 (4 :
 Nat) ∧
 True) ∧
 ((0 :
 Nat) =
 (0 :
 Nat) ∧
 True) ∧
 ((0 :
 Nat) =
 (0 :
 Nat) ∧
 True) ∧
 True ∧
 (((0 :
 Nat) =
 (0 :
 Nat) ∧
 True) ∧
 True ∧
 True) ∧
 ((((True ∧
 True ∧
 True ∧
 True ∧
 True ∧
 True) ∧
 True ∧
 True) ∧
 Sub
 (AV.cons
 (1 :
 Nat)
 (.cons
 (1 :
 Nat)
 (.vec
 false
 (1 :
 Nat)
 r.1
 r.1
 fun
 (i0 :
 Nat) =>
 .sc
 (Value.int
 IntKind.i64
 (r.2.1
 i0)))
 (.cons
 (1 :
 Nat)
 (.sc
 (Value.int
 IntKind.i64
 r.2.2.1))
 (.cons
 (1 :
 Nat)
 (.sc
 (Value.int
 IntKind.i64
 r.2.2.2.1))
 (.cons
 (1 :
 Nat)
 (.sc
 (Value.bool
 r.2.2.2.2.1))
 (.cons
 (1 :
 Nat)
 (.sc
 (Value.int
 IntKind.i64
 (IntKind.i64.wrap
 (tbbbba +
 Aba))))
 .nil)))))
 (.cons
 (1 :
 Nat)
 (.sc
 (Value.slice
 none
 (0 :
 Nat)
 (0 :
 Nat)))
 .nil)).tup
 (AV.cons
 (1 :
 Nat)
 (.cons
 (1 :
 Nat)
 (.vec
 false
 (1 :
 Nat)
 r.1
 r.1
 fun
 (i0 :
 Nat) =>
 .sc
 (Value.int
 IntKind.i64
 (r.2.1
 i0)))
 (.cons
 (1 :
 Nat)
 (.sc
 (Value.int
 IntKind.i64
 r.2.2.1))
 (.cons
 (1 :
 Nat)
 (.sc
 (Value.int
 IntKind.i64
 r.2.2.2.1))
 (.cons
 (1 :
 Nat)
 (.sc
 (Value.bool
 r.2.2.2.2.1))
 (.cons
 (1 :
 Nat)
 (.sc
 (Value.int
 IntKind.i64
 (IntKind.i64.wrap
 (tbbbba +
 Aba))))
 .nil)))))
 (.cons
 (1 :
 Nat)
 (.sc
 (Value.slice
 none
 (0 :
 Nat)
 (0 :
 Nat)))
 .nil)).tup ∧
 True) ∧
 True) ∧
 Sub
 (AV.cons
 (1 :
 Nat)
 (.cons
 (1 :
 Nat)
 (.vec
 false
 (1 :
 Nat)
 r.1
 r.1
 fun
 (i0 :
 Nat) =>
 .sc
 (Value.int
 IntKind.i64
 (r.2.1
 i0)))
 (.cons
 (1 :
 Nat)
 (.sc
 (Value.int
 IntKind.i64
 r.2.2.1))
 (.cons
 (1 :
 Nat)
 (.sc
 (Value.int
 IntKind.i64
 r.2.2.2.1))
 (.cons
 (1 :
 Nat)
 (.sc
 (Value.bool
 r.2.2.2.2.1))
 (.cons
 (1 :
 Nat)
 (.sc
 (Value.int
 IntKind.i64
 (IntKind.i64.wrap
 (tbbbba +
 Aba))))
 .nil)))))
 (.cons
 (1 :
 Nat)
 (.sc
 (Value.slice
 none
 (0 :
 Nat)
 (0 :
 Nat)))
 .nil)).tup
 res ∧
 SubOut
 []
 []) ∧
 ((Aa ==
 (27 :
 Int)) =
 false →
 True ∧
 ((0 : Nat) =
 plus
 (0 :
 Nat)
 (0 :
 Nat) ∧
 True) ∧
 True ∧
 True ∧
 ((Aa ==
 (19 :
 Int)) =
 true →
 True ∧
 true =
 true ∧
 ((1 :
 Nat) +
 ((1 :
 Nat) +
 ((1 :
 Nat) +
 (0 :
 Nat))) =
 plus
 (0 :
 Nat)
 (3 :
 Nat) ∧
 True) ∧
 true =
 true ∧
 True ∧
 True ∧
 True ∧
 ((!tbbba) =
 true →
 True ∧
 true =
 true ∧
 ((1 :
 Nat) +
 (0 :
 Nat) =
 plus
 (0 :
 Nat)
 (1 :
 Nat) ∧
 True) ∧
 true =
 true ∧
 True ∧
 True ∧
 True ∧
 ((tba ==
 (0 :
 Int)) =
 true →
 True ∧
 ((1 :
 Nat) +
 ((1 :
 Nat) +
 ((1 :
 Nat) +
 ((1 :
 Nat) +
 (0 :
 Nat)))) =
 plus
 (0 :
 Nat)
 (4 :
 Nat) ∧
 True) ∧
 True ∧
 ((1 :
 Nat) +
 ((1 :
 Nat) +
 (0 :
 Nat)) =
 plus
 (0 :
 Nat)
 (2 :
 Nat) ∧
 True) ∧
 True ∧
 ((1 :
 Nat) +
 ((1 :
 Nat) +
 ((1 :
 Nat) +
 (0 :
 Nat))) =
 plus
 (0 :
 Nat)
 (3 :
 Nat) ∧
 True) ∧
 ((0 :
 Nat) =
 (0 :
 Nat) ∧
 True) ∧
 True ∧
 ((1 :
 Nat) +
 ((1 :
 Nat) +
 ((1 :
 Nat) +
 ((1 :
 Nat) +
 (0 :
 Nat)))) =
 plus
 (0 :
 Nat)
 (4 :
 Nat) ∧
 True) ∧
 True ∧
 ((1 :
 Nat) +
 (0 :
 Nat) =
 plus
 (0 :
 Nat)
 (1 :
 Nat) ∧
 True) ∧
 True ∧
 (((True ∧
 True ∧
 True ∧
 True) ∧
 True) ∧
 True) ∧
 ((0 :
 Nat) =
 (0 :
 Nat) ∧
 True) ∧
 True ∧
 (((0 :
 Nat) =
 (0 :
 Nat) ∧
 True) ∧
 True ∧
 True) ∧
 ((((True ∧
 True ∧
 True ∧
 True ∧
 True ∧
 True) ∧
 (0 :
 Nat) +
 (1 :
 Nat) ≤
 (1 :
 Nat) ∧
 True) ∧
 Sub
 (AV.cons
 (1 :
 Nat)
 (.cons
 (1 :
 Nat)
 (.vec
 false
 (1 :
 Nat)
 r.1
 r.1
 fun
 (i0 :
 Nat) =>
 .sc
 (Value.int
 IntKind.i64
 (r.2.1
 i0)))
 (.cons
 (1 :
 Nat)
 (.sc
 (Value.int
 IntKind.i64
 r.2.2.1))
 (.cons
 (1 :
 Nat)
 (.sc
 (Value.int
 IntKind.i64
 (0 :
 Int)))
 (.cons
 (1 :
 Nat)
 (.sc
 (Value.bool
 true))
 (.cons
 (1 :
 Nat)
 (.sc
 (Value.int
 IntKind.i64
 (0 :
 Int)))
 .nil)))))
 (.cons
 (1 :
 Nat)
 (.vec
 false
 (3 :
 Nat)
 (1 :
 Nat)
 (1 :
 Nat)
 fun
 (i :
 Nat) =>
 .cons
 (1 :
 Nat)
 (.sc
 (Value.int
 IntKind.i64
 (19 :
 Int)))
 (.cons
 (1 :
 Nat)
 (.sc
 (Value.int
 IntKind.i64
 tbbbba))
 (.cons
 (1 :
 Nat)
 (.sc
 (Value.int
 IntKind.i64
 Aba))
 .nil)))
 .nil)).tup
 (AV.cons
 (1 :
 Nat)
 (.cons
 (1 :
 Nat)
 (.vec
 false
 (1 :
 Nat)
 r.1
 r.1
 fun
 (i0 :
 Nat) =>
 .sc
 (Value.int
 IntKind.i64
 (r.2.1
 i0)))
 (.cons
 (1 :
 Nat)
 (.sc
 (Value.int
 IntKind.i64
 r.2.2.1))
 (.cons
 (1 :
 Nat)
 (.sc
 (Value.int
 IntKind.i64
 (0 :
 Int)))
 (.cons
 (1 :
 Nat)
 (.sc
 (Value.bool
 true))
 (.cons
 (1 :
 Nat)
 (.sc
 (Value.int
 IntKind.i64
 (0 :
 Int)))
 .nil)))))
 (.cons
 (1 :
 Nat)
 (.vec
 false
 (3 :
 Nat)
 (1 :
 Nat)
 (1 :
 Nat)
 fun
 (i :
 Nat) =>
 .cons
 (1 :
 Nat)
 (.sc
 (Value.int
 IntKind.i64
 (19 :
 Int)))
 (.cons
 (1 :
 Nat)
 (.sc
 (Value.int
 IntKind.i64
 tbbbba))
 (.cons
 (1 :
 Nat)
 (.sc
 (Value.int
 IntKind.i64
 Aba))
 .nil)))
 .nil)).tup ∧
 True) ∧
 True) ∧
 Sub
 (AV.cons
 (1 :
 Nat)
 (.cons
 (1 :
 Nat)
 (.vec
 false
 (1 :
 Nat)
 r.1
 r.1
 fun
 (i0 :
 Nat) =>
 .sc
 (Value.int
 IntKind.i64
 (r.2.1
 i0)))
 (.cons
 (1 :
 Nat)
 (.sc
 (Value.int
 IntKind.i64
 r.2.2.1))
 (.cons
 (1 :
 Nat)
 (.sc
 (Value.int
 IntKind.i64
 (0 :
 Int)))
 (.cons
 (1 :
 Nat)
 (.sc
 (Value.bool
 true))
 (.cons
 (1 :
 Nat)
 (.sc
 (Value.int
 IntKind.i64
 (0 :
 Int)))
 .nil)))))
 (.cons
 (1 :
 Nat)
 (.vec
 false
 (3 :
 Nat)
 (1 :
 Nat)
 (1 :
 Nat)
 fun
 (i :
 Nat) =>
 .cons
 (1 :
 Nat)
 (.sc
 (Value.int
 IntKind.i64
 (19 :
 Int)))
 (.cons
 (1 :
 Nat)
 (.sc
 (Value.int
 IntKind.i64
 tbbbba))
 (.cons
 (1 :
 Nat)
 (.sc
 (Value.int
 IntKind.i64
 Aba))
 .nil)))
 .nil)).tup
 res ∧
 SubOut
 []
 []) ∧
 ((tba ==
 (0 :
 Int)) =
 false →
 True ∧
 ((0 :
 Nat) =
 plus
 (0 :
 Nat)
 (0 :
 Nat) ∧
 True) ∧
 True ∧
 True ∧
 ((Aa ==
 (19 :
 Int)) =
 true →
 True ∧
 ((1 :
 Nat) +
 ((1 :
 Nat) +
 ((1 :
 Nat) +
 ((1 :
 Nat) +
 (0 :
 Nat)))) =
 plus
 (0 :
 Nat)
 (4 :
 Nat) ∧
 True) ∧
 True ∧
 ((1 :
 Nat) +
 (0 :
 Nat) =
 plus
 (0 :
 Nat)
 (1 :
 Nat) ∧
 True) ∧
 True ∧
 True ∧
 ((1 :
 Nat) +
 ((1 :
 Nat) +
 ((1 :
 Nat) +
 ((1 :
 Nat) +
 (0 :
 Nat)))) =
 plus
 (0 :
 Nat)
 (4 :
 Nat) ∧
 True) ∧
 True ∧
 ((1 :
 Nat) +
 (0 :
 Nat) =
 plus
 (0 :
 Nat)
 (1 :
 Nat) ∧
 True) ∧
 True ∧
 ((tba ==
 (0 :
 Int)) =
 true →
 True ∧
 ((1 :
 Nat) +
 ((1 :
 Nat) +
 (0 :
 Nat)) =
 plus
 (0 :
 Nat)
 (2 :
 Nat) ∧
 True) ∧
 ((True ∧
 Sub
 (.pt
 (1000 :
 Nat)
 []
 (0 :
 Nat))
 (.pt
 (1000 :
 Nat)
 []
 (0 :
 Nat)) ∧
 True ∧
 Sub
 (.pt
 (1001 :
 Nat)
 []
 (0 :
 Nat))
 (.pt
 (1001 :
 Nat)
 []
 (0 :
 Nat)) ∧
 True) ∧
 (True ∧
 True ∧
 True ∧
 True ∧
 True ∧
 True) ∧
 SubB
 (.cons
 (1 :
 Nat)
 (.sc
 (Value.slice
 none
 (0 :
 Nat)
 (0 :
 Nat)))
 (.cons
 (1 :
 Nat)
 (.sc
 (Value.int
 IntKind.i64
 (0 :
 Int)))
 (.cons
 (1 :
 Nat)
 (.sc
 (Value.int
 IntKind.i64
 (0 :
 Int)))
 (.cons
 (1 :
 Nat)
 (.sc
 (Value.bool
 false))
 (.cons
 (1 :
 Nat)
 (.sc
 (Value.int
 IntKind.i64
 (0 :
 Int)))
 .nil)))))
 (.cons
 (1 :
 Nat)
 (.sc
 (Value.slice
 none
 (0 :
 Nat)
 (0 :
 Nat)))
 (.cons
 (1 :
 Nat)
 (.sc
 (Value.int
 IntKind.i64
 (0 :
 Int)))
 (.cons
 (1 :
 Nat)
 (.sc
 (Value.int
 IntKind.i64
 (0 :
 Int)))
 (.cons
 (1 :
 Nat)
 (.sc
 (Value.bool
 false))
 (.cons
 (1 :
 Nat)
 (.sc
 (Value.int
 IntKind.i64
 (0 :
 Int)))
 .nil))))) ∧
 (True ∧
 True ∧
 True ∧
 True ∧
 True ∧
 True) ∧
 SubB
 (.cons
 (1 :
 Nat)
 (.vec
 false
 (1 :
 Nat)
 r.1
 r.1
 fun
 (i0 :
 Nat) =>
 .sc
 (Value.int
 IntKind.i64
 (r.2.1
 i0)))
 (.cons
 (1 :
 Nat)
 (.sc
 (Value.int
 IntKind.i64
 r.2.2.1))
 (.cons
 (1 :
 Nat)
 (.sc
 (Value.int
 IntKind.i64
 (0 :
 Int)))
 (.cons
 (1 :
 Nat)
 (.sc
 (Value.bool
 r.2.2.2.2.1))
 (.cons
 (1 :
 Nat)
 (.sc
 (Value.int
 IntKind.i64
 (IntKind.i64.wrap
 (tbbbba +
 Aba))))
 .nil)))))
 (.cons
 (1 :
 Nat)
 (.vec
 false
 (1 :
 Nat)
 r.1
 r.1
 fun
 (i0 :
 Nat) =>
 .sc
 (Value.int
 IntKind.i64
 (r.2.1
 i0)))
 (.cons
 (1 :
 Nat)
 (.sc
 (Value.int
 IntKind.i64
 r.2.2.1))
 (.cons
 (1 :
 Nat)
 (.sc
 (Value.int
 IntKind.i64
 (0 :
 Int)))
 (.cons
 (1 :
 Nat)
 (.sc
 (Value.bool
 r.2.2.2.2.1))
 (.cons
 (1 :
 Nat)
 (.sc
 (Value.int
 IntKind.i64
 (IntKind.i64.wrap
 (tbbbba +
 Aba))))
 .nil))))) ∧
 True) ∧
 L48_1
 (0 :
 Int)
 (0 :
 Int)
 false
 (0 :
 Int)
 r.1
 r.2.1
 r.2.2.1
 (0 :
 Int)
 r.2.2.2.2.1
 (IntKind.i64.wrap
 (tbbbba +
 Aba))
 res) ∧
 ((tba ==
 (0 :
 Int)) =
 false →
 ((True ∧
 Sub
 (.pt
 (1000 :
 Nat)
 []
 (0 :
 Nat))
 (.pt
 (1000 :
 Nat)
 []
 (0 :
 Nat)) ∧
 True ∧
 Sub
 (.pt
 (1001 :
 Nat)
 []
 (0 :
 Nat))
 (.pt
 (1001 :
 Nat)
 []
 (0 :
 Nat)) ∧
 True) ∧
 (True ∧
 True ∧
 True ∧
 True ∧
 True ∧
 True) ∧
 SubB
 (.cons
 (1 :
 Nat)
 (.sc
 (Value.slice
 none
 (0 :
 Nat)
 (0 :
 Nat)))
 (.cons
 (1 :
 Nat)
 (.sc
 (Value.int
 IntKind.i64
 (0 :
 Int)))
 (.cons
 (1 :
 Nat)
 (.sc
 (Value.int
 IntKind.i64
 (0 :
 Int)))
 (.cons
 (1 :
 Nat)
 (.sc
 (Value.bool
 false))
 (.cons
 (1 :
 Nat)
 (.sc
 (Value.int
 IntKind.i64
 (0 :
 Int)))
 .nil)))))
 (.cons
 (1 :
 Nat)
 (.sc
 (Value.slice
 none
 (0 :
 Nat)
 (0 :
 Nat)))
 (.cons
 (1 :
 Nat)
 (.sc
 (Value.int
 IntKind.i64
 (0 :
 Int)))
 (.cons
 (1 :
 Nat)
 (.sc
 (Value.int
 IntKind.i64
 (0 :
 Int)))
 (.cons
 (1 :
 Nat)
 (.sc
 (Value.bool
 false))
 (.cons
 (1 :
 Nat)
 (.sc
 (Value.int
 IntKind.i64
 (0 :
 Int)))
 .nil))))) ∧
 (True ∧
 True ∧
 True ∧
 True ∧
 True ∧
 True) ∧
 SubB
 (.cons
 (1 :
 Nat)
 (.vec
 false
 (1 :
 Nat)
 r.1
 r.1
 fun
 (i0 :
 Nat) =>
 .sc
 (Value.int
 IntKind.i64
 (r.2.1
 i0)))
 (.cons
 (1 :
 Nat)
 (.sc
 (Value.int
 IntKind.i64
 r.2.2.1))
 (.cons
 (1 :
 Nat)
 (.sc
 (Value.int
 IntKind.i64
 r.2.2.2.1))
 (.cons
 (1 :
 Nat)
 (.sc
 (Value.bool
 r.2.2.2.2.1))
 (.cons
 (1 :
 Nat)
 (.sc
 (Value.int
 IntKind.i64
 (IntKind.i64.wrap
 (tbbbba +
 Aba))))
 .nil)))))
 (.cons
 (1 :
 Nat)
 (.vec
 false
 (1 :
 Nat)
 r.1
 r.1
 fun
 (i0 :
 Nat) =>
 .sc
 (Value.int
 IntKind.i64
 (r.2.1
 i0)))
 (.cons
 (1 :
 Nat)
 (.sc
 (Value.int
 IntKind.i64
 r.2.2.1))
 (.cons
 (1 :
 Nat)
 (.sc
 (Value.int
 IntKind.i64
 r.2.2.2.1))
 (.cons
 (1 :
 Nat)
 (.sc
 (Value.bool
 r.2.2.2.2.1))
 (.cons
 (1 :
 Nat)
 (.sc
 (Value.int
 IntKind.i64
 (IntKind.i64.wrap
 (tbbbba +
 Aba))))
 .nil))))) ∧
 True) ∧
 L48_1
 (0 :
 Int)
 (0 :
 Int)
 false
 (0 :
 Int)
 r.1
 r.2.1
 r.2.2.1
 r.2.2.2.1
 r.2.2.2.2.1
 (IntKind.i64.wrap
 (tbbbba +
 Aba))
 res)) ∧
 ((Aa ==
 (19 :
 Int)) =
 false →
 ((0 :
 Nat) =
 (0 :
 Nat) ∧
 True) ∧
 ∃
 (r_1
 :
 Nat ×
 Nat ×
 Nat ×
 (Nat →
 Int) ×
 Nat ×
 (Nat →
 Int) ×
 (Nat →
 Int) ×
 (Nat →
 Int)),
 (((True ∧
 True ∧
 True ∧
 True ∧
 True ∧
 True) ∧
 True) ∧
 True ∧
 Ok
 Proofs.Try.prog
 (80 :
 Nat)
 [.cons
 (1 :
 Nat)
 (.vec
 true
 (1 :
 Nat)
 tan
 tan
 fun
 (i :
 Nat) =>
 .sc
 (Value.int
 IntKind.i64
 (taf
 i)))
 (.cons
 (1 :
 Nat)
 (.sc
 (Value.int
 IntKind.i64
 tba))
 (.cons
 (1 :
 Nat)
 (.sc
 (Value.int
 IntKind.i64
 tbba))
 (.cons
 (1 :
 Nat)
 (.sc
 (Value.bool
 tbbba))
 (.cons
 (1 :
 Nat)
 (.sc
 (Value.int
 IntKind.i64
 tbbbba))
 .nil))))]
 []
 (AV.cons
 (1 :
 Nat)
 (.rf
 (1000 :
 Nat)
 (1 :
 Nat)
 (0 :
 Nat)
 r_1.1)
 (.cons
 (1 :
 Nat)
 (.rf
 (1001 :
 Nat)
 (3 :
 Nat)
 (0 :
 Nat)
 r_1.2.1)
 .nil)).tup
 [((1000 :
 Nat),
 (3 :
 Nat),
 .ar
 r_1.2.2.1
 (1 :
 Nat)
 fun
 (i0 :
 Nat) =>
 .sc
 (Value.int
 IntKind.i64
 (r_1.2.2.2.1
 i0))),
 ((1001 :
 Nat),
 (81 :
 Nat),
 .ar
 r_1.2.2.2.2.1
 (3 :
 Nat)
 fun
 (i0 :
 Nat) =>
 .cons
 (1 :
 Nat)
 (.sc
 (Value.int
 IntKind.i64
 (r_1.2.2.2.2.2.1
 i0)))
 (.cons
 (1 :
 Nat)
 (.sc
 (Value.int
 IntKind.i64
 (r_1.2.2.2.2.2.2.1
 i0)))
 (.cons
 (1 :
 Nat)
 (.sc
 (Value.int
 IntKind.i64
 (r_1.2.2.2.2.2.2.2
 i0)))
 .nil)))]) ∧
 True ∧
 True ∧
 True ∧
 True ∧
 True ∧
 True ∧
 True ∧
 ((0 :
 Nat) =
 plus
 (0 :
 Nat)
 (0 :
 Nat) ∧
 True) ∧
 True ∧
 ((1 :
 Nat) +
 (0 :
 Nat) =
 plus
 (0 :
 Nat)
 (1 :
 Nat) ∧
 True) ∧
 True ∧
 (((True ∧
 True ∧
 True ∧
 True) ∧
 True) ∧
 True) ∧
 (r_1.2.1 ≤
 r_1.2.2.2.2.1 ∧
 ((0 :
 Nat) +
 (1 :
 Nat) ≤
 (1 :
 Nat) ∧
 (3 :
 Nat) =
 (3 :
 Nat)) ∧
 (r_1.2.1 +
 (1 :
 Nat)) *
 (24 :
 Nat) ≤
 (140737488355328 :
 Nat) ∧
 r_1.2.1 +
 (1 :
 Nat) ≤
 maxLen) ∧
 True ∧
 True ∧
 True ∧
 ((1 :
 Nat) +
 ((1 :
 Nat) +
 ((1 :
 Nat) +
 ((1 :
 Nat) +
 (0 :
 Nat)))) =
 plus
 (0 :
 Nat)
 (4 :
 Nat) ∧
 True) ∧
 ((0 :
 Int) ≤
 (0 :
 Int) ∧
 (0 :
 Int) <
 (↑(r_1.2.1 +
 (1 :
 Nat)) :
 Int)) ∧
 True ∧
 (plus
 (0 :
 Nat)
 (Int.toNat
 (0 :
 Int)) *
 (3 :
 Nat) +
 ((1 :
 Nat) +
 (0 :
 Nat)) =
 plus
 (plus
 (0 :
 Nat)
 (Int.toNat
 (0 :
 Int)) *
 (3 :
 Nat))
 (1 :
 Nat) ∧
 (plus
 (0 :
 Nat)
 (Int.toNat
 (0 :
 Int)) <
 r_1.2.1 +
 (1 :
 Nat) ∧
 True) ∧
 True) ∧
 True ∧
 True ∧
 ((0 :
 Nat) =
 plus
 (0 :
 Nat)
 (0 :
 Nat) ∧
 True) ∧
 True ∧
 ((1 :
 Nat) +
 ((1 :
 Nat) +
 ((1 :
 Nat) +
 ((1 :
 Nat) +
 (0 :
 Nat)))) =
 plus
 (0 :
 Nat)
 (4 :
 Nat) ∧
 True) ∧
 True ∧
 ((1 :
 Nat) +
 ((1 :
 Nat) +
 (0 :
 Nat)) =
 plus
 (0 :
 Nat)
 (2 :
 Nat) ∧
 True) ∧
 True ∧
 ((1 :
 Nat) +
 ((1 :
 Nat) +
 ((1 :
 Nat) +
 (0 :
 Nat))) =
 plus
 (0 :
 Nat)
 (3 :
 Nat) ∧
 True) ∧
 True ∧
 ((0 :
 Nat) =
 plus
 (0 :
 Nat)
 (0 :
 Nat) ∧
 True) ∧
 True ∧
 True ∧
 ((Aa ==
 (9 :
 Int)) =
 true →
 True ∧
 true =
 true ∧
 ((1 :
 Nat) +
 (0 :
 Nat) =
 plus
 (0 :
 Nat)
 (1 :
 Nat) ∧
 True) ∧
 true =
 true ∧
 True ∧
 True ∧
 (decide
 (r.2.2.1 <
 (65536 :
 Int)) =
 true →
 True ∧
 ((1 :
 Nat) +
 (0 :
 Nat) =
 plus
 (0 :
 Nat)
 (1 :
 Nat) ∧
 True) ∧
 True ∧
 True ∧
 ((1 :
 Nat) +
 (0 :
 Nat) =
 plus
 (0 :
 Nat)
 (1 :
 Nat) ∧
 True) ∧
 ((True ∧
 Sub
 (.pt
 (1000 :
 Nat)
 []
 (0 :
 Nat))
 (.pt
 (1000 :
 Nat)
 []
 (0 :
 Nat)) ∧
 True ∧
 Sub
 (.pt
 (1001 :
 Nat)
 []
 (0 :
 Nat))
 (.pt
 (1001 :
 Nat)
 []
 (0 :
 Nat)) ∧
 True ∧
 Sub
 (.pt
 (1002 :
 Nat)
 []
 (0 :
 Nat))
 (.pt
 (1002 :
 Nat)
 []
 (0 :
 Nat)) ∧
 True ∧
 Sub
 (.rf
 (1003 :
 Nat)
 (3 :
 Nat)
 (0 :
 Nat)
 (r_1.2.1 +
 (1 :
 Nat)))
 (.rf
 (1003 :
 Nat)
 (3 :
 Nat)
 (0 :
 Nat)
 (r_1.2.1 +
 (1 :
 Nat))) ∧
 True) ∧
 (True ∧
 True ∧
 True ∧
 True) ∧
 SubB
 (.cons
 (1 :
 Nat)
 (.sc
 (Value.int
 IntKind.i64
 Aa))
 (.cons
 (1 :
 Nat)
 (.sc
 (Value.int
 IntKind.i64
 Aba))
 (.cons
 (1 :
 Nat)
 (.sc
 (Value.int
 IntKind.i64
 Abba))
 .nil)))
 (.cons
 (1 :
 Nat)
 (.sc
 (Value.int
 IntKind.i64
 Aa))
 (.cons
 (1 :
 Nat)
 (.sc
 (Value.int
 IntKind.i64
 Aba))
 (.cons
 (1 :
 Nat)
 (.sc
 (Value.int
 IntKind.i64
 Abba))
 .nil))) ∧
 (True ∧
 True ∧
 True ∧
 True ∧
 True ∧
 True) ∧
 SubB
 (.cons
 (1 :
 Nat)
 (.sc
 (Value.slice
 none
 (0 :
 Nat)
 (0 :
 Nat)))
 (.cons
 (1 :
 Nat)
 (.sc
 (Value.int
 IntKind.i64
 (0 :
 Int)))
 (.cons
 (1 :
 Nat)
 (.sc
 (Value.int
 IntKind.i64
 (0 :
 Int)))
 (.cons
 (1 :
 Nat)
 (.sc
 (Value.bool
 false))
 (.cons
 (1 :
 Nat)
 (.sc
 (Value.int
 IntKind.i64
 (0 :
 Int)))
 .nil)))))
 (.cons
 (1 :
 Nat)
 (.sc
 (Value.slice
 none
 (0 :
 Nat)
 (0 :
 Nat)))
 (.cons
 (1 :
 Nat)
 (.sc
 (Value.int
 IntKind.i64
 (0 :
 Int)))
 (.cons
 (1 :
 Nat)
 (.sc
 (Value.int
 IntKind.i64
 (0 :
 Int)))
 (.cons
 (1 :
 Nat)
 (.sc
 (Value.bool
 false))
 (.cons
 (1 :
 Nat)
 (.sc
 (Value.int
 IntKind.i64
 (0 :
 Int)))
 .nil))))) ∧
 (True ∧
 True ∧
 True ∧
 True ∧
 True ∧
 True) ∧
 SubB
 (.cons
 (1 :
 Nat)
 (.rf
 (1004 :
 Nat)
 (1 :
 Nat)
 (0 :
 Nat)
 r_1.1)
 (.cons
 (1 :
 Nat)
 (.sc
 (Value.int
 IntKind.i64
 (IntKind.i64.wrap
 (r.2.2.1 +
 (1 :
 Int)))))
 (.cons
 (1 :
 Nat)
 (.sc
 (Value.int
 IntKind.i64
 (0 :
 Int)))
 (.cons
 (1 :
 Nat)
 (.sc
 (Value.bool
 false))
 (.cons
 (1 :
 Nat)
 (.sc
 (Value.int
 IntKind.i64
 (0 :
 Int)))
 .nil)))))
 (.cons
 (1 :
 Nat)
 (.rf
 (1004 :
 Nat)
 (1 :
 Nat)
 (0 :
 Nat)
 r_1.1)
 (.cons
 (1 :
 Nat)
 (.sc
 (Value.int
 IntKind.i64
 (IntKind.i64.wrap
 (r.2.2.1 +
 (1 :
 Int)))))
 (.cons
 (1 :
 Nat)
 (.sc
 (Value.int
 IntKind.i64
 (0 :
 Int)))
 (.cons
 (1 :
 Nat)
 (.sc
 (Value.bool
 false))
 (.cons
 (1 :
 Nat)
 (.sc
 (Value.int
 IntKind.i64
 (0 :
 Int)))
 .nil))))) ∧
 True ∧
 SubB
 (.ar
 (r_1.2.1 +
 (1 :
 Nat))
 (3 :
 Nat)
 fun
 (i :
 Nat) =>
 .cons
 (1 :
 Nat)
 (.sc
 (Value.int
 IntKind.i64
 (bif
 i.beq
 (plus
 (0 :
 Nat)
 (Int.toNat
 (0 :
 Int))) then
 bif
 (plus
 (0 :
 Nat)
 (Int.toNat
 (0 :
 Int))).blt
 r_1.2.1 then
 r_1.2.2.2.2.2.1
 (plus
 (0 :
 Nat)
 (Int.toNat
 (0 :
 Int)))
 else
 Aa
 else
 bif
 i.blt
 r_1.2.1 then
 r_1.2.2.2.2.2.1
 i
 else
 Aa)))
 (.cons
 (1 :
 Nat)
 (.sc
 (Value.int
 IntKind.i64
 (bif
 i.beq
 (plus
 (0 :
 Nat)
 (Int.toNat
 (0 :
 Int))) then
 tbbbba
 else
 bif
 i.blt
 r_1.2.1 then
 r_1.2.2.2.2.2.2.1
 i
 else
 (0 :
 Int))))
 (.cons
 (1 :
 Nat)
 (.sc
 (Value.int
 IntKind.i64
 (bif
 i.beq
 (plus
 (0 :
 Nat)
 (Int.toNat
 (0 :
 Int))) then
 bif
 (plus
 (0 :
 Nat)
 (Int.toNat
 (0 :
 Int))).blt
 r_1.2.1 then
 r_1.2.2.2.2.2.2.2
 (plus
 (0 :
 Nat)
 (Int.toNat
 (0 :
 Int)))
 else
 Aba
 else
 bif
 i.blt
 r_1.2.1 then
 r_1.2.2.2.2.2.2.2
 i
 else
 Aba)))
 .nil)))
 (.ar
 (r_1.2.1 +
 (1 :
 Nat))
 (3 :
 Nat)
 fun
 (i0 :
 Nat) =>
 .cons
 (1 :
 Nat)
 (.sc
 (Value.int
 IntKind.i64
 (bif
 i0.beq
 (plus
 (0 :
 Nat)
 (Int.toNat
 (0 :
 Int))) then
 bif
 (plus
 (0 :
 Nat)
 (Int.toNat
 (0 :
 Int))).blt
 r_1.2.1 then
 r_1.2.2.2.2.2.1
 (plus
 (0 :
 Nat)
 (Int.toNat
 (0 :
 Int)))
 else
 Aa
 else
 bif
 i0.blt
 r_1.2.1 then
 r_1.2.2.2.2.2.1
 i0
 else
 Aa)))
 (.cons
 (1 :
 Nat)
 (.sc
 (Value.int
 IntKind.i64
 (bif
 i0.beq
 (plus
 (0 :
 Nat)
 (Int.toNat
 (0 :
 Int))) then
 tbbbba
 else
 bif
 i0.blt
 r_1.2.1 then
 r_1.2.2.2.2.2.2.1
 i0
 else
 (0 :
 Int))))
 (.cons
 (1 :
 Nat)
 (.sc
 (Value.int
 IntKind.i64
 (bif
 i0.beq
 (plus
 (0 :
 Nat)
 (Int.toNat
 (0 :
 Int))) then
 bif
 (plus
 (0 :
 Nat)
 (Int.toNat
 (0 :
 Int))).blt
 r_1.2.1 then
 r_1.2.2.2.2.2.2.2
 (plus
 (0 :
 Nat)
 (Int.toNat
 (0 :
 Int)))
 else
 Aba
 else
 bif
 i0.blt
 r_1.2.1 then
 r_1.2.2.2.2.2.2.2
 i0
 else
 Aba)))
 .nil))) ∧
 True ∧
 SubB
 (.ar
 r_1.2.2.1
 (1 :
 Nat)
 fun
 (i0 :
 Nat) =>
 .sc
 (Value.int
 IntKind.i64
 (r_1.2.2.2.1
 i0)))
 (.ar
 r_1.2.2.1
 (1 :
 Nat)
 fun
 (i0 :
 Nat) =>
 .sc
 (Value.int
 IntKind.i64
 (r_1.2.2.2.1
 i0))) ∧
 True) ∧
 L48_2
 (r_1.2.1 +
 (1 :
 Nat))
 Aa
 Aba
 Abba
 (0 :
 Int)
 (0 :
 Int)
 false
 (0 :
 Int)
 r_1.1
 (IntKind.i64.wrap
 (r.2.2.1 +
 (1 :
 Int)))
 (0 :
 Int)
 false
 (0 :
 Int)
 (r_1.2.1 +
 (1 :
 Nat))
 (fun
 (i :
 Nat) =>
 bif
 i.beq
 (plus
 (0 :
 Nat)
 (Int.toNat
 (0 :
 Int))) then
 bif
 (plus
 (0 :
 Nat)
 (Int.toNat
 (0 :
 Int))).blt
 r_1.2.1 then
 r_1.2.2.2.2.2.1
 (plus
 (0 :
 Nat)
 (Int.toNat
 (0 :
 Int)))
 else
 Aa
 else
 bif
 i.blt
 r_1.2.1 then
 r_1.2.2.2.2.2.1
 i
 else
 Aa)
 (fun
 (i :
 Nat) =>
 bif
 i.beq
 (plus
 (0 :
 Nat)
 (Int.toNat
 (0 :
 Int))) then
 tbbbba
 else
 bif
 i.blt
 r_1.2.1 then
 r_1.2.2.2.2.2.2.1
 i
 else
 (0 :
 Int))
 (fun
 (i :
 Nat) =>
 bif
 i.beq
 (plus
 (0 :
 Nat)
 (Int.toNat
 (0 :
 Int))) then
 bif
 (plus
 (0 :
 Nat)
 (Int.toNat
 (0 :
 Int))).blt
 r_1.2.1 then
 r_1.2.2.2.2.2.2.2
 (plus
 (0 :
 Nat)
 (Int.toNat
 (0 :
 Int)))
 else
 Aba
 else
 bif
 i.blt
 r_1.2.1 then
 r_1.2.2.2.2.2.2.2
 i
 else
 Aba)
 r_1.2.2.1
 r_1.2.2.2.1
 res) ∧
 (decide
 (r.2.2.1 <
 (65536 :
 Int)) =
 false →
 ((True ∧
 Sub
 (.pt
 (1000 :
 Nat)
 []
 (0 :
 Nat))
 (.pt
 (1000 :
 Nat)
 []
 (0 :
 Nat)) ∧
 True ∧
 Sub
 (.pt
 (1001 :
 Nat)
 []
 (0 :
 Nat))
 (.pt
 (1001 :
 Nat)
 []
 (0 :
 Nat)) ∧
 True ∧
 Sub
 (.pt
 (1002 :
 Nat)
 []
 (0 :
 Nat))
 (.pt
 (1002 :
 Nat)
 []
 (0 :
 Nat)) ∧
 True ∧
 Sub
 (.rf
 (1003 :
 Nat)
 (3 :
 Nat)
 (0 :
 Nat)
 (r_1.2.1 +
 (1 :
 Nat)))
 (.rf
 (1003 :
 Nat)
 (3 :
 Nat)
 (0 :
 Nat)
 (r_1.2.1 +
 (1 :
 Nat))) ∧
 True) ∧
 (True ∧
 True ∧
 True ∧
 True) ∧
 SubB
 (.cons
 (1 :
 Nat)
 (.sc
 (Value.int
 IntKind.i64
 Aa))
 (.cons
 (1 :
 Nat)
 (.sc
 (Value.int
 IntKind.i64
 Aba))
 (.cons
 (1 :
 Nat)
 (.sc
 (Value.int
 IntKind.i64
 Abba))
 .nil)))
 (.cons
 (1 :
 Nat)
 (.sc
 (Value.int
 IntKind.i64
 Aa))
 (.cons
 (1 :
 Nat)
 (.sc
 (Value.int
 IntKind.i64
 Aba))
 (.cons
 (1 :
 Nat)
 (.sc
 (Value.int
 IntKind.i64
 Abba))
 .nil))) ∧
 (True ∧
 True ∧
 True ∧
 True ∧
 True ∧
 True) ∧
 SubB
 (.cons
 (1 :
 Nat)
 (.sc
 (Value.slice
 none
 (0 :
 Nat)
 (0 :
 Nat)))
 (.cons
 (1 :
 Nat)
 (.sc
 (Value.int
 IntKind.i64
 (0 :
 Int)))
 (.cons
 (1 :
 Nat)
 (.sc
 (Value.int
 IntKind.i64
 (0 :
 Int)))
 (.cons
 (1 :
 Nat)
 (.sc
 (Value.bool
 false))
 (.cons
 (1 :
 Nat)
 (.sc
 (Value.int
 IntKind.i64
 (0 :
 Int)))
 .nil)))))
 (.cons
 (1 :
 Nat)
 (.sc
 (Value.slice
 none
 (0 :
 Nat)
 (0 :
 Nat)))
 (.cons
 (1 :
 Nat)
 (.sc
 (Value.int
 IntKind.i64
 (0 :
 Int)))
 (.cons
 (1 :
 Nat)
 (.sc
 (Value.int
 IntKind.i64
 (0 :
 Int)))
 (.cons
 (1 :
 Nat)
 (.sc
 (Value.bool
 false))
 (.cons
 (1 :
 Nat)
 (.sc
 (Value.int
 IntKind.i64
 (0 :
 Int)))
 .nil))))) ∧
 (True ∧
 True ∧
 True ∧
 True ∧
 True ∧
 True) ∧
 SubB
 (.cons
 (1 :
 Nat)
 (.rf
 (1004 :
 Nat)
 (1 :
 Nat)
 (0 :
 Nat)
 r_1.1)
 (.cons
 (1 :
 Nat)
 (.sc
 (Value.int
 IntKind.i64
 r.2.2.1))
 (.cons
 (1 :
 Nat)
 (.sc
 (Value.int
 IntKind.i64
 (0 :
 Int)))
 (.cons
 (1 :
 Nat)
 (.sc
 (Value.bool
 false))
 (.cons
 (1 :
 Nat)
 (.sc
 (Value.int
 IntKind.i64
 (0 :
 Int)))
 .nil)))))
 (.cons
 (1 :
 Nat)
 (.rf
 (1004 :
 Nat)
 (1 :
 Nat)
 (0 :
 Nat)
 r_1.1)
 (.cons
 (1 :
 Nat)
 (.sc
 (Value.int
 IntKind.i64
 r.2.2.1))
 (.cons
 (1 :
 Nat)
 (.sc
 (Value.int
 IntKind.i64
 (0 :
 Int)))
 (.cons
 (1 :
 Nat)
 (.sc
 (Value.bool
 false))
 (.cons
 (1 :
 Nat)
 (.sc
 (Value.int
 IntKind.i64
 (0 :
 Int)))
 .nil))))) ∧
 True ∧
 SubB
 (.ar
 (r_1.2.1 +
 (1 :
 Nat))
 (3 :
 Nat)
 fun
 (i :
 Nat) =>
 .cons
 (1 :
 Nat)
 (.sc
 (Value.int
 IntKind.i64
 (bif
 i.beq
 (plus
 (0 :
 Nat)
 (Int.toNat
 (0 :
 Int))) then
 bif
 (plus
 (0 :
 Nat)
 (Int.toNat
 (0 :
 Int))).blt
 r_1.2.1 then
 r_1.2.2.2.2.2.1
 (plus
 (0 :
 Nat)
 (Int.toNat
 (0 :
 Int)))
 else
 Aa
 else
 bif
 i.blt
 r_1.2.1 then
 r_1.2.2.2.2.2.1
 i
 else
 Aa)))
 (.cons
 (1 :
 Nat)
 (.sc
 (Value.int
 IntKind.i64
 (bif
 i.beq
 (plus
 (0 :
 Nat)
 (Int.toNat
 (0 :
 Int))) then
 tbbbba
 else
 bif
 i.blt
 r_1.2.1 then
 r_1.2.2.2.2.2.2.1
 i
 else
 (0 :
 Int))))
 (.cons
 (1 :
 Nat)
 (.sc
 (Value.int
 IntKind.i64
 (bif
 i.beq
 (plus
 (0 :
 Nat)
 (Int.toNat
 (0 :
 Int))) then
 bif
 (plus
 (0 :
 Nat)
 (Int.toNat
 (0 :
 Int))).blt
 r_1.2.1 then
 r_1.2.2.2.2.2.2.2
 (plus
 (0 :
 Nat)
 (Int.toNat
 (0 :
 Int)))
 else
 Aba
 else
 bif
 i.blt
 r_1.2.1 then
 r_1.2.2.2.2.2.2.2
 i
 else
 Aba)))
 .nil)))
 (.ar
 (r_1.2.1 +
 (1 :
 Nat))
 (3 :
 Nat)
 fun
 (i0 :
 Nat) =>
 .cons
 (1 :
 Nat)
 (.sc
 (Value.int
 IntKind.i64
 (bif
 i0.beq
 (plus
 (0 :
 Nat)
 (Int.toNat
 (0 :
 Int))) then
 bif
 (plus
 (0 :
 Nat)
 (Int.toNat
 (0 :
 Int))).blt
 r_1.2.1 then
 r_1.2.2.2.2.2.1
 (plus
 (0 :
 Nat)
 (Int.toNat
 (0 :
 Int)))
 else
 Aa
 else
 bif
 i0.blt
 r_1.2.1 then
 r_1.2.2.2.2.2.1
 i0
 else
 Aa)))
 (.cons
 (1 :
 Nat)
 (.sc
 (Value.int
 IntKind.i64
 (bif
 i0.beq
 (plus
 (0 :
 Nat)
 (Int.toNat
 (0 :
 Int))) then
 tbbbba
 else
 bif
 i0.blt
 r_1.2.1 then
 r_1.2.2.2.2.2.2.1
 i0
 else
 (0 :
 Int))))
 (.cons
 (1 :
 Nat)
 (.sc
 (Value.int
 IntKind.i64
 (bif
 i0.beq
 (plus
 (0 :
 Nat)
 (Int.toNat
 (0 :
 Int))) then
 bif
 (plus
 (0 :
 Nat)
 (Int.toNat
 (0 :
 Int))).blt
 r_1.2.1 then
 r_1.2.2.2.2.2.2.2
 (plus
 (0 :
 Nat)
 (Int.toNat
 (0 :
 Int)))
 else
 Aba
 else
 bif
 i0.blt
 r_1.2.1 then
 r_1.2.2.2.2.2.2.2
 i0
 else
 Aba)))
 .nil))) ∧
 True ∧
 SubB
 (.ar
 r_1.2.2.1
 (1 :
 Nat)
 fun
 (i0 :
 Nat) =>
 .sc
 (Value.int
 IntKind.i64
 (r_1.2.2.2.1
 i0)))
 (.ar
 r_1.2.2.1
 (1 :
 Nat)
 fun
 (i0 :
 Nat) =>
 .sc
 (Value.int
 IntKind.i64
 (r_1.2.2.2.1
 i0))) ∧
 True) ∧
 L48_2
 (r_1.2.1 +
 (1 :
 Nat))
 Aa
 Aba
 Abba
 (0 :
 Int)
 (0 :
 Int)
 false
 (0 :
 Int)
 r_1.1
 r.2.2.1
 (0 :
 Int)
 false
 (0 :
 Int)
 (r_1.2.1 +
 (1 :
 Nat))
 (fun
 (i :
 Nat) =>
 bif
 i.beq
 (plus
 (0 :
 Nat)
 (Int.toNat
 (0 :
 Int))) then
 bif
 (plus
 (0 :
 Nat)
 (Int.toNat
 (0 :
 Int))).blt
 r_1.2.1 then
 r_1.2.2.2.2.2.1
 (plus
 (0 :
 Nat)
 (Int.toNat
 (0 :
 Int)))
 else
 Aa
 else
 bif
 i.blt
 r_1.2.1 then
 r_1.2.2.2.2.2.1
 i
 else
 Aa)
 (fun
 (i :
 Nat) =>
 bif
 i.beq
 (plus
 (0 :
 Nat)
 (Int.toNat
 (0 :
 Int))) then
 tbbbba
 else
 bif
 i.blt
 r_1.2.1 then
 r_1.2.2.2.2.2.2.1
 i
 else
 (0 :
 Int))
 (fun
 (i :
 Nat) =>
 bif
 i.beq
 (plus
 (0 :
 Nat)
 (Int.toNat
 (0 :
 Int))) then
 bif
 (plus
 (0 :
 Nat)
 (Int.toNat
 (0 :
 Int))).blt
 r_1.2.1 then
 r_1.2.2.2.2.2.2.2
 (plus
 (0 :
 Nat)
 (Int.toNat
 (0 :
 Int)))
 else
 Aba
 else
 bif
 i.blt
 r_1.2.1 then
 r_1.2.2.2.2.2.2.2
 i
 else
 Aba)
 r_1.2.2.1
 r_1.2.2.2.1
 res)) ∧
 ((Aa ==
 (9 :
 Int)) =
 !true →
 true =
 true ∧
 (!true) =
 !true ∧
 true =
 true ∧
 (!true) =
 !true ∧
 true =
 true ∧
 True ∧
 false =
 false ∧
 ((True ∧
 Sub
 (.pt
 (1000 :
 Nat)
 []
 (0 :
 Nat))
 (.pt
 (1000 :
 Nat)
 []
 (0 :
 Nat)) ∧
 True ∧
 Sub
 (.pt
 (1001 :
 Nat)
 []
 (0 :
 Nat))
 (.pt
 (1001 :
 Nat)
 []
 (0 :
 Nat)) ∧
 True ∧
 Sub
 (.pt
 (1002 :
 Nat)
 []
 (0 :
 Nat))
 (.pt
 (1002 :
 Nat)
 []
 (0 :
 Nat)) ∧
 True ∧
 Sub
 (.rf
 (1003 :
 Nat)
 (3 :
 Nat)
 (0 :
 Nat)
 (r_1.2.1 +
 (1 :
 Nat)))
 (.rf
 (1003 :
 Nat)
 (3 :
 Nat)
 (0 :
 Nat)
 (r_1.2.1 +
 (1 :
 Nat))) ∧
 True) ∧
 (True ∧
 True ∧
 True ∧
 True) ∧
 SubB
 (.cons
 (1 :
 Nat)
 (.sc
 (Value.int
 IntKind.i64
 Aa))
 (.cons
 (1 :
 Nat)
 (.sc
 (Value.int
 IntKind.i64
 Aba))
 (.cons
 (1 :
 Nat)
 (.sc
 (Value.int
 IntKind.i64
 Abba))
 .nil)))
 (.cons
 (1 :
 Nat)
 (.sc
 (Value.int
 IntKind.i64
 Aa))
 (.cons
 (1 :
 Nat)
 (.sc
 (Value.int
 IntKind.i64
 Aba))
 (.cons
 (1 :
 Nat)
 (.sc
 (Value.int
 IntKind.i64
 Abba))
 .nil))) ∧
 (True ∧
 True ∧
 True ∧
 True ∧
 True ∧
 True) ∧
 SubB
 (.cons
 (1 :
 Nat)
 (.sc
 (Value.slice
 none
 (0 :
 Nat)
 (0 :
 Nat)))
 (.cons
 (1 :
 Nat)
 (.sc
 (Value.int
 IntKind.i64
 (0 :
 Int)))
 (.cons
 (1 :
 Nat)
 (.sc
 (Value.int
 IntKind.i64
 (0 :
 Int)))
 (.cons
 (1 :
 Nat)
 (.sc
 (Value.bool
 false))
 (.cons
 (1 :
 Nat)
 (.sc
 (Value.int
 IntKind.i64
 (0 :
 Int)))
 .nil)))))
 (.cons
 (1 :
 Nat)
 (.sc
 (Value.slice
 none
 (0 :
 Nat)
 (0 :
 Nat)))
 (.cons
 (1 :
 Nat)
 (.sc
 (Value.int
 IntKind.i64
 (0 :
 Int)))
 (.cons
 (1 :
 Nat)
 (.sc
 (Value.int
 IntKind.i64
 (0 :
 Int)))
 (.cons
 (1 :
 Nat)
 (.sc
 (Value.bool
 false))
 (.cons
 (1 :
 Nat)
 (.sc
 (Value.int
 IntKind.i64
 (0 :
 Int)))
 .nil))))) ∧
 (True ∧
 True ∧
 True ∧
 True ∧
 True ∧
 True) ∧
 SubB
 (.cons
 (1 :
 Nat)
 (.rf
 (1004 :
 Nat)
 (1 :
 Nat)
 (0 :
 Nat)
 r_1.1)
 (.cons
 (1 :
 Nat)
 (.sc
 (Value.int
 IntKind.i64
 r.2.2.1))
 (.cons
 (1 :
 Nat)
 (.sc
 (Value.int
 IntKind.i64
 (0 :
 Int)))
 (.cons
 (1 :
 Nat)
 (.sc
 (Value.bool
 false))
 (.cons
 (1 :
 Nat)
 (.sc
 (Value.int
 IntKind.i64
 (0 :
 Int)))
 .nil)))))
 (.cons
 (1 :
 Nat)
 (.rf
 (1004 :
 Nat)
 (1 :
 Nat)
 (0 :
 Nat)
 r_1.1)
 (.cons
 (1 :
 Nat)
 (.sc
 (Value.int
 IntKind.i64
 r.2.2.1))
 (.cons
 (1 :
 Nat)
 (.sc
 (Value.int
 IntKind.i64
 (0 :
 Int)))
 (.cons
 (1 :
 Nat)
 (.sc
 (Value.bool
 false))
 (.cons
 (1 :
 Nat)
 (.sc
 (Value.int
 IntKind.i64
 (0 :
 Int)))
 .nil))))) ∧
 True ∧
 SubB
 (.ar
 (r_1.2.1 +
 (1 :
 Nat))
 (3 :
 Nat)
 fun
 (i :
 Nat) =>
 .cons
 (1 :
 Nat)
 (.sc
 (Value.int
 IntKind.i64
 (bif
 i.beq
 (plus
 (0 :
 Nat)
 (Int.toNat
 (0 :
 Int))) then
 bif
 (plus
 (0 :
 Nat)
 (Int.toNat
 (0 :
 Int))).blt
 r_1.2.1 then
 r_1.2.2.2.2.2.1
 (plus
 (0 :
 Nat)
 (Int.toNat
 (0 :
 Int)))
 else
 Aa
 else
 bif
 i.blt
 r_1.2.1 then
 r_1.2.2.2.2.2.1
 i
 else
 Aa)))
 (.cons
 (1 :
 Nat)
 (.sc
 (Value.int
 IntKind.i64
 (bif
 i.beq
 (plus
 (0 :
 Nat)
 (Int.toNat
 (0 :
 Int))) then
 tbbbba
 else
 bif
 i.blt
 r_1.2.1 then
 r_1.2.2.2.2.2.2.1
 i
 else
 (0 :
 Int))))
 (.cons
 (1 :
 Nat)
 (.sc
 (Value.int
 IntKind.i64
 (bif
 i.beq
 (plus
 (0 :
 Nat)
 (Int.toNat
 (0 :
 Int))) then
 bif
 (plus
 (0 :
 Nat)
 (Int.toNat
 (0 :
 Int))).blt
 r_1.2.1 then
 r_1.2.2.2.2.2.2.2
 (plus
 (0 :
 Nat)
 (Int.toNat
 (0 :
 Int)))
 else
 Aba
 else
 bif
 i.blt
 r_1.2.1 then
 r_1.2.2.2.2.2.2.2
 i
 else
 Aba)))
 .nil)))
 (.ar
 (r_1.2.1 +
 (1 :
 Nat))
 (3 :
 Nat)
 fun
 (i0 :
 Nat) =>
 .cons
 (1 :
 Nat)
 (.sc
 (Value.int
 IntKind.i64
 (bif
 i0.beq
 (plus
 (0 :
 Nat)
 (Int.toNat
 (0 :
 Int))) then
 bif
 (plus
 (0 :
 Nat)
 (Int.toNat
 (0 :
 Int))).blt
 r_1.2.1 then
 r_1.2.2.2.2.2.1
 (plus
 (0 :
 Nat)
 (Int.toNat
 (0 :
 Int)))
 else
 Aa
 else
 bif
 i0.blt
 r_1.2.1 then
 r_1.2.2.2.2.2.1
 i0
 else
 Aa)))
 (.cons
 (1 :
 Nat)
 (.sc
 (Value.int
 IntKind.i64
 (bif
 i0.beq
 (plus
 (0 :
 Nat)
 (Int.toNat
 (0 :
 Int))) then
 tbbbba
 else
 bif
 i0.blt
 r_1.2.1 then
 r_1.2.2.2.2.2.2.1
 i0
 else
 (0 :
 Int))))
 (.cons
 (1 :
 Nat)
 (.sc
 (Value.int
 IntKind.i64
 (bif
 i0.beq
 (plus
 (0 :
 Nat)
 (Int.toNat
 (0 :
 Int))) then
 bif
 (plus
 (0 :
 Nat)
 (Int.toNat
 (0 :
 Int))).blt
 r_1.2.1 then
 r_1.2.2.2.2.2.2.2
 (plus
 (0 :
 Nat)
 (Int.toNat
 (0 :
 Int)))
 else
 Aba
 else
 bif
 i0.blt
 r_1.2.1 then
 r_1.2.2.2.2.2.2.2
 i0
 else
 Aba)))
 .nil))) ∧
 True ∧
 SubB
 (.ar
 r_1.2.2.1
 (1 :
 Nat)
 fun
 (i0 :
 Nat) =>
 .sc
 (Value.int
 IntKind.i64
 (r_1.2.2.2.1
 i0)))
 (.ar
 r_1.2.2.1
 (1 :
 Nat)
 fun
 (i0 :
 Nat) =>
 .sc
 (Value.int
 IntKind.i64
 (r_1.2.2.2.1
 i0))) ∧
 True) ∧
 L48_2
 (r_1.2.1 +
 (1 :
 Nat))
 Aa
 Aba
 Abba
 (0 :
 Int)
 (0 :
 Int)
 false
 (0 :
 Int)
 r_1.1
 r.2.2.1
 (0 :
 Int)
 false
 (0 :
 Int)
 (r_1.2.1 +
 (1 :
 Nat))
 (fun
 (i :
 Nat) =>
 bif
 i.beq
 (plus
 (0 :
 Nat)
 (Int.toNat
 (0 :
 Int))) then
 bif
 (plus
 (0 :
 Nat)
 (Int.toNat
 (0 :
 Int))).blt
 r_1.2.1 then
 r_1.2.2.2.2.2.1
 (plus
 (0 :
 Nat)
 (Int.toNat
 (0 :
 Int)))
 else
 Aa
 else
 bif
 i.blt
 r_1.2.1 then
 r_1.2.2.2.2.2.1
 i
 else
 Aa)
 (fun
 (i :
 Nat) =>
 bif
 i.beq
 (plus
 (0 :
 Nat)
 (Int.toNat
 (0 :
 Int))) then
 tbbbba
 else
 bif
 i.blt
 r_1.2.1 then
 r_1.2.2.2.2.2.2.1
 i
 else
 (0 :
 Int))
 (fun
 (i :
 Nat) =>
 bif
 i.beq
 (plus
 (0 :
 Nat)
 (Int.toNat
 (0 :
 Int))) then
 bif
 (plus
 (0 :
 Nat)
 (Int.toNat
 (0 :
 Int))).blt
 r_1.2.1 then
 r_1.2.2.2.2.2.2.2
 (plus
 (0 :
 Nat)
 (Int.toNat
 (0 :
 Int)))
 else
 Aba
 else
 bif
 i.blt
 r_1.2.1 then
 r_1.2.2.2.2.2.2.2
 i
 else
 Aba)
 r_1.2.2.1
 r_1.2.2.2.1
 res)))) ∧
 ((!tbbba) =
 !true →
 true =
 true ∧
 (!true) =
 !true ∧
 true =
 true ∧
 (!true) =
 !true ∧
 true =
 true ∧
 True ∧
 True ∧
 false =
 false ∧
 True ∧
 ((0 :
 Nat) =
 plus
 (0 :
 Nat)
 (0 :
 Nat) ∧
 True) ∧
 True ∧
 True ∧
 ((Aa ==
 (19 :
 Int)) =
 true →
 True ∧
 ((1 :
 Nat) +
 ((1 :
 Nat) +
 ((1 :
 Nat) +
 ((1 :
 Nat) +
 (0 :
 Nat)))) =
 plus
 (0 :
 Nat)
 (4 :
 Nat) ∧
 True) ∧
 True ∧
 ((1 :
 Nat) +
 (0 :
 Nat) =
 plus
 (0 :
 Nat)
 (1 :
 Nat) ∧
 True) ∧
 True ∧
 True ∧
 ((1 :
 Nat) +
 ((1 :
 Nat) +
 ((1 :
 Nat) +
 ((1 :
 Nat) +
 (0 :
 Nat)))) =
 plus
 (0 :
 Nat)
 (4 :
 Nat) ∧
 True) ∧
 True ∧
 ((1 :
 Nat) +
 (0 :
 Nat) =
 plus
 (0 :
 Nat)
 (1 :
 Nat) ∧
 True) ∧
 True ∧
 ((tba ==
 (0 :
 Int)) =
 true →
 True ∧
 ((1 :
 Nat) +
 ((1 :
 Nat) +
 (0 :
 Nat)) =
 plus
 (0 :
 Nat)
 (2 :
 Nat) ∧
 True) ∧
 ((True ∧
 Sub
 (.pt
 (1000 :
 Nat)
 []
 (0 :
 Nat))
 (.pt
 (1000 :
 Nat)
 []
 (0 :
 Nat)) ∧
 True ∧
 Sub
 (.pt
 (1001 :
 Nat)
 []
 (0 :
 Nat))
 (.pt
 (1001 :
 Nat)
 []
 (0 :
 Nat)) ∧
 True) ∧
 (True ∧
 True ∧
 True ∧
 True ∧
 True ∧
 True) ∧
 SubB
 (.cons
 (1 :
 Nat)
 (.sc
 (Value.slice
 none
 (0 :
 Nat)
 (0 :
 Nat)))
 (.cons
 (1 :
 Nat)
 (.sc
 (Value.int
 IntKind.i64
 (0 :
 Int)))
 (.cons
 (1 :
 Nat)
 (.sc
 (Value.int
 IntKind.i64
 (0 :
 Int)))
 (.cons
 (1 :
 Nat)
 (.sc
 (Value.bool
 false))
 (.cons
 (1 :
 Nat)
 (.sc
 (Value.int
 IntKind.i64
 (0 :
 Int)))
 .nil)))))
 (.cons
 (1 :
 Nat)
 (.sc
 (Value.slice
 none
 (0 :
 Nat)
 (0 :
 Nat)))
 (.cons
 (1 :
 Nat)
 (.sc
 (Value.int
 IntKind.i64
 (0 :
 Int)))
 (.cons
 (1 :
 Nat)
 (.sc
 (Value.int
 IntKind.i64
 (0 :
 Int)))
 (.cons
 (1 :
 Nat)
 (.sc
 (Value.bool
 false))
 (.cons
 (1 :
 Nat)
 (.sc
 (Value.int
 IntKind.i64
 (0 :
 Int)))
 .nil))))) ∧
 (True ∧
 True ∧
 True ∧
 True ∧
 True ∧
 True) ∧
 SubB
 (.cons
 (1 :
 Nat)
 (.vec
 false
 (1 :
 Nat)
 r.1
 r.1
 fun
 (i0 :
 Nat) =>
 .sc
 (Value.int
 IntKind.i64
 (r.2.1
 i0)))
 (.cons
 (1 :
 Nat)
 (.sc
 (Value.int
 IntKind.i64
 r.2.2.1))
 (.cons
 (1 :
 Nat)
 (.sc
 (Value.int
 IntKind.i64
 (0 :
 Int)))
 (.cons
 (1 :
 Nat)
 (.sc
 (Value.bool
 r.2.2.2.2.1))
 (.cons
 (1 :
 Nat)
 (.sc
 (Value.int
 IntKind.i64
 (IntKind.i64.wrap
 (tbbbba +
 Aba))))
 .nil)))))
 (.cons
 (1 :
 Nat)
 (.vec
 false
 (1 :
 Nat)
 r.1
 r.1
 fun
 (i0 :
 Nat) =>
 .sc
 (Value.int
 IntKind.i64
 (r.2.1
 i0)))
 (.cons
 (1 :
 Nat)
 (.sc
 (Value.int
 IntKind.i64
 r.2.2.1))
 (.cons
 (1 :
 Nat)
 (.sc
 (Value.int
 IntKind.i64
 (0 :
 Int)))
 (.cons
 (1 :
 Nat)
 (.sc
 (Value.bool
 r.2.2.2.2.1))
 (.cons
 (1 :
 Nat)
 (.sc
 (Value.int
 IntKind.i64
 (IntKind.i64.wrap
 (tbbbba +
 Aba))))
 .nil))))) ∧
 True) ∧
 L48_1
 (0 :
 Int)
 (0 :
 Int)
 false
 (0 :
 Int)
 r.1
 r.2.1
 r.2.2.1
 (0 :
 Int)
 r.2.2.2.2.1
 (IntKind.i64.wrap
 (tbbbba +
 Aba))
 res) ∧
 ((tba ==
 (0 :
 Int)) =
 false →
 ((True ∧
 Sub
 (.pt
 (1000 :
 Nat)
 []
 (0 :
 Nat))
 (.pt
 (1000 :
 Nat)
 []
 (0 :
 Nat)) ∧
 True ∧
 Sub
 (.pt
 (1001 :
 Nat)
 []
 (0 :
 Nat))
 (.pt
 (1001 :
 Nat)
 []
 (0 :
 Nat)) ∧
 True) ∧
 (True ∧
 True ∧
 True ∧
 True ∧
 True ∧
 True) ∧
 SubB
 (.cons
 (1 :
 Nat)
 (.sc
 (Value.slice
 none
 (0 :
 Nat)
 (0 :
 Nat)))
 (.cons
 (1 :
 Nat)
 (.sc
 (Value.int
 IntKind.i64
 (0 :
 Int)))
 (.cons
 (1 :
 Nat)
 (.sc
 (Value.int
 IntKind.i64
 (0 :
 Int)))
 (.cons
 (1 :
 Nat)
 (.sc
 (Value.bool
 false))
 (.cons
 (1 :
 Nat)
 (.sc
 (Value.int
 IntKind.i64
 (0 :
 Int)))
 .nil)))))
 (.cons
 (1 :
 Nat)
 (.sc
 (Value.slice
 none
 (0 :
 Nat)
 (0 :
 Nat)))
 (.cons
 (1 :
 Nat)
 (.sc
 (Value.int
 IntKind.i64
 (0 :
 Int)))
 (.cons
 (1 :
 Nat)
 (.sc
 (Value.int
 IntKind.i64
 (0 :
 Int)))
 (.cons
 (1 :
 Nat)
 (.sc
 (Value.bool
 false))
 (.cons
 (1 :
 Nat)
 (.sc
 (Value.int
 IntKind.i64
 (0 :
 Int)))
 .nil))))) ∧
 (True ∧
 True ∧
 True ∧
 True ∧
 True ∧
 True) ∧
 SubB
 (.cons
 (1 :
 Nat)
 (.vec
 false
 (1 :
 Nat)
 r.1
 r.1
 fun
 (i0 :
 Nat) =>
 .sc
 (Value.int
 IntKind.i64
 (r.2.1
 i0)))
 (.cons
 (1 :
 Nat)
 (.sc
 (Value.int
 IntKind.i64
 r.2.2.1))
 (.cons
 (1 :
 Nat)
 (.sc
 (Value.int
 IntKind.i64
 r.2.2.2.1))
 (.cons
 (1 :
 Nat)
 (.sc
 (Value.bool
 r.2.2.2.2.1))
 (.cons
 (1 :
 Nat)
 (.sc
 (Value.int
 IntKind.i64
 (IntKind.i64.wrap
 (tbbbba +
 Aba))))
 .nil)))))
 (.cons
 (1 :
 Nat)
 (.vec
 false
 (1 :
 Nat)
 r.1
 r.1
 fun
 (i0 :
 Nat) =>
 .sc
 (Value.int
 IntKind.i64
 (r.2.1
 i0)))
 (.cons
 (1 :
 Nat)
 (.sc
 (Value.int
 IntKind.i64
 r.2.2.1))
 (.cons
 (1 :
 Nat)
 (.sc
 (Value.int
 IntKind.i64
 r.2.2.2.1))
 (.cons
 (1 :
 Nat)
 (.sc
 (Value.bool
 r.2.2.2.2.1))
 (.cons
 (1 :
 Nat)
 (.sc
 (Value.int
 IntKind.i64
 (IntKind.i64.wrap
 (tbbbba +
 Aba))))
 .nil))))) ∧
 True) ∧
 L48_1
 (0 :
 Int)
 (0 :
 Int)
 false
 (0 :
 Int)
 r.1
 r.2.1
 r.2.2.1
 r.2.2.2.1
 r.2.2.2.2.1
 (IntKind.i64.wrap
 (tbbbba +
 Aba))
 res)) ∧
 ((Aa ==
 (19 :
 Int)) =
 false →
 ((0 :
 Nat) =
 (0 :
 Nat) ∧
 True) ∧
 ∃
 (r_1
 :
 Nat ×
 Nat ×
 Nat ×
 (Nat →
 Int) ×
 Nat ×
 (Nat →
 Int) ×
 (Nat →
 Int) ×
 (Nat →
 Int)),
 (((True ∧
 True ∧
 True ∧
 True ∧
 True ∧
 True) ∧
 True) ∧
 True ∧
 Ok
 Proofs.Try.prog
 (80 :
 Nat)
 [.cons
 (1 :
 Nat)
 (.vec
 true
 (1 :
 Nat)
 tan
 tan
 fun
 (i :
 Nat) =>
 .sc
 (Value.int
 IntKind.i64
 (taf
 i)))
 (.cons
 (1 :
 Nat)
 (.sc
 (Value.int
 IntKind.i64
 tba))
 (.cons
 (1 :
 Nat)
 (.sc
 (Value.int
 IntKind.i64
 tbba))
 (.cons
 (1 :
 Nat)
 (.sc
 (Value.bool
 tbbba))
 (.cons
 (1 :
 Nat)
 (.sc
 (Value.int
 IntKind.i64
 tbbbba))
 .nil))))]
 []
 (AV.cons
 (1 :
 Nat)
 (.rf
 (1000 :
 Nat)
 (1 :
 Nat)
 (0 :
 Nat)
 r_1.1)
 (.cons
 (1 :
 Nat)
 (.rf
 (1001 :
 Nat)
 (3 :
 Nat)
 (0 :
 Nat)
 r_1.2.1)
 .nil)).tup
 [((1000 :
 Nat),
 (3 :
 Nat),
 .ar
 r_1.2.2.1
 (1 :
 Nat)
 fun
 (i0 :
 Nat) =>
 .sc
 (Value.int
 IntKind.i64
 (r_1.2.2.2.1
 i0))),
 ((1001 :
 Nat),
 (81 :
 Nat),
 .ar
 r_1.2.2.2.2.1
 (3 :
 Nat)
 fun
 (i0 :
 Nat) =>
 .cons
 (1 :
 Nat)
 (.sc
 (Value.int
 IntKind.i64
 (r_1.2.2.2.2.2.1
 i0)))
 (.cons
 (1 :
 Nat)
 (.sc
 (Value.int
 IntKind.i64
 (r_1.2.2.2.2.2.2.1
 i0)))
 (.cons
 (1 :
 Nat)
 (.sc
 (Value.int
 IntKind.i64
 (r_1.2.2.2.2.2.2.2
 i0)))
 .nil)))]) ∧
 True ∧
 True ∧
 True ∧
 True ∧
 True ∧
 True ∧
 True ∧
 ((0 :
 Nat) =
 plus
 (0 :
 Nat)
 (0 :
 Nat) ∧
 True) ∧
 True ∧
 ((1 :
 Nat) +
 (0 :
 Nat) =
 plus
 (0 :
 Nat)
 (1 :
 Nat) ∧
 True) ∧
 True ∧
 (((True ∧
 True ∧
 True ∧
 True) ∧
 True) ∧
 True) ∧
 (r_1.2.1 ≤
 r_1.2.2.2.2.1 ∧
 ((0 :
 Nat) +
 (1 :
 Nat) ≤
 (1 :
 Nat) ∧
 (3 :
 Nat) =
 (3 :
 Nat)) ∧
 (r_1.2.1 +
 (1 :
 Nat)) *
 (24 :
 Nat) ≤
 (140737488355328 :
 Nat) ∧
 r_1.2.1 +
 (1 :
 Nat) ≤
 maxLen) ∧
 True ∧
 True ∧
 True ∧
 ((1 :
 Nat) +
 ((1 :
 Nat) +
 ((1 :
 Nat) +
 ((1 :
 Nat) +
 (0 :
 Nat)))) =
 plus
 (0 :
 Nat)
 (4 :
 Nat) ∧
 True) ∧
 ((0 :
 Int) ≤
 (0 :
 Int) ∧
 (0 :
 Int) <
 (↑(r_1.2.1 +
 (1 :
 Nat)) :
 Int)) ∧
 True ∧
 (plus
 (0 :
 Nat)
 (Int.toNat
 (0 :
 Int)) *
 (3 :
 Nat) +
 ((1 :
 Nat) +
 (0 :
 Nat)) =
 plus
 (plus
 (0 :
 Nat)
 (Int.toNat
 (0 :
 Int)) *
 (3 :
 Nat))
 (1 :
 Nat) ∧
 (plus
 (0 :
 Nat)
 (Int.toNat
 (0 :
 Int)) <
 r_1.2.1 +
 (1 :
 Nat) ∧
 True) ∧
 True) ∧
 True ∧
 True ∧
 ((0 :
 Nat) =
 plus
 (0 :
 Nat)
 (0 :
 Nat) ∧
 True) ∧
 True ∧
 ((1 :
 Nat) +
 ((1 :
 Nat) +
 ((1 :
 Nat) +
 ((1 :
 Nat) +
 (0 :
 Nat)))) =
 plus
 (0 :
 Nat)
 (4 :
 Nat) ∧
 True) ∧
 True ∧
 ((1 :
 Nat) +
 ((1 :
 Nat) +
 (0 :
 Nat)) =
 plus
 (0 :
 Nat)
 (2 :
 Nat) ∧
 True) ∧
 True ∧
 ((1 :
 Nat) +
 ((1 :
 Nat) +
 ((1 :
 Nat) +
 (0 :
 Nat))) =
 plus
 (0 :
 Nat)
 (3 :
 Nat) ∧
 True) ∧
 True ∧
 ((0 :
 Nat) =
 plus
 (0 :
 Nat)
 (0 :
 Nat) ∧
 True) ∧
 True ∧
 True ∧
 ((Aa ==
 (9 :
 Int)) =
 true →
 True ∧
 true =
 true ∧
 ((1 :
 Nat) +
 (0 :
 Nat) =
 plus
 (0 :
 Nat)
 (1 :
 Nat) ∧
 True) ∧
 true =
 true ∧
 True ∧
 True ∧
 (decide
 (r.2.2.1 <
 (65536 :
 Int)) =
 true →
 True ∧
 ((1 :
 Nat) +
 (0 :
 Nat) =
 plus
 (0 :
 Nat)
 (1 :
 Nat) ∧
 True) ∧
 True ∧
 True ∧
 ((1 :
 Nat) +
 (0 :
 Nat) =
 plus
 (0 :
 Nat)
 (1 :
 Nat) ∧
 True) ∧
 ((True ∧
 Sub
 (.pt
 (1000 :
 Nat)
 []
 (0 :
 Nat))
 (.pt
 (1000 :
 Nat)
 []
 (0 :
 Nat)) ∧
 True ∧
 Sub
 (.pt
 (1001 :
 Nat)
 []
 (0 :
 Nat))
 (.pt
 (1001 :
 Nat)
 []
 (0 :
 Nat)) ∧
 True ∧
 Sub
 (.pt
 (1002 :
 Nat)
 []
 (0 :
 Nat))
 (.pt
 (1002 :
 Nat)
 []
 (0 :
 Nat)) ∧
 True ∧
 Sub
 (.rf
 (1003 :
 Nat)
 (3 :
 Nat)
 (0 :
 Nat)
 (r_1.2.1 +
 (1 :
 Nat)))
 (.rf
 (1003 :
 Nat)
 (3 :
 Nat)
 (0 :
 Nat)
 (r_1.2.1 +
 (1 :
 Nat))) ∧
 True) ∧
 (True ∧
 True ∧
 True ∧
 True) ∧
 SubB
 (.cons
 (1 :
 Nat)
 (.sc
 (Value.int
 IntKind.i64
 Aa))
 (.cons
 (1 :
 Nat)
 (.sc
 (Value.int
 IntKind.i64
 Aba))
 (.cons
 (1 :
 Nat)
 (.sc
 (Value.int
 IntKind.i64
 Abba))
 .nil)))
 (.cons
 (1 :
 Nat)
 (.sc
 (Value.int
 IntKind.i64
 Aa))
 (.cons
 (1 :
 Nat)
 (.sc
 (Value.int
 IntKind.i64
 Aba))
 (.cons
 (1 :
 Nat)
 (.sc
 (Value.int
 IntKind.i64
 Abba))
 .nil))) ∧
 (True ∧
 True ∧
 True ∧
 True ∧
 True ∧
 True) ∧
 SubB
 (.cons
 (1 :
 Nat)
 (.sc
 (Value.slice
 none
 (0 :
 Nat)
 (0 :
 Nat)))
 (.cons
 (1 :
 Nat)
 (.sc
 (Value.int
 IntKind.i64
 (0 :
 Int)))
 (.cons
 (1 :
 Nat)
 (.sc
 (Value.int
 IntKind.i64
 (0 :
 Int)))
 (.cons
 (1 :
 Nat)
 (.sc
 (Value.bool
 false))
 (.cons
 (1 :
 Nat)
 (.sc
 (Value.int
 IntKind.i64
 (0 :
 Int)))
 .nil)))))
 (.cons
 (1 :
 Nat)
 (.sc
 (Value.slice
 none
 (0 :
 Nat)
 (0 :
 Nat)))
 (.cons
 (1 :
 Nat)
 (.sc
 (Value.int
 IntKind.i64
 (0 :
 Int)))
 (.cons
 (1 :
 Nat)
 (.sc
 (Value.int
 IntKind.i64
 (0 :
 Int)))
 (.cons
 (1 :
 Nat)
 (.sc
 (Value.bool
 false))
 (.cons
 (1 :
 Nat)
 (.sc
 (Value.int
 IntKind.i64
 (0 :
 Int)))
 .nil))))) ∧
 (True ∧
 True ∧
 True ∧
 True ∧
 True ∧
 True) ∧
 SubB
 (.cons
 (1 :
 Nat)
 (.rf
 (1004 :
 Nat)
 (1 :
 Nat)
 (0 :
 Nat)
 r_1.1)
 (.cons
 (1 :
 Nat)
 (.sc
 (Value.int
 IntKind.i64
 (IntKind.i64.wrap
 (r.2.2.1 +
 (1 :
 Int)))))
 (.cons
 (1 :
 Nat)
 (.sc
 (Value.int
 IntKind.i64
 (0 :
 Int)))
 (.cons
 (1 :
 Nat)
 (.sc
 (Value.bool
 false))
 (.cons
 (1 :
 Nat)
 (.sc
 (Value.int
 IntKind.i64
 (0 :
 Int)))
 .nil)))))
 (.cons
 (1 :
 Nat)
 (.rf
 (1004 :
 Nat)
 (1 :
 Nat)
 (0 :
 Nat)
 r_1.1)
 (.cons
 (1 :
 Nat)
 (.sc
 (Value.int
 IntKind.i64
 (IntKind.i64.wrap
 (r.2.2.1 +
 (1 :
 Int)))))
 (.cons
 (1 :
 Nat)
 (.sc
 (Value.int
 IntKind.i64
 (0 :
 Int)))
 (.cons
 (1 :
 Nat)
 (.sc
 (Value.bool
 false))
 (.cons
 (1 :
 Nat)
 (.sc
 (Value.int
 IntKind.i64
 (0 :
 Int)))
 .nil))))) ∧
 True ∧
 SubB
 (.ar
 (r_1.2.1 +
 (1 :
 Nat))
 (3 :
 Nat)
 fun
 (i :
 Nat) =>
 .cons
 (1 :
 Nat)
 (.sc
 (Value.int
 IntKind.i64
 (bif
 i.beq
 (plus
 (0 :
 Nat)
 (Int.toNat
 (0 :
 Int))) then
 bif
 (plus
 (0 :
 Nat)
 (Int.toNat
 (0 :
 Int))).blt
 r_1.2.1 then
 r_1.2.2.2.2.2.1
 (plus
 (0 :
 Nat)
 (Int.toNat
 (0 :
 Int)))
 else
 Aa
 else
 bif
 i.blt
 r_1.2.1 then
 r_1.2.2.2.2.2.1
 i
 else
 Aa)))
 (.cons
 (1 :
 Nat)
 (.sc
 (Value.int
 IntKind.i64
 (bif
 i.beq
 (plus
 (0 :
 Nat)
 (Int.toNat
 (0 :
 Int))) then
 tbbbba
 else
 bif
 i.blt
 r_1.2.1 then
 r_1.2.2.2.2.2.2.1
 i
 else
 (0 :
 Int))))
 (.cons
 (1 :
 Nat)
 (.sc
 (Value.int
 IntKind.i64
 (bif
 i.beq
 (plus
 (0 :
 Nat)
 (Int.toNat
 (0 :
 Int))) then
 bif
 (plus
 (0 :
 Nat)
 (Int.toNat
 (0 :
 Int))).blt
 r_1.2.1 then
 r_1.2.2.2.2.2.2.2
 (plus
 (0 :
 Nat)
 (Int.toNat
 (0 :
 Int)))
 else
 Aba
 else
 bif
 i.blt
 r_1.2.1 then
 r_1.2.2.2.2.2.2.2
 i
 else
 Aba)))
 .nil)))
 (.ar
 (r_1.2.1 +
 (1 :
 Nat))
 (3 :
 Nat)
 fun
 (i0 :
 Nat) =>
 .cons
 (1 :
 Nat)
 (.sc
 (Value.int
 IntKind.i64
 (bif
 i0.beq
 (plus
 (0 :
 Nat)
 (Int.toNat
 (0 :
 Int))) then
 bif
 (plus
 (0 :
 Nat)
 (Int.toNat
 (0 :
 Int))).blt
 r_1.2.1 then
 r_1.2.2.2.2.2.1
 (plus
 (0 :
 Nat)
 (Int.toNat
 (0 :
 Int)))
 else
 Aa
 else
 bif
 i0.blt
 r_1.2.1 then
 r_1.2.2.2.2.2.1
 i0
 else
 Aa)))
 (.cons
 (1 :
 Nat)
 (.sc
 (Value.int
 IntKind.i64
 (bif
 i0.beq
 (plus
 (0 :
 Nat)
 (Int.toNat
 (0 :
 Int))) then
 tbbbba
 else
 bif
 i0.blt
 r_1.2.1 then
 r_1.2.2.2.2.2.2.1
 i0
 else
 (0 :
 Int))))
 (.cons
 (1 :
 Nat)
 (.sc
 (Value.int
 IntKind.i64
 (bif
 i0.beq
 (plus
 (0 :
 Nat)
 (Int.toNat
 (0 :
 Int))) then
 bif
 (plus
 (0 :
 Nat)
 (Int.toNat
 (0 :
 Int))).blt
 r_1.2.1 then
 r_1.2.2.2.2.2.2.2
 (plus
 (0 :
 Nat)
 (Int.toNat
 (0 :
 Int)))
 else
 Aba
 else
 bif
 i0.blt
 r_1.2.1 then
 r_1.2.2.2.2.2.2.2
 i0
 else
 Aba)))
 .nil))) ∧
 True ∧
 SubB
 (.ar
 r_1.2.2.1
 (1 :
 Nat)
 fun
 (i0 :
 Nat) =>
 .sc
 (Value.int
 IntKind.i64
 (r_1.2.2.2.1
 i0)))
 (.ar
 r_1.2.2.1
 (1 :
 Nat)
 fun
 (i0 :
 Nat) =>
 .sc
 (Value.int
 IntKind.i64
 (r_1.2.2.2.1
 i0))) ∧
 True) ∧
 L48_2
 (r_1.2.1 +
 (1 :
 Nat))
 Aa
 Aba
 Abba
 (0 :
 Int)
 (0 :
 Int)
 false
 (0 :
 Int)
 r_1.1
 (IntKind.i64.wrap
 (r.2.2.1 +
 (1 :
 Int)))
 (0 :
 Int)
 false
 (0 :
 Int)
 (r_1.2.1 +
 (1 :
 Nat))
 (fun
 (i :
 Nat) =>
 bif
 i.beq
 (plus
 (0 :
 Nat)
 (Int.toNat
 (0 :
 Int))) then
 bif
 (plus
 (0 :
 Nat)
 (Int.toNat
 (0 :
 Int))).blt
 r_1.2.1 then
 r_1.2.2.2.2.2.1
 (plus
 (0 :
 Nat)
 (Int.toNat
 (0 :
 Int)))
 else
 Aa
 else
 bif
 i.blt
 r_1.2.1 then
 r_1.2.2.2.2.2.1
 i
 else
 Aa)
 (fun
 (i :
 Nat) =>
 bif
 i.beq
 (plus
 (0 :
 Nat)
 (Int.toNat
 (0 :
 Int))) then
 tbbbba
 else
 bif
 i.blt
 r_1.2.1 then
 r_1.2.2.2.2.2.2.1
 i
 else
 (0 :
 Int))
 (fun
 (i :
 Nat) =>
 bif
 i.beq
 (plus
 (0 :
 Nat)
 (Int.toNat
 (0 :
 Int))) then
 bif
 (plus
 (0 :
 Nat)
 (Int.toNat
 (0 :
 Int))).blt
 r_1.2.1 then
 r_1.2.2.2.2.2.2.2
 (plus
 (0 :
 Nat)
 (Int.toNat
 (0 :
 Int)))
 else
 Aba
 else
 bif
 i.blt
 r_1.2.1 then
 r_1.2.2.2.2.2.2.2
 i
 else
 Aba)
 r_1.2.2.1
 r_1.2.2.2.1
 res) ∧
 (decide
 (r.2.2.1 <
 (65536 :
 Int)) =
 false →
 ((True ∧
 Sub
 (.pt
 (1000 :
 Nat)
 []
 (0 :
 Nat))
 (.pt
 (1000 :
 Nat)
 []
 (0 :
 Nat)) ∧
 True ∧
 Sub
 (.pt
 (1001 :
 Nat)
 []
 (0 :
 Nat))
 (.pt
 (1001 :
 Nat)
 []
 (0 :
 Nat)) ∧
 True ∧
 Sub
 (.pt
 (1002 :
 Nat)
 []
 (0 :
 Nat))
 (.pt
 (1002 :
 Nat)
 []
 (0 :
 Nat)) ∧
 True ∧
 Sub
 (.rf
 (1003 :
 Nat)
 (3 :
 Nat)
 (0 :
 Nat)
 (r_1.2.1 +
 (1 :
 Nat)))
 (.rf
 (1003 :
 Nat)
 (3 :
 Nat)
 (0 :
 Nat)
 (r_1.2.1 +
 (1 :
 Nat))) ∧
 True) ∧
 (True ∧
 True ∧
 True ∧
 True) ∧
 SubB
 (.cons
 (1 :
 Nat)
 (.sc
 (Value.int
 IntKind.i64
 Aa))
 (.cons
 (1 :
 Nat)
 (.sc
 (Value.int
 IntKind.i64
 Aba))
 (.cons
 (1 :
 Nat)
 (.sc
 (Value.int
 IntKind.i64
 Abba))
 .nil)))
 (.cons
 (1 :
 Nat)
 (.sc
 (Value.int
 IntKind.i64
 Aa))
 (.cons
 (1 :
 Nat)
 (.sc
 (Value.int
 IntKind.i64
 Aba))
 (.cons
 (1 :
 Nat)
 (.sc
 (Value.int
 IntKind.i64
 Abba))
 .nil))) ∧
 (True ∧
 True ∧
 True ∧
 True ∧
 True ∧
 True) ∧
 SubB
 (.cons
 (1 :
 Nat)
 (.sc
 (Value.slice
 none
 (0 :
 Nat)
 (0 :
 Nat)))
 (.cons
 (1 :
 Nat)
 (.sc
 (Value.int
 IntKind.i64
 (0 :
 Int)))
 (.cons
 (1 :
 Nat)
 (.sc
 (Value.int
 IntKind.i64
 (0 :
 Int)))
 (.cons
 (1 :
 Nat)
 (.sc
 (Value.bool
 false))
 (.cons
 (1 :
 Nat)
 (.sc
 (Value.int
 IntKind.i64
 (0 :
 Int)))
 .nil)))))
 (.cons
 (1 :
 Nat)
 (.sc
 (Value.slice
 none
 (0 :
 Nat)
 (0 :
 Nat)))
 (.cons
 (1 :
 Nat)
 (.sc
 (Value.int
 IntKind.i64
 (0 :
 Int)))
 (.cons
 (1 :
 Nat)
 (.sc
 (Value.int
 IntKind.i64
 (0 :
 Int)))
 (.cons
 (1 :
 Nat)
 (.sc
 (Value.bool
 false))
 (.cons
 (1 :
 Nat)
 (.sc
 (Value.int
 IntKind.i64
 (0 :
 Int)))
 .nil))))) ∧
 (True ∧
 True ∧
 True ∧
 True ∧
 True ∧
 True) ∧
 SubB
 (.cons
 (1 :
 Nat)
 (.rf
 (1004 :
 Nat)
 (1 :
 Nat)
 (0 :
 Nat)
 r_1.1)
 (.cons
 (1 :
 Nat)
 (.sc
 (Value.int
 IntKind.i64
 r.2.2.1))
 (.cons
 (1 :
 Nat)
 (.sc
 (Value.int
 IntKind.i64
 (0 :
 Int)))
 (.cons
 (1 :
 Nat)
 (.sc
 (Value.bool
 false))
 (.cons
 (1 :
 Nat)
 (.sc
 (Value.int
 IntKind.i64
 (0 :
 Int)))
 .nil)))))
 (.cons
 (1 :
 Nat)
 (.rf
 (1004 :
 Nat)
 (1 :
 Nat)
 (0 :
 Nat)
 r_1.1)
 (.cons
 (1 :
 Nat)
 (.sc
 (Value.int
 IntKind.i64
 r.2.2.1))
 (.cons
 (1 :
 Nat)
 (.sc
 (Value.int
 IntKind.i64
 (0 :
 Int)))
 (.cons
 (1 :
 Nat)
 (.sc
 (Value.bool
 false))
 (.cons
 (1 :
 Nat)
 (.sc
 (Value.int
 IntKind.i64
 (0 :
 Int)))
 .nil))))) ∧
 True ∧
 SubB
 (.ar
 (r_1.2.1 +
 (1 :
 Nat))
 (3 :
 Nat)
 fun
 (i :
 Nat) =>
 .cons
 (1 :
 Nat)
 (.sc
 (Value.int
 IntKind.i64
 (bif
 i.beq
 (plus
 (0 :
 Nat)
 (Int.toNat
 (0 :
 Int))) then
 bif
 (plus
 (0 :
 Nat)
 (Int.toNat
 (0 :
 Int))).blt
 r_1.2.1 then
 r_1.2.2.2.2.2.1
 (plus
 (0 :
 Nat)
 (Int.toNat
 (0 :
 Int)))
 else
 Aa
 else
 bif
 i.blt
 r_1.2.1 then
 r_1.2.2.2.2.2.1
 i
 else
 Aa)))
 (.cons
 (1 :
 Nat)
 (.sc
 (Value.int
 IntKind.i64
 (bif
 i.beq
 (plus
 (0 :
 Nat)
 (Int.toNat
 (0 :
 Int))) then
 tbbbba
 else
 bif
 i.blt
 r_1.2.1 then
 r_1.2.2.2.2.2.2.1
 i
 else
 (0 :
 Int))))
 (.cons
 (1 :
 Nat)
 (.sc
 (Value.int
 IntKind.i64
 (bif
 i.beq
 (plus
 (0 :
 Nat)
 (Int.toNat
 (0 :
 Int))) then
 bif
 (plus
 (0 :
 Nat)
 (Int.toNat
 (0 :
 Int))).blt
 r_1.2.1 then
 r_1.2.2.2.2.2.2.2
 (plus
 (0 :
 Nat)
 (Int.toNat
 (0 :
 Int)))
 else
 Aba
 else
 bif
 i.blt
 r_1.2.1 then
 r_1.2.2.2.2.2.2.2
 i
 else
 Aba)))
 .nil)))
 (.ar
 (r_1.2.1 +
 (1 :
 Nat))
 (3 :
 Nat)
 fun
 (i0 :
 Nat) =>
 .cons
 (1 :
 Nat)
 (.sc
 (Value.int
 IntKind.i64
 (bif
 i0.beq
 (plus
 (0 :
 Nat)
 (Int.toNat
 (0 :
 Int))) then
 bif
 (plus
 (0 :
 Nat)
 (Int.toNat
 (0 :
 Int))).blt
 r_1.2.1 then
 r_1.2.2.2.2.2.1
 (plus
 (0 :
 Nat)
 (Int.toNat
 (0 :
 Int)))
 else
 Aa
 else
 bif
 i0.blt
 r_1.2.1 then
 r_1.2.2.2.2.2.1
 i0
 else
 Aa)))
 (.cons
 (1 :
 Nat)
 (.sc
 (Value.int
 IntKind.i64
 (bif
 i0.beq
 (plus
 (0 :
 Nat)
 (Int.toNat
 (0 :
 Int))) then
 tbbbba
 else
 bif
 i0.blt
 r_1.2.1 then
 r_1.2.2.2.2.2.2.1
 i0
 else
 (0 :
 Int))))
 (.cons
 (1 :
 Nat)
 (.sc
 (Value.int
 IntKind.i64
 (bif
 i0.beq
 (plus
 (0 :
 Nat)
 (Int.toNat
 (0 :
 Int))) then
 bif
 (plus
 (0 :
 Nat)
 (Int.toNat
 (0 :
 Int))).blt
 r_1.2.1 then
 r_1.2.2.2.2.2.2.2
 (plus
 (0 :
 Nat)
 (Int.toNat
 (0 :
 Int)))
 else
 Aba
 else
 bif
 i0.blt
 r_1.2.1 then
 r_1.2.2.2.2.2.2.2
 i0
 else
 Aba)))
 .nil))) ∧
 True ∧
 SubB
 (.ar
 r_1.2.2.1
 (1 :
 Nat)
 fun
 (i0 :
 Nat) =>
 .sc
 (Value.int
 IntKind.i64
 (r_1.2.2.2.1
 i0)))
 (.ar
 r_1.2.2.1
 (1 :
 Nat)
 fun
 (i0 :
 Nat) =>
 .sc
 (Value.int
 IntKind.i64
 (r_1.2.2.2.1
 i0))) ∧
 True) ∧
 L48_2
 (r_1.2.1 +
 (1 :
 Nat))
 Aa
 Aba
 Abba
 (0 :
 Int)
 (0 :
 Int)
 false
 (0 :
 Int)
 r_1.1
 r.2.2.1
 (0 :
 Int)
 false
 (0 :
 Int)
 (r_1.2.1 +
 (1 :
 Nat))
 (fun
 (i :
 Nat) =>
 bif
 i.beq
 (plus
 (0 :
 Nat)
 (Int.toNat
 (0 :
 Int))) then
 bif
 (plus
 (0 :
 Nat)
 (Int.toNat
 (0 :
 Int))).blt
 r_1.2.1 then
 r_1.2.2.2.2.2.1
 (plus
 (0 :
 Nat)
 (Int.toNat
 (0 :
 Int)))
 else
 Aa
 else
 bif
 i.blt
 r_1.2.1 then
 r_1.2.2.2.2.2.1
 i
 else
 Aa)
 (fun
 (i :
 Nat) =>
 bif
 i.beq
 (plus
 (0 :
 Nat)
 (Int.toNat
 (0 :
 Int))) then
 tbbbba
 else
 bif
 i.blt
 r_1.2.1 then
 r_1.2.2.2.2.2.2.1
 i
 else
 (0 :
 Int))
 (fun
 (i :
 Nat) =>
 bif
 i.beq
 (plus
 (0 :
 Nat)
 (Int.toNat
 (0 :
 Int))) then
 bif
 (plus
 (0 :
 Nat)
 (Int.toNat
 (0 :
 Int))).blt
 r_1.2.1 then
 r_1.2.2.2.2.2.2.2
 (plus
 (0 :
 Nat)
 (Int.toNat
 (0 :
 Int)))
 else
 Aba
 else
 bif
 i.blt
 r_1.2.1 then
 r_1.2.2.2.2.2.2.2
 i
 else
 Aba)
 r_1.2.2.1
 r_1.2.2.2.1
 res)) ∧
 ((Aa ==
 (9 :
 Int)) =
 !true →
 true =
 true ∧
 (!true) =
 !true ∧
 true =
 true ∧
 (!true) =
 !true ∧
 true =
 true ∧
 True ∧
 false =
 false ∧
 ((True ∧
 Sub
 (.pt
 (1000 :
 Nat)
 []
 (0 :
 Nat))
 (.pt
 (1000 :
 Nat)
 []
 (0 :
 Nat)) ∧
 True ∧
 Sub
 (.pt
 (1001 :
 Nat)
 []
 (0 :
 Nat))
 (.pt
 (1001 :
 Nat)
 []
 (0 :
 Nat)) ∧
 True ∧
 Sub
 (.pt
 (1002 :
 Nat)
 []
 (0 :
 Nat))
 (.pt
 (1002 :
 Nat)
 []
 (0 :
 Nat)) ∧
 True ∧
 Sub
 (.rf
 (1003 :
 Nat)
 (3 :
 Nat)
 (0 :
 Nat)
 (r_1.2.1 +
 (1 :
 Nat)))
 (.rf
 (1003 :
 Nat)
 (3 :
 Nat)
 (0 :
 Nat)
 (r_1.2.1 +
 (1 :
 Nat))) ∧
 True) ∧
 (True ∧
 True ∧
 True ∧
 True) ∧
 SubB
 (.cons
 (1 :
 Nat)
 (.sc
 (Value.int
 IntKind.i64
 Aa))
 (.cons
 (1 :
 Nat)
 (.sc
 (Value.int
 IntKind.i64
 Aba))
 (.cons
 (1 :
 Nat)
 (.sc
 (Value.int
 IntKind.i64
 Abba))
 .nil)))
 (.cons
 (1 :
 Nat)
 (.sc
 (Value.int
 IntKind.i64
 Aa))
 (.cons
 (1 :
 Nat)
 (.sc
 (Value.int
 IntKind.i64
 Aba))
 (.cons
 (1 :
 Nat)
 (.sc
 (Value.int
 IntKind.i64
 Abba))
 .nil))) ∧
 (True ∧
 True ∧
 True ∧
 True ∧
 True ∧
 True) ∧
 SubB
 (.cons
 (1 :
 Nat)
 (.sc
 (Value.slice
 none
 (0 :
 Nat)
 (0 :
 Nat)))
 (.cons
 (1 :
 Nat)
 (.sc
 (Value.int
 IntKind.i64
 (0 :
 Int)))
 (.cons
 (1 :
 Nat)
 (.sc
 (Value.int
 IntKind.i64
 (0 :
 Int)))
 (.cons
 (1 :
 Nat)
 (.sc
 (Value.bool
 false))
 (.cons
 (1 :
 Nat)
 (.sc
 (Value.int
 IntKind.i64
 (0 :
 Int)))
 .nil)))))
 (.cons
 (1 :
 Nat)
 (.sc
 (Value.slice
 none
 (0 :
 Nat)
 (0 :
 Nat)))
 (.cons
 (1 :
 Nat)
 (.sc
 (Value.int
 IntKind.i64
 (0 :
 Int)))
 (.cons
 (1 :
 Nat)
 (.sc
 (Value.int
 IntKind.i64
 (0 :
 Int)))
 (.cons
 (1 :
 Nat)
 (.sc
 (Value.bool
 false))
 (.cons
 (1 :
 Nat)
 (.sc
 (Value.int
 IntKind.i64
 (0 :
 Int)))
 .nil))))) ∧
 (True ∧
 True ∧
 True ∧
 True ∧
 True ∧
 True) ∧
 SubB
 (.cons
 (1 :
 Nat)
 (.rf
 (1004 :
 Nat)
 (1 :
 Nat)
 (0 :
 Nat)
 r_1.1)
 (.cons
 (1 :
 Nat)
 (.sc
 (Value.int
 IntKind.i64
 r.2.2.1))
 (.cons
 (1 :
 Nat)
 (.sc
 (Value.int
 IntKind.i64
 (0 :
 Int)))
 (.cons
 (1 :
 Nat)
 (.sc
 (Value.bool
 false))
 (.cons
 (1 :
 Nat)
 (.sc
 (Value.int
 IntKind.i64
 (0 :
 Int)))
 .nil)))))
 (.cons
 (1 :
 Nat)
 (.rf
 (1004 :
 Nat)
 (1 :
 Nat)
 (0 :
 Nat)
 r_1.1)
 (.cons
 (1 :
 Nat)
 (.sc
 (Value.int
 IntKind.i64
 r.2.2.1))
 (.cons
 (1 :
 Nat)
 (.sc
 (Value.int
 IntKind.i64
 (0 :
 Int)))
 (.cons
 (1 :
 Nat)
 (.sc
 (Value.bool
 false))
 (.cons
 (1 :
 Nat)
 (.sc
 (Value.int
 IntKind.i64
 (0 :
 Int)))
 .nil))))) ∧
 True ∧
 SubB
 (.ar
 (r_1.2.1 +
 (1 :
 Nat))
 (3 :
 Nat)
 fun
 (i :
 Nat) =>
 .cons
 (1 :
 Nat)
 (.sc
 (Value.int
 IntKind.i64
 (bif
 i.beq
 (plus
 (0 :
 Nat)
 (Int.toNat
 (0 :
 Int))) then
 bif
 (plus
 (0 :
 Nat)
 (Int.toNat
 (0 :
 Int))).blt
 r_1.2.1 then
 r_1.2.2.2.2.2.1
 (plus
 (0 :
 Nat)
 (Int.toNat
 (0 :
 Int)))
 else
 Aa
 else
 bif
 i.blt
 r_1.2.1 then
 r_1.2.2.2.2.2.1
 i
 else
 Aa)))
 (.cons
 (1 :
 Nat)
 (.sc
 (Value.int
 IntKind.i64
 (bif
 i.beq
 (plus
 (0 :
 Nat)
 (Int.toNat
 (0 :
 Int))) then
 tbbbba
 else
 bif
 i.blt
 r_1.2.1 then
 r_1.2.2.2.2.2.2.1
 i
 else
 (0 :
 Int))))
 (.cons
 (1 :
 Nat)
 (.sc
 (Value.int
 IntKind.i64
 (bif
 i.beq
 (plus
 (0 :
 Nat)
 (Int.toNat
 (0 :
 Int))) then
 bif
 (plus
 (0 :
 Nat)
 (Int.toNat
 (0 :
 Int))).blt
 r_1.2.1 then
 r_1.2.2.2.2.2.2.2
 (plus
 (0 :
 Nat)
 (Int.toNat
 (0 :
 Int)))
 else
 Aba
 else
 bif
 i.blt
 r_1.2.1 then
 r_1.2.2.2.2.2.2.2
 i
 else
 Aba)))
 .nil)))
 (.ar
 (r_1.2.1 +
 (1 :
 Nat))
 (3 :
 Nat)
 fun
 (i0 :
 Nat) =>
 .cons
 (1 :
 Nat)
 (.sc
 (Value.int
 IntKind.i64
 (bif
 i0.beq
 (plus
 (0 :
 Nat)
 (Int.toNat
 (0 :
 Int))) then
 bif
 (plus
 (0 :
 Nat)
 (Int.toNat
 (0 :
 Int))).blt
 r_1.2.1 then
 r_1.2.2.2.2.2.1
 (plus
 (0 :
 Nat)
 (Int.toNat
 (0 :
 Int)))
 else
 Aa
 else
 bif
 i0.blt
 r_1.2.1 then
 r_1.2.2.2.2.2.1
 i0
 else
 Aa)))
 (.cons
 (1 :
 Nat)
 (.sc
 (Value.int
 IntKind.i64
 (bif
 i0.beq
 (plus
 (0 :
 Nat)
 (Int.toNat
 (0 :
 Int))) then
 tbbbba
 else
 bif
 i0.blt
 r_1.2.1 then
 r_1.2.2.2.2.2.2.1
 i0
 else
 (0 :
 Int))))
 (.cons
 (1 :
 Nat)
 (.sc
 (Value.int
 IntKind.i64
 (bif
 i0.beq
 (plus
 (0 :
 Nat)
 (Int.toNat
 (0 :
 Int))) then
 bif
 (plus
 (0 :
 Nat)
 (Int.toNat
 (0 :
 Int))).blt
 r_1.2.1 then
 r_1.2.2.2.2.2.2.2
 (plus
 (0 :
 Nat)
 (Int.toNat
 (0 :
 Int)))
 else
 Aba
 else
 bif
 i0.blt
 r_1.2.1 then
 r_1.2.2.2.2.2.2.2
 i0
 else
 Aba)))
 .nil))) ∧
 True ∧
 SubB
 (.ar
 r_1.2.2.1
 (1 :
 Nat)
 fun
 (i0 :
 Nat) =>
 .sc
 (Value.int
 IntKind.i64
 (r_1.2.2.2.1
 i0)))
 (.ar
 r_1.2.2.1
 (1 :
 Nat)
 fun
 (i0 :
 Nat) =>
 .sc
 (Value.int
 IntKind.i64
 (r_1.2.2.2.1
 i0))) ∧
 True) ∧
 L48_2
 (r_1.2.1 +
 (1 :
 Nat))
 Aa
 Aba
 Abba
 (0 :
 Int)
 (0 :
 Int)
 false
 (0 :
 Int)
 r_1.1
 r.2.2.1
 (0 :
 Int)
 false
 (0 :
 Int)
 (r_1.2.1 +
 (1 :
 Nat))
 (fun
 (i :
 Nat) =>
 bif
 i.beq
 (plus
 (0 :
 Nat)
 (Int.toNat
 (0 :
 Int))) then
 bif
 (plus
 (0 :
 Nat)
 (Int.toNat
 (0 :
 Int))).blt
 r_1.2.1 then
 r_1.2.2.2.2.2.1
 (plus
 (0 :
 Nat)
 (Int.toNat
 (0 :
 Int)))
 else
 Aa
 else
 bif
 i.blt
 r_1.2.1 then
 r_1.2.2.2.2.2.1
 i
 else
 Aa)
 (fun
 (i :
 Nat) =>
 bif
 i.beq
 (plus
 (0 :
 Nat)
 (Int.toNat
 (0 :
 Int))) then
 tbbbba
 else
 bif
 i.blt
 r_1.2.1 then
 r_1.2.2.2.2.2.2.1
 i
 else
 (0 :
 Int))
 (fun
 (i :
 Nat) =>
 bif
 i.beq
 (plus
 (0 :
 Nat)
 (Int.toNat
 (0 :
 Int))) then
 bif
 (plus
 (0 :
 Nat)
 (Int.toNat
 (0 :
 Int))).blt
 r_1.2.1 then
 r_1.2.2.2.2.2.2.2
 (plus
 (0 :
 Nat)
 (Int.toNat
 (0 :
 Int)))
 else
 Aba
 else
 bif
 i.blt
 r_1.2.1 then
 r_1.2.2.2.2.2.2.2
 i
 else
 Aba)
 r_1.2.2.1
 r_1.2.2.2.1
 res)))) ∧
 ((Aa ==
 (19 :
 Int)) =
 !true →
 true =
 true ∧
 (!true) =
 !true ∧
 true =
 true ∧
 (!true) =
 !true ∧
 true =
 true ∧
 True ∧
 True ∧
 false =
 !true ∧
 true =
 true ∧
 (!true) =
 !true ∧
 true =
 true ∧
 (!true) =
 !true ∧
 true =
 true ∧
 True ∧
 True ∧
 false =
 false ∧
 True ∧
 ((0 :
 Nat) =
 plus
 (0 :
 Nat)
 (0 :
 Nat) ∧
 True) ∧
 True ∧
 True ∧
 ((Aa ==
 (19 :
 Int)) =
 true →
 True ∧
 ((1 :
 Nat) +
 ((1 :
 Nat) +
 ((1 :
 Nat) +
 ((1 :
 Nat) +
 (0 :
 Nat)))) =
 plus
 (0 :
 Nat)
 (4 :
 Nat) ∧
 True) ∧
 True ∧
 ((1 :
 Nat) +
 (0 :
 Nat) =
 plus
 (0 :
 Nat)
 (1 :
 Nat) ∧
 True) ∧
 True ∧
 True ∧
 ((1 :
 Nat) +
 ((1 :
 Nat) +
 ((1 :
 Nat) +
 ((1 :
 Nat) +
 (0 :
 Nat)))) =
 plus
 (0 :
 Nat)
 (4 :
 Nat) ∧
 True) ∧
 True ∧
 ((1 :
 Nat) +
 (0 :
 Nat) =
 plus
 (0 :
 Nat)
 (1 :
 Nat) ∧
 True) ∧
 True ∧
 ((tba ==
 (0 :
 Int)) =
 true →
 True ∧
 ((1 :
 Nat) +
 ((1 :
 Nat) +
 (0 :
 Nat)) =
 plus
 (0 :
 Nat)
 (2 :
 Nat) ∧
 True) ∧
 ((True ∧
 Sub
 (.pt
 (1000 :
 Nat)
 []
 (0 :
 Nat))
 (.pt
 (1000 :
 Nat)
 []
 (0 :
 Nat)) ∧
 True ∧
 Sub
 (.pt
 (1001 :
 Nat)
 []
 (0 :
 Nat))
 (.pt
 (1001 :
 Nat)
 []
 (0 :
 Nat)) ∧
 True) ∧
 (True ∧
 True ∧
 True ∧
 True ∧
 True ∧
 True) ∧
 SubB
 (.cons
 (1 :
 Nat)
 (.sc
 (Value.slice
 none
 (0 :
 Nat)
 (0 :
 Nat)))
 (.cons
 (1 :
 Nat)
 (.sc
 (Value.int
 IntKind.i64
 (0 :
 Int)))
 (.cons
 (1 :
 Nat)
 (.sc
 (Value.int
 IntKind.i64
 (0 :
 Int)))
 (.cons
 (1 :
 Nat)
 (.sc
 (Value.bool
 false))
 (.cons
 (1 :
 Nat)
 (.sc
 (Value.int
 IntKind.i64
 (0 :
 Int)))
 .nil)))))
 (.cons
 (1 :
 Nat)
 (.sc
 (Value.slice
 none
 (0 :
 Nat)
 (0 :
 Nat)))
 (.cons
 (1 :
 Nat)
 (.sc
 (Value.int
 IntKind.i64
 (0 :
 Int)))
 (.cons
 (1 :
 Nat)
 (.sc
 (Value.int
 IntKind.i64
 (0 :
 Int)))
 (.cons
 (1 :
 Nat)
 (.sc
 (Value.bool
 false))
 (.cons
 (1 :
 Nat)
 (.sc
 (Value.int
 IntKind.i64
 (0 :
 Int)))
 .nil))))) ∧
 (True ∧
 True ∧
 True ∧
 True ∧
 True ∧
 True) ∧
 SubB
 (.cons
 (1 :
 Nat)
 (.vec
 false
 (1 :
 Nat)
 r.1
 r.1
 fun
 (i0 :
 Nat) =>
 .sc
 (Value.int
 IntKind.i64
 (r.2.1
 i0)))
 (.cons
 (1 :
 Nat)
 (.sc
 (Value.int
 IntKind.i64
 r.2.2.1))
 (.cons
 (1 :
 Nat)
 (.sc
 (Value.int
 IntKind.i64
 (0 :
 Int)))
 (.cons
 (1 :
 Nat)
 (.sc
 (Value.bool
 r.2.2.2.2.1))
 (.cons
 (1 :
 Nat)
 (.sc
 (Value.int
 IntKind.i64
 (IntKind.i64.wrap
 (tbbbba +
 Aba))))
 .nil)))))
 (.cons
 (1 :
 Nat)
 (.vec
 false
 (1 :
 Nat)
 r.1
 r.1
 fun
 (i0 :
 Nat) =>
 .sc
 (Value.int
 IntKind.i64
 (r.2.1
 i0)))
 (.cons
 (1 :
 Nat)
 (.sc
 (Value.int
 IntKind.i64
 r.2.2.1))
 (.cons
 (1 :
 Nat)
 (.sc
 (Value.int
 IntKind.i64
 (0 :
 Int)))
 (.cons
 (1 :
 Nat)
 (.sc
 (Value.bool
 r.2.2.2.2.1))
 (.cons
 (1 :
 Nat)
 (.sc
 (Value.int
 IntKind.i64
 (IntKind.i64.wrap
 (tbbbba +
 Aba))))
 .nil))))) ∧
 True) ∧
 L48_1
 (0 :
 Int)
 (0 :
 Int)
 false
 (0 :
 Int)
 r.1
 r.2.1
 r.2.2.1
 (0 :
 Int)
 r.2.2.2.2.1
 (IntKind.i64.wrap
 (tbbbba +
 Aba))
 res) ∧
 ((tba ==
 (0 :
 Int)) =
 false →
 ((True ∧
 Sub
 (.pt
 (1000 :
 Nat)
 []
 (0 :
 Nat))
 (.pt
 (1000 :
 Nat)
 []
 (0 :
 Nat)) ∧
 True ∧
 Sub
 (.pt
 (1001 :
 Nat)
 []
 (0 :
 Nat))
 (.pt
 (1001 :
 Nat)
 []
 (0 :
 Nat)) ∧
 True) ∧
 (True ∧
 True ∧
 True ∧
 True ∧
 True ∧
 True) ∧
 SubB
 (.cons
 (1 :
 Nat)
 (.sc
 (Value.slice
 none
 (0 :
 Nat)
 (0 :
 Nat)))
 (.cons
 (1 :
 Nat)
 (.sc
 (Value.int
 IntKind.i64
 (0 :
 Int)))
 (.cons
 (1 :
 Nat)
 (.sc
 (Value.int
 IntKind.i64
 (0 :
 Int)))
 (.cons
 (1 :
 Nat)
 (.sc
 (Value.bool
 false))
 (.cons
 (1 :
 Nat)
 (.sc
 (Value.int
 IntKind.i64
 (0 :
 Int)))
 .nil)))))
 (.cons
 (1 :
 Nat)
 (.sc
 (Value.slice
 none
 (0 :
 Nat)
 (0 :
 Nat)))
 (.cons
 (1 :
 Nat)
 (.sc
 (Value.int
 IntKind.i64
 (0 :
 Int)))
 (.cons
 (1 :
 Nat)
 (.sc
 (Value.int
 IntKind.i64
 (0 :
 Int)))
 (.cons
 (1 :
 Nat)
 (.sc
 (Value.bool
 false))
 (.cons
 (1 :
 Nat)
 (.sc
 (Value.int
 IntKind.i64
 (0 :
 Int)))
 .nil))))) ∧
 (True ∧
 True ∧
 True ∧
 True ∧
 True ∧
 True) ∧
 SubB
 (.cons
 (1 :
 Nat)
 (.vec
 false
 (1 :
 Nat)
 r.1
 r.1
 fun
 (i0 :
 Nat) =>
 .sc
 (Value.int
 IntKind.i64
 (r.2.1
 i0)))
 (.cons
 (1 :
 Nat)
 (.sc
 (Value.int
 IntKind.i64
 r.2.2.1))
 (.cons
 (1 :
 Nat)
 (.sc
 (Value.int
 IntKind.i64
 r.2.2.2.1))
 (.cons
 (1 :
 Nat)
 (.sc
 (Value.bool
 r.2.2.2.2.1))
 (.cons
 (1 :
 Nat)
 (.sc
 (Value.int
 IntKind.i64
 (IntKind.i64.wrap
 (tbbbba +
 Aba))))
 .nil)))))
 (.cons
 (1 :
 Nat)
 (.vec
 false
 (1 :
 Nat)
 r.1
 r.1
 fun
 (i0 :
 Nat) =>
 .sc
 (Value.int
 IntKind.i64
 (r.2.1
 i0)))
 (.cons
 (1 :
 Nat)
 (.sc
 (Value.int
 IntKind.i64
 r.2.2.1))
 (.cons
 (1 :
 Nat)
 (.sc
 (Value.int
 IntKind.i64
 r.2.2.2.1))
 (.cons
 (1 :
 Nat)
 (.sc
 (Value.bool
 r.2.2.2.2.1))
 (.cons
 (1 :
 Nat)
 (.sc
 (Value.int
 IntKind.i64
 (IntKind.i64.wrap
 (tbbbba +
 Aba))))
 .nil))))) ∧
 True) ∧
 L48_1
 (0 :
 Int)
 (0 :
 Int)
 false
 (0 :
 Int)
 r.1
 r.2.1
 r.2.2.1
 r.2.2.2.1
 r.2.2.2.2.1
 (IntKind.i64.wrap
 (tbbbba +
 Aba))
 res)) ∧
 ((Aa ==
 (19 :
 Int)) =
 false →
 ((0 :
 Nat) =
 (0 :
 Nat) ∧
 True) ∧
 ∃
 (r_1
 :
 Nat ×
 Nat ×
 Nat ×
 (Nat →
 Int) ×
 Nat ×
 (Nat →
 Int) ×
 (Nat →
 Int) ×
 (Nat →
 Int)),
 (((True ∧
 True ∧
 True ∧
 True ∧
 True ∧
 True) ∧
 True) ∧
 True ∧
 Ok
 Proofs.Try.prog
 (80 :
 Nat)
 [.cons
 (1 :
 Nat)
 (.vec
 true
 (1 :
 Nat)
 tan
 tan
 fun
 (i :
 Nat) =>
 .sc
 (Value.int
 IntKind.i64
 (taf
 i)))
 (.cons
 (1 :
 Nat)
 (.sc
 (Value.int
 IntKind.i64
 tba))
 (.cons
 (1 :
 Nat)
 (.sc
 (Value.int
 IntKind.i64
 tbba))
 (.cons
 (1 :
 Nat)
 (.sc
 (Value.bool
 tbbba))
 (.cons
 (1 :
 Nat)
 (.sc
 (Value.int
 IntKind.i64
 tbbbba))
 .nil))))]
 []
 (AV.cons
 (1 :
 Nat)
 (.rf
 (1000 :
 Nat)
 (1 :
 Nat)
 (0 :
 Nat)
 r_1.1)
 (.cons
 (1 :
 Nat)
 (.rf
 (1001 :
 Nat)
 (3 :
 Nat)
 (0 :
 Nat)
 r_1.2.1)
 .nil)).tup
 [((1000 :
 Nat),
 (3 :
 Nat),
 .ar
 r_1.2.2.1
 (1 :
 Nat)
 fun
 (i0 :
 Nat) =>
 .sc
 (Value.int
 IntKind.i64
 (r_1.2.2.2.1
 i0))),
 ((1001 :
 Nat),
 (81 :
 Nat),
 .ar
 r_1.2.2.2.2.1
 (3 :
 Nat)
 fun
 (i0 :
 Nat) =>
 .cons
 (1 :
 Nat)
 (.sc
 (Value.int
 IntKind.i64
 (r_1.2.2.2.2.2.1
 i0)))
 (.cons
 (1 :
 Nat)
 (.sc
 (Value.int
 IntKind.i64
 (r_1.2.2.2.2.2.2.1
 i0)))
 (.cons
 (1 :
 Nat)
 (.sc
 (Value.int
 IntKind.i64
 (r_1.2.2.2.2.2.2.2
 i0)))
 .nil)))]) ∧
 True ∧
 True ∧
 True ∧
 True ∧
 True ∧
 True ∧
 True ∧
 ((0 :
 Nat) =
 plus
 (0 :
 Nat)
 (0 :
 Nat) ∧
 True) ∧
 True ∧
 ((1 :
 Nat) +
 (0 :
 Nat) =
 plus
 (0 :
 Nat)
 (1 :
 Nat) ∧
 True) ∧
 True ∧
 (((True ∧
 True ∧
 True ∧
 True) ∧
 True) ∧
 True) ∧
 (r_1.2.1 ≤
 r_1.2.2.2.2.1 ∧
 ((0 :
 Nat) +
 (1 :
 Nat) ≤
 (1 :
 Nat) ∧
 (3 :
 Nat) =
 (3 :
 Nat)) ∧
 (r_1.2.1 +
 (1 :
 Nat)) *
 (24 :
 Nat) ≤
 (140737488355328 :
 Nat) ∧
 r_1.2.1 +
 (1 :
 Nat) ≤
 maxLen) ∧
 True ∧
 True ∧
 True ∧
 ((1 :
 Nat) +
 ((1 :
 Nat) +
 ((1 :
 Nat) +
 ((1 :
 Nat) +
 (0 :
 Nat)))) =
 plus
 (0 :
 Nat)
 (4 :
 Nat) ∧
 True) ∧
 ((0 :
 Int) ≤
 (0 :
 Int) ∧
 (0 :
 Int) <
 (↑(r_1.2.1 +
 (1 :
 Nat)) :
 Int)) ∧
 True ∧
 (plus
 (0 :
 Nat)
 (Int.toNat
 (0 :
 Int)) *
 (3 :
 Nat) +
 ((1 :
 Nat) +
 (0 :
 Nat)) =
 plus
 (plus
 (0 :
 Nat)
 (Int.toNat
 (0 :
 Int)) *
 (3 :
 Nat))
 (1 :
 Nat) ∧
 (plus
 (0 :
 Nat)
 (Int.toNat
 (0 :
 Int)) <
 r_1.2.1 +
 (1 :
 Nat) ∧
 True) ∧
 True) ∧
 True ∧
 True ∧
 ((0 :
 Nat) =
 plus
 (0 :
 Nat)
 (0 :
 Nat) ∧
 True) ∧
 True ∧
 ((1 :
 Nat) +
 ((1 :
 Nat) +
 ((1 :
 Nat) +
 ((1 :
 Nat) +
 (0 :
 Nat)))) =
 plus
 (0 :
 Nat)
 (4 :
 Nat) ∧
 True) ∧
 True ∧
 ((1 :
 Nat) +
 ((1 :
 Nat) +
 (0 :
 Nat)) =
 plus
 (0 :
 Nat)
 (2 :
 Nat) ∧
 True) ∧
 True ∧
 ((1 :
 Nat) +
 ((1 :
 Nat) +
 ((1 :
 Nat) +
 (0 :
 Nat))) =
 plus
 (0 :
 Nat)
 (3 :
 Nat) ∧
 True) ∧
 True ∧
 ((0 :
 Nat) =
 plus
 (0 :
 Nat)
 (0 :
 Nat) ∧
 True) ∧
 True ∧
 True ∧
 ((Aa ==
 (9 :
 Int)) =
 true →
 True ∧
 true =
 true ∧
 ((1 :
 Nat) +
 (0 :
 Nat) =
 plus
 (0 :
 Nat)
 (1 :
 Nat) ∧
 True) ∧
 true =
 true ∧
 True ∧
 True ∧
 (decide
 (r.2.2.1 <
 (65536 :
 Int)) =
 true →
 True ∧
 ((1 :
 Nat) +
 (0 :
 Nat) =
 plus
 (0 :
 Nat)
 (1 :
 Nat) ∧
 True) ∧
 True ∧
 True ∧
 ((1 :
 Nat) +
 (0 :
 Nat) =
 plus
 (0 :
 Nat)
 (1 :
 Nat) ∧
 True) ∧
 ((True ∧
 Sub
 (.pt
 (1000 :
 Nat)
 []
 (0 :
 Nat))
 (.pt
 (1000 :
 Nat)
 []
 (0 :
 Nat)) ∧
 True ∧
 Sub
 (.pt
 (1001 :
 Nat)
 []
 (0 :
 Nat))
 (.pt
 (1001 :
 Nat)
 []
 (0 :
 Nat)) ∧
 True ∧
 Sub
 (.pt
 (1002 :
 Nat)
 []
 (0 :
 Nat))
 (.pt
 (1002 :
 Nat)
 []
 (0 :
 Nat)) ∧
 True ∧
 Sub
 (.rf
 (1003 :
 Nat)
 (3 :
 Nat)
 (0 :
 Nat)
 (r_1.2.1 +
 (1 :
 Nat)))
 (.rf
 (1003 :
 Nat)
 (3 :
 Nat)
 (0 :
 Nat)
 (r_1.2.1 +
 (1 :
 Nat))) ∧
 True) ∧
 (True ∧
 True ∧
 True ∧
 True) ∧
 SubB
 (.cons
 (1 :
 Nat)
 (.sc
 (Value.int
 IntKind.i64
 Aa))
 (.cons
 (1 :
 Nat)
 (.sc
 (Value.int
 IntKind.i64
 Aba))
 (.cons
 (1 :
 Nat)
 (.sc
 (Value.int
 IntKind.i64
 Abba))
 .nil)))
 (.cons
 (1 :
 Nat)
 (.sc
 (Value.int
 IntKind.i64
 Aa))
 (.cons
 (1 :
 Nat)
 (.sc
 (Value.int
 IntKind.i64
 Aba))
 (.cons
 (1 :
 Nat)
 (.sc
 (Value.int
 IntKind.i64
 Abba))
 .nil))) ∧
 (True ∧
 True ∧
 True ∧
 True ∧
 True ∧
 True) ∧
 SubB
 (.cons
 (1 :
 Nat)
 (.sc
 (Value.slice
 none
 (0 :
 Nat)
 (0 :
 Nat)))
 (.cons
 (1 :
 Nat)
 (.sc
 (Value.int
 IntKind.i64
 (0 :
 Int)))
 (.cons
 (1 :
 Nat)
 (.sc
 (Value.int
 IntKind.i64
 (0 :
 Int)))
 (.cons
 (1 :
 Nat)
 (.sc
 (Value.bool
 false))
 (.cons
 (1 :
 Nat)
 (.sc
 (Value.int
 IntKind.i64
 (0 :
 Int)))
 .nil)))))
 (.cons
 (1 :
 Nat)
 (.sc
 (Value.slice
 none
 (0 :
 Nat)
 (0 :
 Nat)))
 (.cons
 (1 :
 Nat)
 (.sc
 (Value.int
 IntKind.i64
 (0 :
 Int)))
 (.cons
 (1 :
 Nat)
 (.sc
 (Value.int
 IntKind.i64
 (0 :
 Int)))
 (.cons
 (1 :
 Nat)
 (.sc
 (Value.bool
 false))
 (.cons
 (1 :
 Nat)
 (.sc
 (Value.int
 IntKind.i64
 (0 :
 Int)))
 .nil))))) ∧
 (True ∧
 True ∧
 True ∧
 True ∧
 True ∧
 True) ∧
 SubB
 (.cons
 (1 :
 Nat)
 (.rf
 (1004 :
 Nat)
 (1 :
 Nat)
 (0 :
 Nat)
 r_1.1)
 (.cons
 (1 :
 Nat)
 (.sc
 (Value.int
 IntKind.i64
 (IntKind.i64.wrap
 (r.2.2.1 +
 (1 :
 Int)))))
 (.cons
 (1 :
 Nat)
 (.sc
 (Value.int
 IntKind.i64
 (0 :
 Int)))
 (.cons
 (1 :
 Nat)
 (.sc
 (Value.bool
 false))
 (.cons
 (1 :
 Nat)
 (.sc
 (Value.int
 IntKind.i64
 (0 :
 Int)))
 .nil)))))
 (.cons
 (1 :
 Nat)
 (.rf
 (1004 :
 Nat)
 (1 :
 Nat)
 (0 :
 Nat)
 r_1.1)
 (.cons
 (1 :
 Nat)
 (.sc
 (Value.int
 IntKind.i64
 (IntKind.i64.wrap
 (r.2.2.1 +
 (1 :
 Int)))))
 (.cons
 (1 :
 Nat)
 (.sc
 (Value.int
 IntKind.i64
 (0 :
 Int)))
 (.cons
 (1 :
 Nat)
 (.sc
 (Value.bool
 false))
 (.cons
 (1 :
 Nat)
 (.sc
 (Value.int
 IntKind.i64
 (0 :
 Int)))
 .nil))))) ∧
 True ∧
 SubB
 (.ar
 (r_1.2.1 +
 (1 :
 Nat))
 (3 :
 Nat)
 fun
 (i :
 Nat) =>
 .cons
 (1 :
 Nat)
 (.sc
 (Value.int
 IntKind.i64
 (bif
 i.beq
 (plus
 (0 :
 Nat)
 (Int.toNat
 (0 :
 Int))) then
 bif
 (plus
 (0 :
 Nat)
 (Int.toNat
 (0 :
 Int))).blt
 r_1.2.1 then
 r_1.2.2.2.2.2.1
 (plus
 (0 :
 Nat)
 (Int.toNat
 (0 :
 Int)))
 else
 Aa
 else
 bif
 i.blt
 r_1.2.1 then
 r_1.2.2.2.2.2.1
 i
 else
 Aa)))
 (.cons
 (1 :
 Nat)
 (.sc
 (Value.int
 IntKind.i64
 (bif
 i.beq
 (plus
 (0 :
 Nat)
 (Int.toNat
 (0 :
 Int))) then
 tbbbba
 else
 bif
 i.blt
 r_1.2.1 then
 r_1.2.2.2.2.2.2.1
 i
 else
 (0 :
 Int))))
 (.cons
 (1 :
 Nat)
 (.sc
 (Value.int
 IntKind.i64
 (bif
 i.beq
 (plus
 (0 :
 Nat)
 (Int.toNat
 (0 :
 Int))) then
 bif
 (plus
 (0 :
 Nat)
 (Int.toNat
 (0 :
 Int))).blt
 r_1.2.1 then
 r_1.2.2.2.2.2.2.2
 (plus
 (0 :
 Nat)
 (Int.toNat
 (0 :
 Int)))
 else
 Aba
 else
 bif
 i.blt
 r_1.2.1 then
 r_1.2.2.2.2.2.2.2
 i
 else
 Aba)))
 .nil)))
 (.ar
 (r_1.2.1 +
 (1 :
 Nat))
 (3 :
 Nat)
 fun
 (i0 :
 Nat) =>
 .cons
 (1 :
 Nat)
 (.sc
 (Value.int
 IntKind.i64
 (bif
 i0.beq
 (plus
 (0 :
 Nat)
 (Int.toNat
 (0 :
 Int))) then
 bif
 (plus
 (0 :
 Nat)
 (Int.toNat
 (0 :
 Int))).blt
 r_1.2.1 then
 r_1.2.2.2.2.2.1
 (plus
 (0 :
 Nat)
 (Int.toNat
 (0 :
 Int)))
 else
 Aa
 else
 bif
 i0.blt
 r_1.2.1 then
 r_1.2.2.2.2.2.1
 i0
 else
 Aa)))
 (.cons
 (1 :
 Nat)
 (.sc
 (Value.int
 IntKind.i64
 (bif
 i0.beq
 (plus
 (0 :
 Nat)
 (Int.toNat
 (0 :
 Int))) then
 tbbbba
 else
 bif
 i0.blt
 r_1.2.1 then
 r_1.2.2.2.2.2.2.1
 i0
 else
 (0 :
 Int))))
 (.cons
 (1 :
 Nat)
 (.sc
 (Value.int
 IntKind.i64
 (bif
 i0.beq
 (plus
 (0 :
 Nat)
 (Int.toNat
 (0 :
 Int))) then
 bif
 (plus
 (0 :
 Nat)
 (Int.toNat
 (0 :
 Int))).blt
 r_1.2.1 then
 r_1.2.2.2.2.2.2.2
 (plus
 (0 :
 Nat)
 (Int.toNat
 (0 :
 Int)))
 else
 Aba
 else
 bif
 i0.blt
 r_1.2.1 then
 r_1.2.2.2.2.2.2.2
 i0
 else
 Aba)))
 .nil))) ∧
 True ∧
 SubB
 (.ar
 r_1.2.2.1
 (1 :
 Nat)
 fun
 (i0 :
 Nat) =>
 .sc
 (Value.int
 IntKind.i64
 (r_1.2.2.2.1
 i0)))
 (.ar
 r_1.2.2.1
 (1 :
 Nat)
 fun
 (i0 :
 Nat) =>
 .sc
 (Value.int
 IntKind.i64
 (r_1.2.2.2.1
 i0))) ∧
 True) ∧
 L48_2
 (r_1.2.1 +
 (1 :
 Nat))
 Aa
 Aba
 Abba
 (0 :
 Int)
 (0 :
 Int)
 false
 (0 :
 Int)
 r_1.1
 (IntKind.i64.wrap
 (r.2.2.1 +
 (1 :
 Int)))
 (0 :
 Int)
 false
 (0 :
 Int)
 (r_1.2.1 +
 (1 :
 Nat))
 (fun
 (i :
 Nat) =>
 bif
 i.beq
 (plus
 (0 :
 Nat)
 (Int.toNat
 (0 :
 Int))) then
 bif
 (plus
 (0 :
 Nat)
 (Int.toNat
 (0 :
 Int))).blt
 r_1.2.1 then
 r_1.2.2.2.2.2.1
 (plus
 (0 :
 Nat)
 (Int.toNat
 (0 :
 Int)))
 else
 Aa
 else
 bif
 i.blt
 r_1.2.1 then
 r_1.2.2.2.2.2.1
 i
 else
 Aa)
 (fun
 (i :
 Nat) =>
 bif
 i.beq
 (plus
 (0 :
 Nat)
 (Int.toNat
 (0 :
 Int))) then
 tbbbba
 else
 bif
 i.blt
 r_1.2.1 then
 r_1.2.2.2.2.2.2.1
 i
 else
 (0 :
 Int))
 (fun
 (i :
 Nat) =>
 bif
 i.beq
 (plus
 (0 :
 Nat)
 (Int.toNat
 (0 :
 Int))) then
 bif
 (plus
 (0 :
 Nat)
 (Int.toNat
 (0 :
 Int))).blt
 r_1.2.1 then
 r_1.2.2.2.2.2.2.2
 (plus
 (0 :
 Nat)
 (Int.toNat
 (0 :
 Int)))
 else
 Aba
 else
 bif
 i.blt
 r_1.2.1 then
 r_1.2.2.2.2.2.2.2
 i
 else
 Aba)
 r_1.2.2.1
 r_1.2.2.2.1
 res) ∧
 (decide
 (r.2.2.1 <
 (65536 :
 Int)) =
 false →
 ((True ∧
 Sub
 (.pt
 (1000 :
 Nat)
 []
 (0 :
 Nat))
 (.pt
 (1000 :
 Nat)
 []
 (0 :
 Nat)) ∧
 True ∧
 Sub
 (.pt
 (1001 :
 Nat)
 []
 (0 :
 Nat))
 (.pt
 (1001 :
 Nat)
 []
 (0 :
 Nat)) ∧
 True ∧
 Sub
 (.pt
 (1002 :
 Nat)
 []
 (0 :
 Nat))
 (.pt
 (1002 :
 Nat)
 []
 (0 :
 Nat)) ∧
 True ∧
 Sub
 (.rf
 (1003 :
 Nat)
 (3 :
 Nat)
 (0 :
 Nat)
 (r_1.2.1 +
 (1 :
 Nat)))
 (.rf
 (1003 :
 Nat)
 (3 :
 Nat)
 (0 :
 Nat)
 (r_1.2.1 +
 (1 :
 Nat))) ∧
 True) ∧
 (True ∧
 True ∧
 True ∧
 True) ∧
 SubB
 (.cons
 (1 :
 Nat)
 (.sc
 (Value.int
 IntKind.i64
 Aa))
 (.cons
 (1 :
 Nat)
 (.sc
 (Value.int
 IntKind.i64
 Aba))
 (.cons
 (1 :
 Nat)
 (.sc
 (Value.int
 IntKind.i64
 Abba))
 .nil)))
 (.cons
 (1 :
 Nat)
 (.sc
 (Value.int
 IntKind.i64
 Aa))
 (.cons
 (1 :
 Nat)
 (.sc
 (Value.int
 IntKind.i64
 Aba))
 (.cons
 (1 :
 Nat)
 (.sc
 (Value.int
 IntKind.i64
 Abba))
 .nil))) ∧
 (True ∧
 True ∧
 True ∧
 True ∧
 True ∧
 True) ∧
 SubB
 (.cons
 (1 :
 Nat)
 (.sc
 (Value.slice
 none
 (0 :
 Nat)
 (0 :
 Nat)))
 (.cons
 (1 :
 Nat)
 (.sc
 (Value.int
 IntKind.i64
 (0 :
 Int)))
 (.cons
 (1 :
 Nat)
 (.sc
 (Value.int
 IntKind.i64
 (0 :
 Int)))
 (.cons
 (1 :
 Nat)
 (.sc
 (Value.bool
 false))
 (.cons
 (1 :
 Nat)
 (.sc
 (Value.int
 IntKind.i64
 (0 :
 Int)))
 .nil)))))
 (.cons
 (1 :
 Nat)
 (.sc
 (Value.slice
 none
 (0 :
 Nat)
 (0 :
 Nat)))
 (.cons
 (1 :
 Nat)
 (.sc
 (Value.int
 IntKind.i64
 (0 :
 Int)))
 (.cons
 (1 :
 Nat)
 (.sc
 (Value.int
 IntKind.i64
 (0 :
 Int)))
 (.cons
 (1 :
 Nat)
 (.sc
 (Value.bool
 false))
 (.cons
 (1 :
 Nat)
 (.sc
 (Value.int
 IntKind.i64
 (0 :
 Int)))
 .nil))))) ∧
 (True ∧
 True ∧
 True ∧
 True ∧
 True ∧
 True) ∧
 SubB
 (.cons
 (1 :
 Nat)
 (.rf
 (1004 :
 Nat)
 (1 :
 Nat)
 (0 :
 Nat)
 r_1.1)
 (.cons
 (1 :
 Nat)
 (.sc
 (Value.int
 IntKind.i64
 r.2.2.1))
 (.cons
 (1 :
 Nat)
 (.sc
 (Value.int
 IntKind.i64
 (0 :
 Int)))
 (.cons
 (1 :
 Nat)
 (.sc
 (Value.bool
 false))
 (.cons
 (1 :
 Nat)
 (.sc
 (Value.int
 IntKind.i64
 (0 :
 Int)))
 .nil)))))
 (.cons
 (1 :
 Nat)
 (.rf
 (1004 :
 Nat)
 (1 :
 Nat)
 (0 :
 Nat)
 r_1.1)
 (.cons
 (1 :
 Nat)
 (.sc
 (Value.int
 IntKind.i64
 r.2.2.1))
 (.cons
 (1 :
 Nat)
 (.sc
 (Value.int
 IntKind.i64
 (0 :
 Int)))
 (.cons
 (1 :
 Nat)
 (.sc
 (Value.bool
 false))
 (.cons
 (1 :
 Nat)
 (.sc
 (Value.int
 IntKind.i64
 (0 :
 Int)))
 .nil))))) ∧
 True ∧
 SubB
 (.ar
 (r_1.2.1 +
 (1 :
 Nat))
 (3 :
 Nat)
 fun
 (i :
 Nat) =>
 .cons
 (1 :
 Nat)
 (.sc
 (Value.int
 IntKind.i64
 (bif
 i.beq
 (plus
 (0 :
 Nat)
 (Int.toNat
 (0 :
 Int))) then
 bif
 (plus
 (0 :
 Nat)
 (Int.toNat
 (0 :
 Int))).blt
 r_1.2.1 then
 r_1.2.2.2.2.2.1
 (plus
 (0 :
 Nat)
 (Int.toNat
 (0 :
 Int)))
 else
 Aa
 else
 bif
 i.blt
 r_1.2.1 then
 r_1.2.2.2.2.2.1
 i
 else
 Aa)))
 (.cons
 (1 :
 Nat)
 (.sc
 (Value.int
 IntKind.i64
 (bif
 i.beq
 (plus
 (0 :
 Nat)
 (Int.toNat
 (0 :
 Int))) then
 tbbbba
 else
 bif
 i.blt
 r_1.2.1 then
 r_1.2.2.2.2.2.2.1
 i
 else
 (0 :
 Int))))
 (.cons
 (1 :
 Nat)
 (.sc
 (Value.int
 IntKind.i64
 (bif
 i.beq
 (plus
 (0 :
 Nat)
 (Int.toNat
 (0 :
 Int))) then
 bif
 (plus
 (0 :
 Nat)
 (Int.toNat
 (0 :
 Int))).blt
 r_1.2.1 then
 r_1.2.2.2.2.2.2.2
 (plus
 (0 :
 Nat)
 (Int.toNat
 (0 :
 Int)))
 else
 Aba
 else
 bif
 i.blt
 r_1.2.1 then
 r_1.2.2.2.2.2.2.2
 i
 else
 Aba)))
 .nil)))
 (.ar
 (r_1.2.1 +
 (1 :
 Nat))
 (3 :
 Nat)
 fun
 (i0 :
 Nat) =>
 .cons
 (1 :
 Nat)
 (.sc
 (Value.int
 IntKind.i64
 (bif
 i0.beq
 (plus
 (0 :
 Nat)
 (Int.toNat
 (0 :
 Int))) then
 bif
 (plus
 (0 :
 Nat)
 (Int.toNat
 (0 :
 Int))).blt
 r_1.2.1 then
 r_1.2.2.2.2.2.1
 (plus
 (0 :
 Nat)
 (Int.toNat
 (0 :
 Int)))
 else
 Aa
 else
 bif
 i0.blt
 r_1.2.1 then
 r_1.2.2.2.2.2.1
 i0
 else
 Aa)))
 (.cons
 (1 :
 Nat)
 (.sc
 (Value.int
 IntKind.i64
 (bif
 i0.beq
 (plus
 (0 :
 Nat)
 (Int.toNat
 (0 :
 Int))) then
 tbbbba
 else
 bif
 i0.blt
 r_1.2.1 then
 r_1.2.2.2.2.2.2.1
 i0
 else
 (0 :
 Int))))
 (.cons
 (1 :
 Nat)
 (.sc
 (Value.int
 IntKind.i64
 (bif
 i0.beq
 (plus
 (0 :
 Nat)
 (Int.toNat
 (0 :
 Int))) then
 bif
 (plus
 (0 :
 Nat)
 (Int.toNat
 (0 :
 Int))).blt
 r_1.2.1 then
 r_1.2.2.2.2.2.2.2
 (plus
 (0 :
 Nat)
 (Int.toNat
 (0 :
 Int)))
 else
 Aba
 else
 bif
 i0.blt
 r_1.2.1 then
 r_1.2.2.2.2.2.2.2
 i0
 else
 Aba)))
 .nil))) ∧
 True ∧
 SubB
 (.ar
 r_1.2.2.1
 (1 :
 Nat)
 fun
 (i0 :
 Nat) =>
 .sc
 (Value.int
 IntKind.i64
 (r_1.2.2.2.1
 i0)))
 (.ar
 r_1.2.2.1
 (1 :
 Nat)
 fun
 (i0 :
 Nat) =>
 .sc
 (Value.int
 IntKind.i64
 (r_1.2.2.2.1
 i0))) ∧
 True) ∧
 L48_2
 (r_1.2.1 +
 (1 :
 Nat))
 Aa
 Aba
 Abba
 (0 :
 Int)
 (0 :
 Int)
 false
 (0 :
 Int)
 r_1.1
 r.2.2.1
 (0 :
 Int)
 false
 (0 :
 Int)
 (r_1.2.1 +
 (1 :
 Nat))
 (fun
 (i :
 Nat) =>
 bif
 i.beq
 (plus
 (0 :
 Nat)
 (Int.toNat
 (0 :
 Int))) then
 bif
 (plus
 (0 :
 Nat)
 (Int.toNat
 (0 :
 Int))).blt
 r_1.2.1 then
 r_1.2.2.2.2.2.1
 (plus
 (0 :
 Nat)
 (Int.toNat
 (0 :
 Int)))
 else
 Aa
 else
 bif
 i.blt
 r_1.2.1 then
 r_1.2.2.2.2.2.1
 i
 else
 Aa)
 (fun
 (i :
 Nat) =>
 bif
 i.beq
 (plus
 (0 :
 Nat)
 (Int.toNat
 (0 :
 Int))) then
 tbbbba
 else
 bif
 i.blt
 r_1.2.1 then
 r_1.2.2.2.2.2.2.1
 i
 else
 (0 :
 Int))
 (fun
 (i :
 Nat) =>
 bif
 i.beq
 (plus
 (0 :
 Nat)
 (Int.toNat
 (0 :
 Int))) then
 bif
 (plus
 (0 :
 Nat)
 (Int.toNat
 (0 :
 Int))).blt
 r_1.2.1 then
 r_1.2.2.2.2.2.2.2
 (plus
 (0 :
 Nat)
 (Int.toNat
 (0 :
 Int)))
 else
 Aba
 else
 bif
 i.blt
 r_1.2.1 then
 r_1.2.2.2.2.2.2.2
 i
 else
 Aba)
 r_1.2.2.1
 r_1.2.2.2.1
 res)) ∧
 ((Aa ==
 (9 :
 Int)) =
 !true →
 true =
 true ∧
 (!true) =
 !true ∧
 true =
 true ∧
 (!true) =
 !true ∧
 true =
 true ∧
 True ∧
 false =
 false ∧
 ((True ∧
 Sub
 (.pt
 (1000 :
 Nat)
 []
 (0 :
 Nat))
 (.pt
 (1000 :
 Nat)
 []
 (0 :
 Nat)) ∧
 True ∧
 Sub
 (.pt
 (1001 :
 Nat)
 []
 (0 :
 Nat))
 (.pt
 (1001 :
 Nat)
 []
 (0 :
 Nat)) ∧
 True ∧
 Sub
 (.pt
 (1002 :
 Nat)
 []
 (0 :
 Nat))
 (.pt
 (1002 :
 Nat)
 []
 (0 :
 Nat)) ∧
 True ∧
 Sub
 (.rf
 (1003 :
 Nat)
 (3 :
 Nat)
 (0 :
 Nat)
 (r_1.2.1 +
 (1 :
 Nat)))
 (.rf
 (1003 :
 Nat)
 (3 :
 Nat)
 (0 :
 Nat)
 (r_1.2.1 +
 (1 :
 Nat))) ∧
 True) ∧
 (True ∧
 True ∧
 True ∧
 True) ∧
 SubB
 (.cons
 (1 :
 Nat)
 (.sc
 (Value.int
 IntKind.i64
 Aa))
 (.cons
 (1 :
 Nat)
 (.sc
 (Value.int
 IntKind.i64
 Aba))
 (.cons
 (1 :
 Nat)
 (.sc
 (Value.int
 IntKind.i64
 Abba))
 .nil)))
 (.cons
 (1 :
 Nat)
 (.sc
 (Value.int
 IntKind.i64
 Aa))
 (.cons
 (1 :
 Nat)
 (.sc
 (Value.int
 IntKind.i64
 Aba))
 (.cons
 (1 :
 Nat)
 (.sc
 (Value.int
 IntKind.i64
 Abba))
 .nil))) ∧
 (True ∧
 True ∧
 True ∧
 True ∧
 True ∧
 True) ∧
 SubB
 (.cons
 (1 :
 Nat)
 (.sc
 (Value.slice
 none
 (0 :
 Nat)
 (0 :
 Nat)))
 (.cons
 (1 :
 Nat)
 (.sc
 (Value.int
 IntKind.i64
 (0 :
 Int)))
 (.cons
 (1 :
 Nat)
 (.sc
 (Value.int
 IntKind.i64
 (0 :
 Int)))
 (.cons
 (1 :
 Nat)
 (.sc
 (Value.bool
 false))
 (.cons
 (1 :
 Nat)
 (.sc
 (Value.int
 IntKind.i64
 (0 :
 Int)))
 .nil)))))
 (.cons
 (1 :
 Nat)
 (.sc
 (Value.slice
 none
 (0 :
 Nat)
 (0 :
 Nat)))
 (.cons
 (1 :
 Nat)
 (.sc
 (Value.int
 IntKind.i64
 (0 :
 Int)))
 (.cons
 (1 :
 Nat)
 (.sc
 (Value.int
 IntKind.i64
 (0 :
 Int)))
 (.cons
 (1 :
 Nat)
 (.sc
 (Value.bool
 false))
 (.cons
 (1 :
 Nat)
 (.sc
 (Value.int
 IntKind.i64
 (0 :
 Int)))
 .nil))))) ∧
 (True ∧
 True ∧
 True ∧
 True ∧
 True ∧
 True) ∧
 SubB
 (.cons
 (1 :
 Nat)
 (.rf
 (1004 :
 Nat)
 (1 :
 Nat)
 (0 :
 Nat)
 r_1.1)
 (.cons
 (1 :
 Nat)
 (.sc
 (Value.int
 IntKind.i64
 r.2.2.1))
 (.cons
 (1 :
 Nat)
 (.sc
 (Value.int
 IntKind.i64
 (0 :
 Int)))
 (.cons
 (1 :
 Nat)
 (.sc
 (Value.bool
 false))
 (.cons
 (1 :
 Nat)
 (.sc
 (Value.int
 IntKind.i64
 (0 :
 Int)))
 .nil)))))
 (.cons
 (1 :
 Nat)
 (.rf
 (1004 :
 Nat)
 (1 :
 Nat)
 (0 :
 Nat)
 r_1.1)
 (.cons
 (1 :
 Nat)
 (.sc
 (Value.int
 IntKind.i64
 r.2.2.1))
 (.cons
 (1 :
 Nat)
 (.sc
 (Value.int
 IntKind.i64
 (0 :
 Int)))
 (.cons
 (1 :
 Nat)
 (.sc
 (Value.bool
 false))
 (.cons
 (1 :
 Nat)
 (.sc
 (Value.int
 IntKind.i64
 (0 :
 Int)))
 .nil))))) ∧
 True ∧
 SubB
 (.ar
 (r_1.2.1 +
 (1 :
 Nat))
 (3 :
 Nat)
 fun
 (i :
 Nat) =>
 .cons
 (1 :
 Nat)
 (.sc
 (Value.int
 IntKind.i64
 (bif
 i.beq
 (plus
 (0 :
 Nat)
 (Int.toNat
 (0 :
 Int))) then
 bif
 (plus
 (0 :
 Nat)
 (Int.toNat
 (0 :
 Int))).blt
 r_1.2.1 then
 r_1.2.2.2.2.2.1
 (plus
 (0 :
 Nat)
 (Int.toNat
 (0 :
 Int)))
 else
 Aa
 else
 bif
 i.blt
 r_1.2.1 then
 r_1.2.2.2.2.2.1
 i
 else
 Aa)))
 (.cons
 (1 :
 Nat)
 (.sc
 (Value.int
 IntKind.i64
 (bif
 i.beq
 (plus
 (0 :
 Nat)
 (Int.toNat
 (0 :
 Int))) then
 tbbbba
 else
 bif
 i.blt
 r_1.2.1 then
 r_1.2.2.2.2.2.2.1
 i
 else
 (0 :
 Int))))
 (.cons
 (1 :
 Nat)
 (.sc
 (Value.int
 IntKind.i64
 (bif
 i.beq
 (plus
 (0 :
 Nat)
 (Int.toNat
 (0 :
 Int))) then
 bif
 (plus
 (0 :
 Nat)
 (Int.toNat
 (0 :
 Int))).blt
 r_1.2.1 then
 r_1.2.2.2.2.2.2.2
 (plus
 (0 :
 Nat)
 (Int.toNat
 (0 :
 Int)))
 else
 Aba
 else
 bif
 i.blt
 r_1.2.1 then
 r_1.2.2.2.2.2.2.2
 i
 else
 Aba)))
 .nil)))
 (.ar
 (r_1.2.1 +
 (1 :
 Nat))
 (3 :
 Nat)
 fun
 (i0 :
 Nat) =>
 .cons
 (1 :
 Nat)
 (.sc
 (Value.int
 IntKind.i64
 (bif
 i0.beq
 (plus
 (0 :
 Nat)
 (Int.toNat
 (0 :
 Int))) then
 bif
 (plus
 (0 :
 Nat)
 (Int.toNat
 (0 :
 Int))).blt
 r_1.2.1 then
 r_1.2.2.2.2.2.1
 (plus
 (0 :
 Nat)
 (Int.toNat
 (0 :
 Int)))
 else
 Aa
 else
 bif
 i0.blt
 r_1.2.1 then
 r_1.2.2.2.2.2.1
 i0
 else
 Aa)))
 (.cons
 (1 :
 Nat)
 (.sc
 (Value.int
 IntKind.i64
 (bif
 i0.beq
 (plus
 (0 :
 Nat)
 (Int.toNat
 (0 :
 Int))) then
 tbbbba
 else
 bif
 i0.blt
 r_1.2.1 then
 r_1.2.2.2.2.2.2.1
 i0
 else
 (0 :
 Int))))
 (.cons
 (1 :
 Nat)
 (.sc
 (Value.int
 IntKind.i64
 (bif
 i0.beq
 (plus
 (0 :
 Nat)
 (Int.toNat
 (0 :
 Int))) then
 bif
 (plus
 (0 :
 Nat)
 (Int.toNat
 (0 :
 Int))).blt
 r_1.2.1 then
 r_1.2.2.2.2.2.2.2
 (plus
 (0 :
 Nat)
 (Int.toNat
 (0 :
 Int)))
 else
 Aba
 else
 bif
 i0.blt
 r_1.2.1 then
 r_1.2.2.2.2.2.2.2
 i0
 else
 Aba)))
 .nil))) ∧
 True ∧
 SubB
 (.ar
 r_1.2.2.1
 (1 :
 Nat)
 fun
 (i0 :
 Nat) =>
 .sc
 (Value.int
 IntKind.i64
 (r_1.2.2.2.1
 i0)))
 (.ar
 r_1.2.2.1
 (1 :
 Nat)
 fun
 (i0 :
 Nat) =>
 .sc
 (Value.int
 IntKind.i64
 (r_1.2.2.2.1
 i0))) ∧
 True) ∧
 L48_2
 (r_1.2.1 +
 (1 :
 Nat))
 Aa
 Aba
 Abba
 (0 :
 Int)
 (0 :
 Int)
 false
 (0 :
 Int)
 r_1.1
 r.2.2.1
 (0 :
 Int)
 false
 (0 :
 Int)
 (r_1.2.1 +
 (1 :
 Nat))
 (fun
 (i :
 Nat) =>
 bif
 i.beq
 (plus
 (0 :
 Nat)
 (Int.toNat
 (0 :
 Int))) then
 bif
 (plus
 (0 :
 Nat)
 (Int.toNat
 (0 :
 Int))).blt
 r_1.2.1 then
 r_1.2.2.2.2.2.1
 (plus
 (0 :
 Nat)
 (Int.toNat
 (0 :
 Int)))
 else
 Aa
 else
 bif
 i.blt
 r_1.2.1 then
 r_1.2.2.2.2.2.1
 i
 else
 Aa)
 (fun
 (i :
 Nat) =>
 bif
 i.beq
 (plus
 (0 :
 Nat)
 (Int.toNat
 (0 :
 Int))) then
 tbbbba
 else
 bif
 i.blt
 r_1.2.1 then
 r_1.2.2.2.2.2.2.1
 i
 else
 (0 :
 Int))
 (fun
 (i :
 Nat) =>
 bif
 i.beq
 (plus
 (0 :
 Nat)
 (Int.toNat
 (0 :
 Int))) then
 bif
 (plus
 (0 :
 Nat)
 (Int.toNat
 (0 :
 Int))).blt
 r_1.2.1 then
 r_1.2.2.2.2.2.2.2
 (plus
 (0 :
 Nat)
 (Int.toNat
 (0 :
 Int)))
 else
 Aba
 else
 bif
 i.blt
 r_1.2.1 then
 r_1.2.2.2.2.2.2.2
 i
 else
 Aba)
 r_1.2.2.1
 r_1.2.2.2.1
 res))))) ∧
 ((Aa == (26 : Int)) = !false →
 true = true ∧
 (!false) = !false ∧
 true = true ∧
 (!false) = !false ∧
 true = true ∧
 True ∧
 True ∧
 true = true ∧
 True ∧
 ((1 : Nat) +
 ((1 :
 Nat) +
 ((1 :
 Nat) +
 ((1 :
 Nat) +
 (0 :
 Nat)))) =
 plus
 (0 :
 Nat)
 (4 :
 Nat) ∧
 True) ∧
 True ∧
 ((1 :
 Nat) +
 (0 :
 Nat) =
 plus
 (0 :
 Nat)
 (1 :
 Nat) ∧
 True) ∧
 True ∧
 True ∧
 ((1 :
 Nat) +
 ((1 :
 Nat) +
 ((1 :
 Nat) +
 ((1 :
 Nat) +
 (0 :
 Nat)))) =
 plus
 (0 :
 Nat)
 (4 :
 Nat) ∧
 True) ∧
 ((0 :
 Nat) =
 (0 :
 Nat) ∧
 True) ∧
 ((0 :
 Nat) =
 (0 :
 Nat) ∧
 True) ∧
 True ∧
 (((0 :
 Nat) =
 (0 :
 Nat) ∧
 True) ∧
 True ∧
 True) ∧
 ((((True ∧
 True ∧
 True ∧
 True ∧
 True ∧
 True) ∧
 True ∧
 True) ∧
 Sub
 (AV.cons
 (1 :
 Nat)
 (.cons
 (1 :
 Nat)
 (.vec
 false
 (1 :
 Nat)
 r.1
 r.1
 fun
 (i0 :
 Nat) =>
 .sc
 (Value.int
 IntKind.i64
 (r.2.1
 i0)))
 (.cons
 (1 :
 Nat)
 (.sc
 (Value.int
 IntKind.i64
 r.2.2.1))
 (.cons
 (1 :
 Nat)
 (.sc
 (Value.int
 IntKind.i64
 r.2.2.2.1))
 (.cons
 (1 :
 Nat)
 (.sc
 (Value.bool
 r.2.2.2.2.1))
 (.cons
 (1 :
 Nat)
 (.sc
 (Value.int
 IntKind.i64
 (IntKind.i64.wrap
 (tbbbba +
 Aba))))
 .nil)))))
 (.cons
 (1 :
 Nat)
 (.sc
 (Value.slice
 none
 (0 :
 Nat)
 (0 :
 Nat)))
 .nil)).tup
 (AV.cons
 (1 :
 Nat)
 (.cons
 (1 :
 Nat)
 (.vec
 false
 (1 :
 Nat)
 r.1
 r.1
 fun
 (i0 :
 Nat) =>
 .sc
 (Value.int
 IntKind.i64
 (r.2.1
 i0)))
 (.cons
 (1 :
 Nat)
 (.sc
 (Value.int
 IntKind.i64
 r.2.2.1))
 (.cons
 (1 :
 Nat)
 (.sc
 (Value.int
 IntKind.i64
 r.2.2.2.1))
 (.cons
 (1 :
 Nat)
 (.sc
 (Value.bool
 r.2.2.2.2.1))
 (.cons
 (1 :
 Nat)
 (.sc
 (Value.int
 IntKind.i64
 (IntKind.i64.wrap
 (tbbbba +
 Aba))))
 .nil)))))
 (.cons
 (1 :
 Nat)
 (.sc
 (Value.slice
 none
 (0 :
 Nat)
 (0 :
 Nat)))
 .nil)).tup ∧
 True) ∧
 True) ∧
 Sub
 (AV.cons
 (1 :
 Nat)
 (.cons
 (1 :
 Nat)
 (.vec
 false
 (1 :
 Nat)
 r.1
 r.1
 fun
 (i0 :
 Nat) =>
 .sc
 (Value.int
 IntKind.i64
 (r.2.1
 i0)))
 (.cons
 (1 :
 Nat)
 (.sc
 (Value.int
 IntKind.i64
 r.2.2.1))
 (.cons
 (1 :
 Nat)
 (.sc
 (Value.int
 IntKind.i64
 r.2.2.2.1))
 (.cons
 (1 :
 Nat)
 (.sc
 (Value.bool
 r.2.2.2.2.1))
 (.cons
 (1 :
 Nat)
 (.sc
 (Value.int
 IntKind.i64
 (IntKind.i64.wrap
 (tbbbba +
 Aba))))
 .nil)))))
 (.cons
 (1 :
 Nat)
 (.sc
 (Value.slice
 none
 (0 :
 Nat)
 (0 :
 Nat)))
 .nil)).tup
 res ∧
 SubOut
 []
 [])))) ∧
 (((↑o.size : Int) != Aba) = !false →
 true = true ∧
 (!false) = !false ∧
 true = true ∧
 (!false) = !false ∧
 true = true ∧
 (!false) = !false ∧
 true = true ∧
 (!false) = !false ∧
 true = true ∧
 (!false) = !false ∧
 true = true ∧
 True ∧
 true = true ∧
 True ∧
 ((0 : Nat) = (0 : Nat) ∧ True) ∧
 True ∧
 (((0 : Nat) = (0 : Nat) ∧ True) ∧ True ∧ True) ∧
 ((((True ∧ True ∧ True ∧ True ∧ True ∧ True) ∧
 True ∧ True) ∧
 Sub
 (AV.cons 1
 (.cons 1
 (.sc
 (.slice none (0 : Nat) (0 : Nat)))
 (.cons 1
 (.sc (.int .i64 (0 : Int)))
 (.cons 1
 (.sc
 (.int .i64 (0 : Int)))
 (.cons 1
 (.sc (.bool false))
 (.cons 1
 (.sc
 (.int .i64 (0 : Int)))
 .nil)))))
 (.cons 1
 (.sc
 (.slice none (0 : Nat) (0 : Nat)))
 .nil)).tup
 (AV.cons 1
 (.cons 1
 (.sc
 (.slice none (0 : Nat) (0 : Nat)))
 (.cons 1
 (.sc (.int .i64 (0 : Int)))
 (.cons 1
 (.sc
 (.int .i64 (0 : Int)))
 (.cons 1
 (.sc (.bool false))
 (.cons 1
 (.sc
 (.int .i64 (0 : Int)))
 .nil)))))
 (.cons 1
 (.sc
 (.slice none (0 : Nat) (0 : Nat)))
 .nil)).tup ∧
 True) ∧
 True) ∧
 Sub
 (AV.cons 1
 (.cons 1
 (.sc (.slice none (0 : Nat) (0 : Nat)))
 (.cons 1
 (.sc (.int .i64 (0 : Int)))
 (.cons 1
 (.sc (.int .i64 (0 : Int)))
 (.cons 1
 (.sc (.bool false))
 (.cons 1
 (.sc
 (.int .i64 (0 : Int)))
 .nil)))))
 (.cons 1
 (.sc (.slice none (0 : Nat) (0 : Nat)))
 .nil)).tup
 res ∧
 SubOut [] [])) ∧
 (decide (Aba < (1 : Int)) = !false →
 true = true ∧
 (!false) = !false ∧
 true = true ∧
 (!false) = !false ∧
 true = true ∧
 (!false) = !false ∧
 true = true ∧
 (!false) = !false ∧
 true = true ∧
 True ∧
 True ∧
 true = !false ∧
 true = true ∧
 (!false) = !false ∧
 true = true ∧
 (!false) = !false ∧
 true = true ∧
 (!false) = !false ∧
 true = true ∧
 (!false) = !false ∧
 true = true ∧
 (!false) = !false ∧
 true = true ∧
 True ∧
 true = true ∧
 True ∧
 ((0 : Nat) = (0 : Nat) ∧ True) ∧
 True ∧
 (((0 : Nat) = (0 : Nat) ∧ True) ∧ True ∧ True) ∧
 ((((True ∧ True ∧ True ∧ True ∧ True ∧ True) ∧ True ∧ True) ∧
 Sub
 (AV.cons 1
 (.cons 1
 (.sc (.slice none (0 : Nat) (0 : Nat)))
 (.cons 1
 (.sc (.int .i64 (0 : Int)))
 (.cons 1
 (.sc (.int .i64 (0 : Int)))
 (.cons 1
 (.sc (.bool false))
 (.cons 1
 (.sc
 (.int .i64 (0 : Int)))
 .nil)))))
 (.cons 1
 (.sc (.slice none (0 : Nat) (0 : Nat)))
 .nil)).tup
 (AV.cons 1
 (.cons 1
 (.sc (.slice none (0 : Nat) (0 : Nat)))
 (.cons 1
 (.sc (.int .i64 (0 : Int)))
 (.cons 1
 (.sc (.int .i64 (0 : Int)))
 (.cons 1
 (.sc (.bool false))
 (.cons 1
 (.sc
 (.int .i64 (0 : Int)))
 .nil)))))
 (.cons 1
 (.sc (.slice none (0 : Nat) (0 : Nat)))
 .nil)).tup ∧
 True) ∧
 True) ∧
 Sub
 (AV.cons 1
 (.cons 1
 (.sc (.slice none (0 : Nat) (0 : Nat)))
 (.cons 1
 (.sc (.int .i64 (0 : Int)))
 (.cons 1
 (.sc (.int .i64 (0 : Int)))
 (.cons 1 (.sc (.bool false))
 (.cons 1
 (.sc (.int .i64 (0 : Int)))
 .nil)))))
 (.cons 1
 (.sc (.slice none (0 : Nat) (0 : Nat)))
 .nil)).tup
 res ∧
 SubOut [] [])) ∧
 ((!r) = !false →
 true = true ∧
 (!false) = !false ∧
 true = true ∧
 (!false) = !false ∧
 true = true ∧
 True ∧
 True ∧
 true = !false ∧
 true = true ∧
 (!false) = !false ∧
 true = true ∧
 (!false) = !false ∧
 true = true ∧
 (!false) = !false ∧
 true = true ∧
 (!false) = !false ∧
 true = true ∧
 True ∧
 True ∧
 true = !false ∧
 true = true ∧
 (!false) = !false ∧
 true = true ∧
 (!false) = !false ∧
 true = true ∧
 (!false) = !false ∧
 true = true ∧
 (!false) = !false ∧
 true = true ∧
 (!false) = !false ∧
 true = true ∧
 True ∧
 true = true ∧
 True ∧
 ((0 : Nat) = (0 : Nat) ∧ True) ∧
 True ∧
 (((0 : Nat) = (0 : Nat) ∧ True) ∧ True ∧ True) ∧
 ((((True ∧ True ∧ True ∧ True ∧ True ∧ True) ∧ True ∧ True) ∧
 Sub
 (AV.cons 1
 (.cons 1
 (.sc (.slice none (0 : Nat) (0 : Nat)))
 (.cons 1
 (.sc (.int .i64 (0 : Int)))
 (.cons 1
 (.sc (.int .i64 (0 : Int)))
 (.cons 1
 (.sc (.bool false))
 (.cons 1
 (.sc
 (.int .i64 (0 : Int)))
 .nil)))))
 (.cons 1
 (.sc (.slice none (0 : Nat) (0 : Nat)))
 .nil)).tup
 (AV.cons 1
 (.cons 1
 (.sc (.slice none (0 : Nat) (0 : Nat)))
 (.cons 1
 (.sc (.int .i64 (0 : Int)))
 (.cons 1
 (.sc (.int .i64 (0 : Int)))
 (.cons 1
 (.sc (.bool false))
 (.cons 1
 (.sc
 (.int .i64 (0 : Int)))
 .nil)))))
 (.cons 1
 (.sc (.slice none (0 : Nat) (0 : Nat)))
 .nil)).tup ∧
 True) ∧
 True) ∧
 Sub
 (AV.cons 1
 (.cons 1
 (.sc (.slice none (0 : Nat) (0 : Nat)))
 (.cons 1
 (.sc (.int .i64 (0 : Int)))
 (.cons 1
 (.sc (.int .i64 (0 : Int)))
 (.cons 1 (.sc (.bool false))
 (.cons 1
 (.sc (.int .i64 (0 : Int)))
 .nil)))))
 (.cons 1
 (.sc (.slice none (0 : Nat) (0 : Nat)))
 .nil)).tup
 res ∧
 SubOut [] []) from
 ⟨trivial, ⟨trivial, ⟨trivial, ⟨trivial, ⟨⟨rfl, trivial⟩, (Exists.elim h fun x5 h5 => ⟨x5, (And.elim (fun h6 k6 => ⟨⟨⟨⟨trivial, ⟨trivial, ⟨trivial, ⟨trivial, ⟨trivial, trivial⟩⟩⟩⟩⟩, trivial⟩, ⟨trivial, h6⟩⟩, ⟨trivial, ⟨trivial, (And.elim (fun h9 k9 => ⟨(fun x10 => (fun h10 => ⟨trivial, ⟨rfl, ⟨⟨rfl, trivial⟩, ⟨rfl, ⟨trivial, ⟨trivial, ⟨trivial, (And.elim (fun h18 k18 => ⟨(fun x19 => (fun h19 => ⟨trivial, ⟨rfl, ⟨trivial, ⟨rfl, ⟨trivial, ⟨rfl, ⟨⟨rfl, trivial⟩, ⟨rfl, ⟨trivial, ⟨trivial, ⟨trivial, (And.elim (fun h31 k31 => ⟨(fun x32 => (fun h32 => ⟨trivial, ⟨rfl, ⟨⟨rfl, trivial⟩, ⟨rfl, ⟨trivial, ⟨rfl, ⟨⟨rfl, trivial⟩, ⟨rfl, ⟨trivial, ⟨rfl, ⟨trivial, ⟨trivial, (And.elim (fun h45 k45 => ⟨(fun x46 => (fun h46 => ⟨trivial, ⟨⟨rfl, trivial⟩, ⟨trivial, ⟨⟨⟨rfl, trivial⟩, ⟨trivial, trivial⟩⟩, ⟨⟨⟨⟨⟨trivial, ⟨trivial, ⟨trivial, ⟨trivial, ⟨trivial, trivial⟩⟩⟩⟩⟩, ⟨trivial, trivial⟩⟩, ⟨Sub.refl _, trivial⟩⟩, trivial⟩, ((fun h52 => ⟨h52, trivial⟩) h46)⟩⟩⟩⟩⟩) (h45 x46)), (fun x46 => (fun h46 => ⟨⟨rfl, trivial⟩, (Exists.elim h46 fun x48 h48 => ⟨x48, (And.elim (fun h49 k49 => ⟨⟨⟨⟨trivial, ⟨trivial, ⟨trivial, ⟨trivial, ⟨trivial, trivial⟩⟩⟩⟩⟩, trivial⟩, ⟨trivial, h49⟩⟩, ⟨trivial, ⟨⟨rfl, trivial⟩, ⟨trivial, ⟨⟨rfl, trivial⟩, ⟨trivial, ⟨trivial, (And.elim (fun h56 k56 => ⟨(fun x57 => (fun h57 => ⟨trivial, ⟨⟨rfl, trivial⟩, ⟨trivial, ⟨⟨rfl, trivial⟩, ⟨trivial, ⟨trivial, ⟨⟨rfl, trivial⟩, ⟨trivial, ⟨⟨rfl, trivial⟩, ⟨trivial, (And.elim (fun h68 k68 => ⟨(fun x69 => (fun h69 => ⟨trivial, ⟨rfl, ⟨⟨rfl, trivial⟩, ⟨rfl, ⟨trivial, ⟨trivial, (And.elim (fun h76 k76 => ⟨(fun x77 => (fun h77 => ⟨trivial, ⟨⟨rfl, trivial⟩, ⟨trivial, (Exists.elim h77 fun x81 h81 => ⟨x81, (And.elim (fun h82 k82 => ⟨⟨⟨trivial, ⟨trivial, trivial⟩⟩, ⟨trivial, h82⟩⟩, ⟨trivial, ⟨⟨rfl, trivial⟩, ⟨⟨⟨trivial, ⟨Sub.refl _, ⟨trivial, ⟨Sub.refl _, trivial⟩⟩⟩⟩, ⟨⟨trivial, ⟨trivial, ⟨trivial, ⟨trivial, ⟨trivial, trivial⟩⟩⟩⟩⟩, ⟨SubB.refl _, ⟨⟨trivial, ⟨trivial, ⟨trivial, ⟨trivial, ⟨trivial, trivial⟩⟩⟩⟩⟩, ⟨SubB.refl _, trivial⟩⟩⟩⟩⟩, k82⟩⟩⟩⟩) h81)⟩)⟩⟩⟩) (h76 x77)), (fun x77 => (fun h77 => ⟨⟨⟨trivial, ⟨Sub.refl _, ⟨trivial, ⟨Sub.refl _, trivial⟩⟩⟩⟩, ⟨⟨trivial, ⟨trivial, ⟨trivial, ⟨trivial, ⟨trivial, trivial⟩⟩⟩⟩⟩, ⟨SubB.refl _, ⟨⟨trivial, ⟨trivial, ⟨trivial, ⟨trivial, ⟨trivial, trivial⟩⟩⟩⟩⟩, ⟨SubB.refl _, trivial⟩⟩⟩⟩⟩, h77⟩) (k76 x77))⟩) h69)⟩⟩⟩⟩⟩⟩) (h68 x69)), (fun x69 => (fun h69 => ⟨rfl, ⟨rfl, ⟨rfl, ⟨rfl, ⟨rfl, ⟨trivial, ⟨rfl, ⟨⟨⟨trivial, ⟨Sub.refl _, ⟨trivial, ⟨Sub.refl _, trivial⟩⟩⟩⟩, ⟨⟨trivial, ⟨trivial, ⟨trivial, ⟨trivial, ⟨trivial, trivial⟩⟩⟩⟩⟩, ⟨SubB.refl _, ⟨⟨trivial, ⟨trivial, ⟨trivial, ⟨trivial, ⟨trivial, trivial⟩⟩⟩⟩⟩, ⟨SubB.refl _, trivial⟩⟩⟩⟩⟩, h69⟩⟩⟩⟩⟩⟩⟩⟩) (k68 x69))⟩) h57)⟩⟩⟩⟩⟩⟩⟩⟩⟩⟩) (h56 x57)), (fun x57 => (fun h57 => ⟨trivial, ⟨⟨rfl, trivial⟩, ⟨trivial, ⟨trivial, (And.elim (fun h62 k62 => ⟨(fun x63 => (fun h63 => ⟨trivial, ⟨rfl, ⟨⟨rfl, trivial⟩, ⟨rfl, ⟨trivial, ⟨trivial, ⟨trivial, (And.elim (fun h71 k71 => ⟨(fun x72 => (fun h72 => ⟨trivial, ⟨⟨rfl, trivial⟩, ⟨trivial, ⟨⟨rfl, trivial⟩, ⟨trivial, ⟨trivial, ⟨⟨rfl, trivial⟩, ⟨⟨rfl, trivial⟩, ⟨⟨rfl, trivial⟩, ⟨trivial, ⟨⟨⟨rfl, trivial⟩, ⟨trivial, trivial⟩⟩, ⟨⟨⟨⟨⟨trivial, ⟨trivial, ⟨trivial, ⟨trivial, ⟨trivial, trivial⟩⟩⟩⟩⟩, ⟨trivial, trivial⟩⟩, ⟨Sub.refl _, trivial⟩⟩, trivial⟩, ((fun h85 => ⟨h85, trivial⟩) h72)⟩⟩⟩⟩⟩⟩⟩⟩⟩⟩⟩⟩) (h71 x72)), (fun x72 => (fun h72 => ⟨trivial, ⟨⟨rfl, trivial⟩, ⟨trivial, ⟨trivial, (And.elim (fun h77 k77 => ⟨(fun x78 => (fun h78 => ⟨trivial, ⟨rfl, ⟨⟨rfl, trivial⟩, ⟨rfl, ⟨trivial, ⟨trivial, ⟨trivial, (And.elim (fun h86 k86 => ⟨(fun x87 => (fun h87 => ⟨trivial, ⟨rfl, ⟨⟨rfl, trivial⟩, ⟨rfl, ⟨trivial, ⟨trivial, ⟨trivial, (And.elim (fun h95 k95 => ⟨(fun x96 => (fun h96 => ⟨trivial, ⟨⟨rfl, trivial⟩, ⟨trivial, ⟨⟨rfl, trivial⟩, ⟨trivial, ⟨⟨rfl, trivial⟩, ⟨⟨rfl, trivial⟩, ⟨trivial, ⟨⟨rfl, trivial⟩, ⟨trivial, ⟨⟨rfl, trivial⟩, ⟨trivial, ⟨⟨⟨⟨trivial, ⟨trivial, ⟨trivial, trivial⟩⟩⟩, trivial⟩, trivial⟩, ⟨⟨rfl, trivial⟩, ⟨trivial, ⟨⟨⟨rfl, trivial⟩, ⟨trivial, trivial⟩⟩, (And.elim (fun h113 k113 => ⟨((fun h114 => ⟨((fun h115 => ⟨⟨⟨trivial, ⟨trivial, ⟨trivial, ⟨trivial, ⟨trivial, trivial⟩⟩⟩⟩⟩, ((fun h117 => ⟨h117, trivial⟩) h115)⟩, ⟨Sub.refl _, trivial⟩⟩) h114), trivial⟩) h113), ((fun h114 => ⟨h114, trivial⟩) k113)⟩) h96)⟩⟩⟩⟩⟩⟩⟩⟩⟩⟩⟩⟩⟩⟩⟩⟩) (h95 x96)), (fun x96 => (fun h96 => ⟨trivial, ⟨⟨rfl, trivial⟩, ⟨trivial, ⟨trivial, (And.elim (fun h101 k101 => ⟨(fun x102 => (fun h102 => ⟨trivial, ⟨⟨rfl, trivial⟩, ⟨trivial, ⟨⟨rfl, trivial⟩, ⟨trivial, ⟨trivial, ⟨⟨rfl, trivial⟩, ⟨trivial, ⟨⟨rfl, trivial⟩, ⟨trivial, (And.elim (fun h113 k113 => ⟨(fun x114 => (fun h114 => ⟨trivial, ⟨⟨rfl, trivial⟩, ⟨⟨⟨trivial, ⟨Sub.refl _, ⟨trivial, ⟨Sub.refl _, trivial⟩⟩⟩⟩, ⟨⟨trivial, ⟨trivial, ⟨trivial, ⟨trivial, ⟨trivial, trivial⟩⟩⟩⟩⟩, ⟨SubB.refl _, ⟨⟨trivial, ⟨trivial, ⟨trivial, ⟨trivial, ⟨trivial, trivial⟩⟩⟩⟩⟩, ⟨SubB.refl _, trivial⟩⟩⟩⟩⟩, h114⟩⟩⟩) (h113 x114)), (fun x114 => (fun h114 => ⟨⟨⟨trivial, ⟨Sub.refl _, ⟨trivial, ⟨Sub.refl _, trivial⟩⟩⟩⟩, ⟨⟨trivial, ⟨trivial, ⟨trivial, ⟨trivial, ⟨trivial, trivial⟩⟩⟩⟩⟩, ⟨SubB.refl _, ⟨⟨trivial, ⟨trivial, ⟨trivial, ⟨trivial, ⟨trivial, trivial⟩⟩⟩⟩⟩, ⟨SubB.refl _, trivial⟩⟩⟩⟩⟩, h114⟩) (k113 x114))⟩) h102)⟩⟩⟩⟩⟩⟩⟩⟩⟩⟩) (h101 x102)), (fun x102 => (fun h102 => ⟨⟨rfl, trivial⟩, (Exists.elim h102 fun x104 h104 => ⟨x104, (And.elim (fun h105 k105 => ⟨⟨⟨⟨trivial, ⟨trivial, ⟨trivial, ⟨trivial, ⟨trivial, trivial⟩⟩⟩⟩⟩, trivial⟩, ⟨trivial, h105⟩⟩, ⟨trivial, ⟨trivial, ⟨trivial, ⟨trivial, ⟨trivial, ⟨trivial, ⟨trivial, ⟨⟨rfl, trivial⟩, ⟨trivial, ⟨⟨rfl, trivial⟩, ⟨trivial, ⟨⟨⟨⟨trivial, ⟨trivial, ⟨trivial, trivial⟩⟩⟩, trivial⟩, trivial⟩, (And.elim (fun h118 k118 => ⟨(And.elim (fun h119 k119 => ⟨h119, (And.elim (fun h120 k120 => ⟨((fun h121 => ⟨h121, rfl⟩) h120), (And.elim (fun h121 k121 => ⟨h121, k121⟩) k120)⟩) k119)⟩) h118), ⟨trivial, ⟨trivial, ⟨trivial, ⟨⟨rfl, trivial⟩, (And.elim (fun h123 k123 => ⟨(And.elim (fun h124 k124 => ⟨h124, k124⟩) h123), ⟨trivial, (And.elim (fun h125 k125 => ⟨⟨rfl, ((fun h127 => ⟨((fun h128 => ⟨h128, trivial⟩) h127), trivial⟩) h125)⟩, ⟨trivial, ⟨trivial, ⟨⟨rfl, trivial⟩, ⟨trivial, ⟨⟨rfl, trivial⟩, ⟨trivial, ⟨⟨rfl, trivial⟩, ⟨trivial, ⟨⟨rfl, trivial⟩, ⟨trivial, ⟨⟨rfl, trivial⟩, ⟨trivial, ⟨trivial, (And.elim (fun h139 k139 => ⟨(fun x140 => (fun h140 => ⟨trivial, ⟨rfl, ⟨⟨rfl, trivial⟩, ⟨rfl, ⟨trivial, ⟨trivial, (And.elim (fun h147 k147 => ⟨(fun x148 => (fun h148 => ⟨trivial, ⟨⟨rfl, trivial⟩, ⟨trivial, ⟨trivial, ⟨⟨rfl, trivial⟩, ⟨⟨⟨trivial, ⟨Sub.refl _, ⟨trivial, ⟨Sub.refl _, ⟨trivial, ⟨Sub.refl _, ⟨trivial, ⟨Sub.refl _, trivial⟩⟩⟩⟩⟩⟩⟩⟩, ⟨⟨trivial, ⟨trivial, ⟨trivial, trivial⟩⟩⟩, ⟨SubB.refl _, ⟨⟨trivial, ⟨trivial, ⟨trivial, ⟨trivial, ⟨trivial, trivial⟩⟩⟩⟩⟩, ⟨SubB.refl _, ⟨⟨trivial, ⟨trivial, ⟨trivial, ⟨trivial, ⟨trivial, trivial⟩⟩⟩⟩⟩, ⟨SubB.refl _, ⟨trivial, ⟨SubB.refl _, ⟨trivial, ⟨SubB.refl _, trivial⟩⟩⟩⟩⟩⟩⟩⟩⟩⟩⟩, h148⟩⟩⟩⟩⟩⟩) (h147 x148)), (fun x148 => (fun h148 => ⟨⟨⟨trivial, ⟨Sub.refl _, ⟨trivial, ⟨Sub.refl _, ⟨trivial, ⟨Sub.refl _, ⟨trivial, ⟨Sub.refl _, trivial⟩⟩⟩⟩⟩⟩⟩⟩, ⟨⟨trivial, ⟨trivial, ⟨trivial, trivial⟩⟩⟩, ⟨SubB.refl _, ⟨⟨trivial, ⟨trivial, ⟨trivial, ⟨trivial, ⟨trivial, trivial⟩⟩⟩⟩⟩, ⟨SubB.refl _, ⟨⟨trivial, ⟨trivial, ⟨trivial, ⟨trivial, ⟨trivial, trivial⟩⟩⟩⟩⟩, ⟨SubB.refl _, ⟨trivial, ⟨SubB.refl _, ⟨trivial, ⟨SubB.refl _, trivial⟩⟩⟩⟩⟩⟩⟩⟩⟩⟩⟩, h148⟩) (k147 x148))⟩) h140)⟩⟩⟩⟩⟩⟩) (h139 x140)), (fun x140 => (fun h140 => ⟨rfl, ⟨rfl, ⟨rfl, ⟨rfl, ⟨rfl, ⟨trivial, ⟨rfl, ⟨⟨⟨trivial, ⟨Sub.refl _, ⟨trivial, ⟨Sub.refl _, ⟨trivial, ⟨Sub.refl _, ⟨trivial, ⟨Sub.refl _, trivial⟩⟩⟩⟩⟩⟩⟩⟩, ⟨⟨trivial, ⟨trivial, ⟨trivial, trivial⟩⟩⟩, ⟨SubB.refl _, ⟨⟨trivial, ⟨trivial, ⟨trivial, ⟨trivial, ⟨trivial, trivial⟩⟩⟩⟩⟩, ⟨SubB.refl _, ⟨⟨trivial, ⟨trivial, ⟨trivial, ⟨trivial, ⟨trivial, trivial⟩⟩⟩⟩⟩, ⟨SubB.refl _, ⟨trivial, ⟨SubB.refl _, ⟨trivial, ⟨SubB.refl _, trivial⟩⟩⟩⟩⟩⟩⟩⟩⟩⟩⟩, h140⟩⟩⟩⟩⟩⟩⟩⟩) (k139 x140))⟩) k125)⟩⟩⟩⟩⟩⟩⟩⟩⟩⟩⟩⟩⟩⟩) k123)⟩⟩) k118)⟩⟩⟩⟩⟩) k105)⟩⟩⟩⟩⟩⟩⟩⟩⟩⟩⟩⟩⟩) h104)⟩)⟩) (k101 x102))⟩) h96)⟩⟩⟩⟩) (k95 x96))⟩) h87)⟩⟩⟩⟩⟩⟩⟩) (h86 x87)), (fun x87 => (fun h87 => ⟨rfl, ⟨rfl, ⟨rfl, ⟨rfl, ⟨rfl, ⟨trivial, ⟨trivial, ⟨rfl, ⟨trivial, ⟨⟨rfl, trivial⟩, ⟨trivial, ⟨trivial, (And.elim (fun h100 k100 => ⟨(fun x101 => (fun h101 => ⟨trivial, ⟨⟨rfl, trivial⟩, ⟨trivial, ⟨⟨rfl, trivial⟩, ⟨trivial, ⟨trivial, ⟨⟨rfl, trivial⟩, ⟨trivial, ⟨⟨rfl, trivial⟩, ⟨trivial, (And.elim (fun h112 k112 => ⟨(fun x113 => (fun h113 => ⟨trivial, ⟨⟨rfl, trivial⟩, ⟨⟨⟨trivial, ⟨Sub.refl _, ⟨trivial, ⟨Sub.refl _, trivial⟩⟩⟩⟩, ⟨⟨trivial, ⟨trivial, ⟨trivial, ⟨trivial, ⟨trivial, trivial⟩⟩⟩⟩⟩, ⟨SubB.refl _, ⟨⟨trivial, ⟨trivial, ⟨trivial, ⟨trivial, ⟨trivial, trivial⟩⟩⟩⟩⟩, ⟨SubB.refl _, trivial⟩⟩⟩⟩⟩, h113⟩⟩⟩) (h112 x113)), (fun x113 => (fun h113 => ⟨⟨⟨trivial, ⟨Sub.refl _, ⟨trivial, ⟨Sub.refl _, trivial⟩⟩⟩⟩, ⟨⟨trivial, ⟨trivial, ⟨trivial, ⟨trivial, ⟨trivial, trivial⟩⟩⟩⟩⟩, ⟨SubB.refl _, ⟨⟨trivial, ⟨trivial, ⟨trivial, ⟨trivial, ⟨trivial, trivial⟩⟩⟩⟩⟩, ⟨SubB.refl _, trivial⟩⟩⟩⟩⟩, h113⟩) (k112 x113))⟩) h101)⟩⟩⟩⟩⟩⟩⟩⟩⟩⟩) (h100 x101)), (fun x101 => (fun h101 => ⟨⟨rfl, trivial⟩, (Exists.elim h101 fun x103 h103 => ⟨x103, (And.elim (fun h104 k104 => ⟨⟨⟨⟨trivial, ⟨trivial, ⟨trivial, ⟨trivial, ⟨trivial, trivial⟩⟩⟩⟩⟩, trivial⟩, ⟨trivial, h104⟩⟩, ⟨trivial, ⟨trivial, ⟨trivial, ⟨trivial, ⟨trivial, ⟨trivial, ⟨trivial, ⟨⟨rfl, trivial⟩, ⟨trivial, ⟨⟨rfl, trivial⟩, ⟨trivial, ⟨⟨⟨⟨trivial, ⟨trivial, ⟨trivial, trivial⟩⟩⟩, trivial⟩, trivial⟩, (And.elim (fun h117 k117 => ⟨(And.elim (fun h118 k118 => ⟨h118, (And.elim (fun h119 k119 => ⟨((fun h120 => ⟨h120, rfl⟩) h119), (And.elim (fun h120 k120 => ⟨h120, k120⟩) k119)⟩) k118)⟩) h117), ⟨trivial, ⟨trivial, ⟨trivial, ⟨⟨rfl, trivial⟩, (And.elim (fun h122 k122 => ⟨(And.elim (fun h123 k123 => ⟨h123, k123⟩) h122), ⟨trivial, (And.elim (fun h124 k124 => ⟨⟨rfl, ((fun h126 => ⟨((fun h127 => ⟨h127, trivial⟩) h126), trivial⟩) h124)⟩, ⟨trivial, ⟨trivial, ⟨⟨rfl, trivial⟩, ⟨trivial, ⟨⟨rfl, trivial⟩, ⟨trivial, ⟨⟨rfl, trivial⟩, ⟨trivial, ⟨⟨rfl, trivial⟩, ⟨trivial, ⟨⟨rfl, trivial⟩, ⟨trivial, ⟨trivial, (And.elim (fun h138 k138 => ⟨(fun x139 => (fun h139 => ⟨trivial, ⟨rfl, ⟨⟨rfl, trivial⟩, ⟨rfl, ⟨trivial, ⟨trivial, (And.elim (fun h146 k146 => ⟨(fun x147 => (fun h147 => ⟨trivial, ⟨⟨rfl, trivial⟩, ⟨trivial, ⟨trivial, ⟨⟨rfl, trivial⟩, ⟨⟨⟨trivial, ⟨Sub.refl _, ⟨trivial, ⟨Sub.refl _, ⟨trivial, ⟨Sub.refl _, ⟨trivial, ⟨Sub.refl _, trivial⟩⟩⟩⟩⟩⟩⟩⟩, ⟨⟨trivial, ⟨trivial, ⟨trivial, trivial⟩⟩⟩, ⟨SubB.refl _, ⟨⟨trivial, ⟨trivial, ⟨trivial, ⟨trivial, ⟨trivial, trivial⟩⟩⟩⟩⟩, ⟨SubB.refl _, ⟨⟨trivial, ⟨trivial, ⟨trivial, ⟨trivial, ⟨trivial, trivial⟩⟩⟩⟩⟩, ⟨SubB.refl _, ⟨trivial, ⟨SubB.refl _, ⟨trivial, ⟨SubB.refl _, trivial⟩⟩⟩⟩⟩⟩⟩⟩⟩⟩⟩, h147⟩⟩⟩⟩⟩⟩) (h146 x147)), (fun x147 => (fun h147 => ⟨⟨⟨trivial, ⟨Sub.refl _, ⟨trivial, ⟨Sub.refl _, ⟨trivial, ⟨Sub.refl _, ⟨trivial, ⟨Sub.refl _, trivial⟩⟩⟩⟩⟩⟩⟩⟩, ⟨⟨trivial, ⟨trivial, ⟨trivial, trivial⟩⟩⟩, ⟨SubB.refl _, ⟨⟨trivial, ⟨trivial, ⟨trivial, ⟨trivial, ⟨trivial, trivial⟩⟩⟩⟩⟩, ⟨SubB.refl _, ⟨⟨trivial, ⟨trivial, ⟨trivial, ⟨trivial, ⟨trivial, trivial⟩⟩⟩⟩⟩, ⟨SubB.refl _, ⟨trivial, ⟨SubB.refl _, ⟨trivial, ⟨SubB.refl _, trivial⟩⟩⟩⟩⟩⟩⟩⟩⟩⟩⟩, h147⟩) (k146 x147))⟩) h139)⟩⟩⟩⟩⟩⟩) (h138 x139)), (fun x139 => (fun h139 => ⟨rfl, ⟨rfl, ⟨rfl, ⟨rfl, ⟨rfl, ⟨trivial, ⟨rfl, ⟨⟨⟨trivial, ⟨Sub.refl _, ⟨trivial, ⟨Sub.refl _, ⟨trivial, ⟨Sub.refl _, ⟨trivial, ⟨Sub.refl _, trivial⟩⟩⟩⟩⟩⟩⟩⟩, ⟨⟨trivial, ⟨trivial, ⟨trivial, trivial⟩⟩⟩, ⟨SubB.refl _, ⟨⟨trivial, ⟨trivial, ⟨trivial, ⟨trivial, ⟨trivial, trivial⟩⟩⟩⟩⟩, ⟨SubB.refl _, ⟨⟨trivial, ⟨trivial, ⟨trivial, ⟨trivial, ⟨trivial, trivial⟩⟩⟩⟩⟩, ⟨SubB.refl _, ⟨trivial, ⟨SubB.refl _, ⟨trivial, ⟨SubB.refl _, trivial⟩⟩⟩⟩⟩⟩⟩⟩⟩⟩⟩, h139⟩⟩⟩⟩⟩⟩⟩⟩) (k138 x139))⟩) k124)⟩⟩⟩⟩⟩⟩⟩⟩⟩⟩⟩⟩⟩⟩) k122)⟩⟩) k117)⟩⟩⟩⟩⟩) k104)⟩⟩⟩⟩⟩⟩⟩⟩⟩⟩⟩⟩⟩) h103)⟩)⟩) (k100 x101))⟩) h87)⟩⟩⟩⟩⟩⟩⟩⟩⟩⟩⟩⟩) (k86 x87))⟩) h78)⟩⟩⟩⟩⟩⟩⟩) (h77 x78)), (fun x78 => (fun h78 => ⟨rfl, ⟨rfl, ⟨rfl, ⟨rfl, ⟨rfl, ⟨trivial, ⟨trivial, ⟨rfl, ⟨rfl, ⟨rfl, ⟨rfl, ⟨rfl, ⟨rfl, ⟨trivial, ⟨trivial, ⟨rfl, ⟨trivial, ⟨⟨rfl, trivial⟩, ⟨trivial, ⟨trivial, (And.elim (fun h99 k99 => ⟨(fun x100 => (fun h100 => ⟨trivial, ⟨⟨rfl, trivial⟩, ⟨trivial, ⟨⟨rfl, trivial⟩, ⟨trivial, ⟨trivial, ⟨⟨rfl, trivial⟩, ⟨trivial, ⟨⟨rfl, trivial⟩, ⟨trivial, (And.elim (fun h111 k111 => ⟨(fun x112 => (fun h112 => ⟨trivial, ⟨⟨rfl, trivial⟩, ⟨⟨⟨trivial, ⟨Sub.refl _, ⟨trivial, ⟨Sub.refl _, trivial⟩⟩⟩⟩, ⟨⟨trivial, ⟨trivial, ⟨trivial, ⟨trivial, ⟨trivial, trivial⟩⟩⟩⟩⟩, ⟨SubB.refl _, ⟨⟨trivial, ⟨trivial, ⟨trivial, ⟨trivial, ⟨trivial, trivial⟩⟩⟩⟩⟩, ⟨SubB.refl _, trivial⟩⟩⟩⟩⟩, h112⟩⟩⟩) (h111 x112)), (fun x112 => (fun h112 => ⟨⟨⟨trivial, ⟨Sub.refl _, ⟨trivial, ⟨Sub.refl _, trivial⟩⟩⟩⟩, ⟨⟨trivial, ⟨trivial, ⟨trivial, ⟨trivial, ⟨trivial, trivial⟩⟩⟩⟩⟩, ⟨SubB.refl _, ⟨⟨trivial, ⟨trivial, ⟨trivial, ⟨trivial, ⟨trivial, trivial⟩⟩⟩⟩⟩, ⟨SubB.refl _, trivial⟩⟩⟩⟩⟩, h112⟩) (k111 x112))⟩) h100)⟩⟩⟩⟩⟩⟩⟩⟩⟩⟩) (h99 x100)), (fun x100 => (fun h100 => ⟨⟨rfl, trivial⟩, (Exists.elim h100 fun x102 h102 => ⟨x102, (And.elim (fun h103 k103 => ⟨⟨⟨⟨trivial, ⟨trivial, ⟨trivial, ⟨trivial, ⟨trivial, trivial⟩⟩⟩⟩⟩, trivial⟩, ⟨trivial, h103⟩⟩, ⟨trivial, ⟨trivial, ⟨trivial, ⟨trivial, ⟨trivial, ⟨trivial, ⟨trivial, ⟨⟨rfl, trivial⟩, ⟨trivial, ⟨⟨rfl, trivial⟩, ⟨trivial, ⟨⟨⟨⟨trivial, ⟨trivial, ⟨trivial, trivial⟩⟩⟩, trivial⟩, trivial⟩, (And.elim (fun h116 k116 => ⟨(And.elim (fun h117 k117 => ⟨h117, (And.elim (fun h118 k118 => ⟨((fun h119 => ⟨h119, rfl⟩) h118), (And.elim (fun h119 k119 => ⟨h119, k119⟩) k118)⟩) k117)⟩) h116), ⟨trivial, ⟨trivial, ⟨trivial, ⟨⟨rfl, trivial⟩, (And.elim (fun h121 k121 => ⟨(And.elim (fun h122 k122 => ⟨h122, k122⟩) h121), ⟨trivial, (And.elim (fun h123 k123 => ⟨⟨rfl, ((fun h125 => ⟨((fun h126 => ⟨h126, trivial⟩) h125), trivial⟩) h123)⟩, ⟨trivial, ⟨trivial, ⟨⟨rfl, trivial⟩, ⟨trivial, ⟨⟨rfl, trivial⟩, ⟨trivial, ⟨⟨rfl, trivial⟩, ⟨trivial, ⟨⟨rfl, trivial⟩, ⟨trivial, ⟨⟨rfl, trivial⟩, ⟨trivial, ⟨trivial, (And.elim (fun h137 k137 => ⟨(fun x138 => (fun h138 => ⟨trivial, ⟨rfl, ⟨⟨rfl, trivial⟩, ⟨rfl, ⟨trivial, ⟨trivial, (And.elim (fun h145 k145 => ⟨(fun x146 => (fun h146 => ⟨trivial, ⟨⟨rfl, trivial⟩, ⟨trivial, ⟨trivial, ⟨⟨rfl, trivial⟩, ⟨⟨⟨trivial, ⟨Sub.refl _, ⟨trivial, ⟨Sub.refl _, ⟨trivial, ⟨Sub.refl _, ⟨trivial, ⟨Sub.refl _, trivial⟩⟩⟩⟩⟩⟩⟩⟩, ⟨⟨trivial, ⟨trivial, ⟨trivial, trivial⟩⟩⟩, ⟨SubB.refl _, ⟨⟨trivial, ⟨trivial, ⟨trivial, ⟨trivial, ⟨trivial, trivial⟩⟩⟩⟩⟩, ⟨SubB.refl _, ⟨⟨trivial, ⟨trivial, ⟨trivial, ⟨trivial, ⟨trivial, trivial⟩⟩⟩⟩⟩, ⟨SubB.refl _, ⟨trivial, ⟨SubB.refl _, ⟨trivial, ⟨SubB.refl _, trivial⟩⟩⟩⟩⟩⟩⟩⟩⟩⟩⟩, h146⟩⟩⟩⟩⟩⟩) (h145 x146)), (fun x146 => (fun h146 => ⟨⟨⟨trivial, ⟨Sub.refl _, ⟨trivial, ⟨Sub.refl _, ⟨trivial, ⟨Sub.refl _, ⟨trivial, ⟨Sub.refl _, trivial⟩⟩⟩⟩⟩⟩⟩⟩, ⟨⟨trivial, ⟨trivial, ⟨trivial, trivial⟩⟩⟩, ⟨SubB.refl _, ⟨⟨trivial, ⟨trivial, ⟨trivial, ⟨trivial, ⟨trivial, trivial⟩⟩⟩⟩⟩, ⟨SubB.refl _, ⟨⟨trivial, ⟨trivial, ⟨trivial, ⟨trivial, ⟨trivial, trivial⟩⟩⟩⟩⟩, ⟨SubB.refl _, ⟨trivial, ⟨SubB.refl _, ⟨trivial, ⟨SubB.refl _, trivial⟩⟩⟩⟩⟩⟩⟩⟩⟩⟩⟩, h146⟩) (k145 x146))⟩) h138)⟩⟩⟩⟩⟩⟩) (h137 x138)), (fun x138 => (fun h138 => ⟨rfl, ⟨rfl, ⟨rfl, ⟨rfl, ⟨rfl, ⟨trivial, ⟨rfl, ⟨⟨⟨trivial, ⟨Sub.refl _, ⟨trivial, ⟨Sub.refl _, ⟨trivial, ⟨Sub.refl _, ⟨trivial, ⟨Sub.refl _, trivial⟩⟩⟩⟩⟩⟩⟩⟩, ⟨⟨trivial, ⟨trivial, ⟨trivial, trivial⟩⟩⟩, ⟨SubB.refl _, ⟨⟨trivial, ⟨trivial, ⟨trivial, ⟨trivial, ⟨trivial, trivial⟩⟩⟩⟩⟩, ⟨SubB.refl _, ⟨⟨trivial, ⟨trivial, ⟨trivial, ⟨trivial, ⟨trivial, trivial⟩⟩⟩⟩⟩, ⟨SubB.refl _, ⟨trivial, ⟨SubB.refl _, ⟨trivial, ⟨SubB.refl _, trivial⟩⟩⟩⟩⟩⟩⟩⟩⟩⟩⟩, h138⟩⟩⟩⟩⟩⟩⟩⟩) (k137 x138))⟩) k123)⟩⟩⟩⟩⟩⟩⟩⟩⟩⟩⟩⟩⟩⟩) k121)⟩⟩) k116)⟩⟩⟩⟩⟩) k103)⟩⟩⟩⟩⟩⟩⟩⟩⟩⟩⟩⟩⟩) h102)⟩)⟩) (k99 x100))⟩) h78)⟩⟩⟩⟩⟩⟩⟩⟩⟩⟩⟩⟩⟩⟩⟩⟩⟩⟩⟩⟩) (k77 x78))⟩) h72)⟩⟩⟩⟩) (k71 x72))⟩) h63)⟩⟩⟩⟩⟩⟩⟩) (h62 x63)), (fun x63 => (fun h63 => ⟨rfl, ⟨rfl, ⟨rfl, ⟨rfl, ⟨rfl, ⟨trivial, ⟨trivial, ⟨rfl, ⟨trivial, ⟨⟨rfl, trivial⟩, ⟨trivial, ⟨⟨rfl, trivial⟩, ⟨trivial, ⟨trivial, ⟨⟨rfl, trivial⟩, ⟨⟨rfl, trivial⟩, ⟨⟨rfl, trivial⟩, ⟨trivial, ⟨⟨⟨rfl, trivial⟩, ⟨trivial, trivial⟩⟩, ⟨⟨⟨⟨⟨trivial, ⟨trivial, ⟨trivial, ⟨trivial, ⟨trivial, trivial⟩⟩⟩⟩⟩, ⟨trivial, trivial⟩⟩, ⟨Sub.refl _, trivial⟩⟩, trivial⟩, ((fun h84 => ⟨h84, trivial⟩) h63)⟩⟩⟩⟩⟩⟩⟩⟩⟩⟩⟩⟩⟩⟩⟩⟩⟩⟩⟩⟩) (k62 x63))⟩) h57)⟩⟩⟩⟩) (k56 x57))⟩) k49)⟩⟩⟩⟩⟩⟩⟩) h48)⟩)⟩) (k45 x46))⟩) h32)⟩⟩⟩⟩⟩⟩⟩⟩⟩⟩⟩⟩) (h31 x32)), (fun x32 => (fun h32 => ⟨rfl, ⟨rfl, ⟨rfl, ⟨rfl, ⟨rfl, ⟨rfl, ⟨rfl, ⟨rfl, ⟨rfl, ⟨rfl, ⟨rfl, ⟨trivial, ⟨rfl, ⟨trivial, ⟨⟨rfl, trivial⟩, ⟨trivial, ⟨⟨⟨rfl, trivial⟩, ⟨trivial, trivial⟩⟩, ⟨⟨⟨⟨⟨trivial, ⟨trivial, ⟨trivial, ⟨trivial, ⟨trivial, trivial⟩⟩⟩⟩⟩, ⟨trivial, trivial⟩⟩, ⟨Sub.refl _, trivial⟩⟩, trivial⟩, ((fun h51 => ⟨h51, trivial⟩) h32)⟩⟩⟩⟩⟩⟩⟩⟩⟩⟩⟩⟩⟩⟩⟩⟩⟩⟩) (k31 x32))⟩) h19)⟩⟩⟩⟩⟩⟩⟩⟩⟩⟩⟩) (h18 x19)), (fun x19 => (fun h19 => ⟨rfl, ⟨rfl, ⟨rfl, ⟨rfl, ⟨rfl, ⟨rfl, ⟨rfl, ⟨rfl, ⟨rfl, ⟨trivial, ⟨trivial, ⟨rfl, ⟨rfl, ⟨rfl, ⟨rfl, ⟨rfl, ⟨rfl, ⟨rfl, ⟨rfl, ⟨rfl, ⟨rfl, ⟨rfl, ⟨rfl, ⟨trivial, ⟨rfl, ⟨trivial, ⟨⟨rfl, trivial⟩, ⟨trivial, ⟨⟨⟨rfl, trivial⟩, ⟨trivial, trivial⟩⟩, ⟨⟨⟨⟨⟨trivial, ⟨trivial, ⟨trivial, ⟨trivial, ⟨trivial, trivial⟩⟩⟩⟩⟩, ⟨trivial, trivial⟩⟩, ⟨Sub.refl _, trivial⟩⟩, trivial⟩, ((fun h50 => ⟨h50, trivial⟩) h19)⟩⟩⟩⟩⟩⟩⟩⟩⟩⟩⟩⟩⟩⟩⟩⟩⟩⟩⟩⟩⟩⟩⟩⟩⟩⟩⟩⟩⟩⟩) (k18 x19))⟩) h10)⟩⟩⟩⟩⟩⟩⟩) (h9 x10)), (fun x10 => (fun h10 => ⟨rfl, ⟨rfl, ⟨rfl, ⟨rfl, ⟨rfl, ⟨trivial, ⟨trivial, ⟨rfl, ⟨rfl, ⟨rfl, ⟨rfl, ⟨rfl, ⟨rfl, ⟨rfl, ⟨rfl, ⟨rfl, ⟨rfl, ⟨trivial, ⟨trivial, ⟨rfl, ⟨rfl, ⟨rfl, ⟨rfl, ⟨rfl, ⟨rfl, ⟨rfl, ⟨rfl, ⟨rfl, ⟨rfl, ⟨rfl, ⟨rfl, ⟨trivial, ⟨rfl, ⟨trivial, ⟨⟨rfl, trivial⟩, ⟨trivial, ⟨⟨⟨rfl, trivial⟩, ⟨trivial, trivial⟩⟩, ⟨⟨⟨⟨⟨trivial, ⟨trivial, ⟨trivial, ⟨trivial, ⟨trivial, trivial⟩⟩⟩⟩⟩, ⟨trivial, trivial⟩⟩, ⟨Sub.refl _, trivial⟩⟩, trivial⟩, ((fun h49 => ⟨h49, trivial⟩) h10)⟩⟩⟩⟩⟩⟩⟩⟩⟩⟩⟩⟩⟩⟩⟩⟩⟩⟩⟩⟩⟩⟩⟩⟩⟩⟩⟩⟩⟩⟩⟩⟩⟩⟩⟩⟩⟩⟩) (k9 x10))⟩) k6)⟩⟩⟩) h5)⟩)⟩⟩⟩⟩⟩)
theorem r48_0 (b0ba b0bba : Int) (b0bbba : Bool) (b0bbbba : Int) (b1an : Nat) (b1af : Nat → Int) (b1ba b1bba : Int) (b1bbba : Bool) (b1bbbba : Int) (res : AV)
 (h : Sub
 (AV.cons 1
 (.cons 1 (.vec false 1 b1an b1an fun (i0 : Nat) => .sc (.int .i64 (b1af i0)))
 (.cons 1 (.sc (.int .i64 b1ba))
 (.cons 1 (.sc (.int .i64 b1bba))
 (.cons 1 (.sc (.bool b1bbba)) (.cons 1 (.sc (.int .i64 b1bbbba)) .nil)))))
 (.cons 1 (.sc (.slice none (0 : Nat) (0 : Nat))) .nil)).tup
 res) :
 L48_0 b0ba b0bba b0bbba b0bbbba b1an b1af b1ba b1bba b1bbba b1bbbba res :=
 rule Go.Am.Seat.tabOk 48 [] Go.Proofs.Try.f48 hf48 [1, 1, 1, 0, 0, 1, 0, 1, 1] (s48_0 b0ba b0bba b0bbba b0bbbba b1an b1af b1ba b1bba b1bbba b1bbbba) (m48_0 b0ba b0bba b0bbba b0bbbba b1an b1af b1ba b1bba b1bbba b1bbbba) res [] 400
 (Orc.fin
 (AV.cons 1
 (.cons 1 (.vec false 1 b1an b1an fun (i0 : Nat) => .sc (.int .i64 (b1af i0)))
 (.cons 1 (.sc (.int .i64 b1ba))
 (.cons 1 (.sc (.int .i64 b1bba))
 (.cons 1 (.sc (.bool b1bbba)) (.cons 1 (.sc (.int .i64 b1bbbba)) .nil)))))
 (.cons 1 (.sc (.slice none (0 : Nat) (0 : Nat))) .nil)).tup
 [] []) _ _ (by kernel_rfl) (by kernel_rfl) (show ((0 : Nat) = (0 : Nat) ∧ True) ∧
 ((0 : Nat) = (0 : Nat) ∧ True) ∧
 True ∧
 (((0 : Nat) = (0 : Nat) ∧ True) ∧ True ∧ True) ∧
 ((((True ∧ True ∧ True ∧ True ∧ True ∧ True) ∧ True ∧ True) ∧
 Sub
 (AV.cons 1
 (.cons 1 (.vec false 1 b1an b1an fun (i0 : Nat) => .sc (.int .i64 (b1af i0)))
 (.cons 1 (.sc (.int .i64 b1ba))
 (.cons 1 (.sc (.int .i64 b1bba))
 (.cons 1 (.sc (.bool b1bbba)) (.cons 1 (.sc (.int .i64 b1bbbba)) .nil)))))
 (.cons 1 (.sc (.slice none (0 : Nat) (0 : Nat))) .nil)).tup
 (AV.cons 1
 (.cons 1 (.vec false 1 b1an b1an fun (i0 : Nat) => .sc (.int .i64 (b1af i0)))
 (.cons 1 (.sc (.int .i64 b1ba))
 (.cons 1 (.sc (.int .i64 b1bba))
 (.cons 1 (.sc (.bool b1bbba)) (.cons 1 (.sc (.int .i64 b1bbbba)) .nil)))))
 (.cons 1 (.sc (.slice none (0 : Nat) (0 : Nat))) .nil)).tup ∧
 True) ∧
 True) ∧
 Sub
 (AV.cons 1
 (.cons 1 (.vec false 1 b1an b1an fun (i0 : Nat) => .sc (.int .i64 (b1af i0)))
 (.cons 1 (.sc (.int .i64 b1ba))
 (.cons 1 (.sc (.int .i64 b1bba))
 (.cons 1 (.sc (.bool b1bbba)) (.cons 1 (.sc (.int .i64 b1bbbba)) .nil)))))
 (.cons 1 (.sc (.slice none (0 : Nat) (0 : Nat))) .nil)).tup
 res ∧
 SubOut [] [] from
 ⟨⟨rfl, trivial⟩, ⟨⟨rfl, trivial⟩, ⟨trivial, ⟨⟨⟨rfl, trivial⟩, ⟨trivial, trivial⟩⟩, ⟨⟨⟨⟨⟨trivial, ⟨trivial, ⟨trivial, ⟨trivial, ⟨trivial, trivial⟩⟩⟩⟩⟩, ⟨trivial, trivial⟩⟩, ⟨Sub.refl _, trivial⟩⟩, trivial⟩, ((fun h5 => ⟨h5, trivial⟩) h)⟩⟩⟩⟩⟩)
theorem r48_1 (b0ba b0bba : Int) (b0bbba : Bool) (b0bbbba : Int) (b1an : Nat) (b1af : Nat → Int) (b1ba b1bba : Int) (b1bbba : Bool) (b1bbbba : Int) (res : AV)
 (h : Sub
 (AV.cons 1
 (.cons 1 (.vec false 1 b1an b1an fun (i0 : Nat) => .sc (.int .i64 (b1af i0)))
 (.cons 1 (.sc (.int .i64 b1ba))
 (.cons 1 (.sc (.int .i64 b1bba))
 (.cons 1 (.sc (.bool b1bbba)) (.cons 1 (.sc (.int .i64 b1bbbba)) .nil)))))
 (.cons 1 (.sc (.slice none (0 : Nat) (0 : Nat))) .nil)).tup
 res) :
 L48_1 b0ba b0bba b0bbba b0bbbba b1an b1af b1ba b1bba b1bbba b1bbbba res :=
 rule Go.Am.Seat.tabOk 48 [] Go.Proofs.Try.f48 hf48 [1, 1, 1, 0, 0, 1, 1, 1, 1, 1, 1, 1, 0, 1, 1] (s48_1 b0ba b0bba b0bbba b0bbbba b1an b1af b1ba b1bba b1bbba b1bbbba) (m48_1 b0ba b0bba b0bbba b0bbbba b1an b1af b1ba b1bba b1bbba b1bbbba) res [] 400
 (Orc.fin
 (AV.cons 1
 (.cons 1 (.vec false 1 b1an b1an fun (i0 : Nat) => .sc (.int .i64 (b1af i0)))
 (.cons 1 (.sc (.int .i64 b1ba))
 (.cons 1 (.sc (.int .i64 b1bba))
 (.cons 1 (.sc (.bool b1bbba)) (.cons 1 (.sc (.int .i64 b1bbbba)) .nil)))))
 (.cons 1 (.sc (.slice none (0 : Nat) (0 : Nat))) .nil)).tup
 [] []) _ _ (by kernel_rfl) (by kernel_rfl) (show ((0 : Nat) = (0 : Nat) ∧ True) ∧
 ((0 : Nat) = (0 : Nat) ∧ True) ∧
 True ∧
 (((0 : Nat) = (0 : Nat) ∧ True) ∧ True ∧ True) ∧
 ((((True ∧ True ∧ True ∧ True ∧ True ∧ True) ∧ True ∧ True) ∧
 Sub
 (AV.cons 1
 (.cons 1 (.vec false 1 b1an b1an fun (i0 : Nat) => .sc (.int .i64 (b1af i0)))
 (.cons 1 (.sc (.int .i64 b1ba))
 (.cons 1 (.sc (.int .i64 b1bba))
 (.cons 1 (.sc (.bool b1bbba)) (.cons 1 (.sc (.int .i64 b1bbbba)) .nil)))))
 (.cons 1 (.sc (.slice none (0 : Nat) (0 : Nat))) .nil)).tup
 (AV.cons 1
 (.cons 1 (.vec false 1 b1an b1an fun (i0 : Nat) => .sc (.int .i64 (b1af i0)))
 (.cons 1 (.sc (.int .i64 b1ba))
 (.cons 1 (.sc (.int .i64 b1bba))
 (.cons 1 (.sc (.bool b1bbba)) (.cons 1 (.sc (.int .i64 b1bbbba)) .nil)))))
 (.cons 1 (.sc (.slice none (0 : Nat) (0 : Nat))) .nil)).tup ∧
 True) ∧
 True) ∧
 Sub
 (AV.cons 1
 (.cons 1 (.vec false 1 b1an b1an fun (i0 : Nat) => .sc (.int .i64 (b1af i0)))
 (.cons 1 (.sc (.int .i64 b1ba))
 (.cons 1 (.sc (.int .i64 b1bba))
 (.cons 1 (.sc (.bool b1bbba)) (.cons 1 (.sc (.int .i64 b1bbbba)) .nil)))))
 (.cons 1 (.sc (.slice none (0 : Nat) (0 : Nat))) .nil)).tup
 res ∧
 SubOut [] [] from
 ⟨⟨rfl, trivial⟩, ⟨⟨rfl, trivial⟩, ⟨trivial, ⟨⟨⟨rfl, trivial⟩, ⟨trivial, trivial⟩⟩, ⟨⟨⟨⟨⟨trivial, ⟨trivial, ⟨trivial, ⟨trivial, ⟨trivial, trivial⟩⟩⟩⟩⟩, ⟨trivial, trivial⟩⟩, ⟨Sub.refl _, trivial⟩⟩, trivial⟩, ((fun h5 => ⟨h5, trivial⟩) h)⟩⟩⟩⟩⟩)
theorem r48_2 (t10n : Nat) (b0a b0ba b0bba b1ba b1bba : Int) (b1bbba : Bool) (b1bbbba : Int) (b2an : Nat) (b2ba b2bba : Int) (b2bbba : Bool) (b2bbbba : Int) (b3n : Nat) (b3fa b3fba b3fbba : Nat → Int) (b4n : Nat) (b4f : Nat → Int) (res : AV)
 (h : ((b0a == (10 : Int)) = true →
 (decide (b2ba > (0 : Int)) = true →
 L48_3 t10n b1ba b1bba b1bbba b1bbbba b2an (IntKind.i64.wrap (b2ba - (1 : Int))) b2bba b2bbba b2bbbba b3n b3fa b3fba b3fbba b4n b4f res) ∧
 (decide (b2ba > (0 : Int)) = false → L48_3 t10n b1ba b1bba b1bbba b1bbbba b2an b2ba b2bba b2bbba b2bbbba b3n b3fa b3fba b3fbba b4n b4f res)) ∧
 ((b0a == (10 : Int)) = !true → L48_3 t10n b1ba b1bba b1bbba b1bbbba b2an b2ba b2bba b2bbba b2bbbba b3n b3fa b3fba b3fbba b4n b4f res)) :
 L48_2 t10n b0a b0ba b0bba b1ba b1bba b1bbba b1bbbba b2an b2ba b2bba b2bbba b2bbbba b3n b3fa b3fba b3fbba b4n b4f res :=
 rule Go.Am.Seat.tabOk 48 [] Go.Proofs.Try.f48 hf48 [1, 1, 1, 1, 1, 1, 1, 1, 1, 1, 1, 1] (s48_2 t10n b0a b0ba b0bba b1ba b1bba b1bbba b1bbbba b2an b2ba b2bba b2bbba b2bbbba b3n b3fa b3fba b3fbba b4n b4f) (m48_2 t10n b0a b0ba b0bba b1ba b1bba b1bbba b1bbbba b2an b2ba b2bba b2bbba b2bbbba b3n b3fa b3fba b3fbba b4n b4f) res [] 400
 (((Orc.cut (nat_lit 1) (s48_3 t10n b1ba b1bba b1bbba b1bbbba b2an (IntKind.i64.wrap (b2ba - (1 : Int))) b2bba b2bbba b2bbbba b3n b3fa b3fba b3fbba b4n b4f)
 (m48_3 t10n b1ba b1bba b1bbba b1bbbba b2an (IntKind.i64.wrap (b2ba - (1 : Int))) b2bba b2bbba b2bbbba b3n b3fa b3fba b3fbba b4n b4f)
 [((1000 : Nat), some (1001 : Nat)), ((1001 : Nat), some (1002 : Nat)), ((1002 : Nat), some (1003 : Nat)), ((1003 : Nat), some (1004 : Nat))]).br
 (Orc.cut (nat_lit 1) (s48_3 t10n b1ba b1bba b1bbba b1bbbba b2an b2ba b2bba b2bbba b2bbbba b3n b3fa b3fba b3fbba b4n b4f)
 (m48_3 t10n b1ba b1bba b1bbba b1bbbba b2an b2ba b2bba b2bbba b2bbbba b3n b3fa b3fba b3fbba b4n b4f)
 [((1000 : Nat), some (1001 : Nat)), ((1001 : Nat), some (1002 : Nat)), ((1002 : Nat), some (1003 : Nat)),
 ((1003 : Nat), some (1004 : Nat))])).yes.yes.br
 (Orc.cut (nat_lit 1) (s48_3 t10n b1ba b1bba b1bbba b1bbbba b2an b2ba b2bba b2bbba b2bbbba b3n b3fa b3fba b3fbba b4n b4f)
 (m48_3 t10n b1ba b1bba b1bbba b1bbbba b2an b2ba b2bba b2bbba b2bbbba b3n b3fa b3fba b3fbba b4n b4f)
 [((1000 : Nat), some (1001 : Nat)), ((1001 : Nat), some (1002 : Nat)), ((1002 : Nat), some (1003 : Nat)), ((1003 : Nat), some (1004 : Nat))]).no.no.no) _ _ (by kernel_rfl) (by kernel_rfl) (show True ∧
 ((0 : Nat) = plus (0 : Nat) (0 : Nat) ∧ True) ∧
 True ∧
 True ∧
 ((b0a == (10 : Int)) = true →
 True ∧
 true = true ∧
 ((1 : Nat) + (0 : Nat) = plus (0 : Nat) (1 : Nat) ∧ True) ∧
 true = true ∧
 True ∧
 True ∧
 (decide (b2ba > (0 : Int)) = true →
 True ∧
 ((1 : Nat) + (0 : Nat) = plus (0 : Nat) (1 : Nat) ∧ True) ∧
 True ∧
 True ∧
 ((1 : Nat) + (0 : Nat) = plus (0 : Nat) (1 : Nat) ∧ True) ∧
 ((True ∧
 Sub (.pt 1000 [] (0 : Nat)) (.pt 1000 [] (0 : Nat)) ∧
 True ∧
 Sub (.pt 1001 [] (0 : Nat)) (.pt 1001 [] (0 : Nat)) ∧
 True ∧
 Sub (.rf 1002 3 0 t10n) (.rf 1002 3 0 t10n) ∧ True) ∧
 (True ∧ True ∧ True ∧ True ∧ True ∧ True) ∧
 SubB
 (.cons 1 (.sc (.slice none (0 : Nat) (0 : Nat)))
 (.cons 1 (.sc (.int .i64 b1ba))
 (.cons 1 (.sc (.int .i64 b1bba))
 (.cons 1 (.sc (.bool b1bbba))
 (.cons 1 (.sc (.int .i64 b1bbbba)) .nil)))))
 (.cons 1 (.sc (.slice none (0 : Nat) (0 : Nat)))
 (.cons 1 (.sc (.int .i64 b1ba))
 (.cons 1 (.sc (.int .i64 b1bba))
 (.cons 1 (.sc (.bool b1bbba))
 (.cons 1 (.sc (.int .i64 b1bbbba)) .nil))))) ∧
 (True ∧ True ∧ True ∧ True ∧ True ∧ True) ∧
 SubB
 (.cons 1 (.rf 1003 1 0 b2an)
 (.cons 1 (.sc (.int .i64 (IntKind.i64.wrap (b2ba - (1 : Int)))))
 (.cons 1 (.sc (.int .i64 b2bba))
 (.cons 1 (.sc (.bool b2bbba))
 (.cons 1 (.sc (.int .i64 b2bbbba)) .nil)))))
 (.cons 1 (.rf 1003 1 0 b2an)
 (.cons 1 (.sc (.int .i64 (IntKind.i64.wrap (b2ba - (1 : Int)))))
 (.cons 1 (.sc (.int .i64 b2bba))
 (.cons 1 (.sc (.bool b2bbba))
 (.cons 1 (.sc (.int .i64 b2bbbba)) .nil))))) ∧
 True ∧
 SubB
 (.ar b3n (3 : Nat) fun (i0 : Nat) =>
 .cons 1 (.sc (.int .i64 (b3fa i0)))
 (.cons 1 (.sc (.int .i64 (b3fba i0)))
 (.cons 1 (.sc (.int .i64 (b3fbba i0))) .nil)))
 (.ar b3n (3 : Nat) fun (i0 : Nat) =>
 .cons 1 (.sc (.int .i64 (b3fa i0)))
 (.cons 1 (.sc (.int .i64 (b3fba i0)))
 (.cons 1 (.sc (.int .i64 (b3fbba i0))) .nil))) ∧
 True ∧
 SubB (.ar b4n (1 : Nat) fun (i0 : Nat) => .sc (.int .i64 (b4f i0)))
 (.ar b4n (1 : Nat) fun (i0 : Nat) => .sc (.int .i64 (b4f i0))) ∧
 True) ∧
 L48_3 t10n b1ba b1bba b1bbba b1bbbba b2an (IntKind.i64.wrap (b2ba - (1 : Int))) b2bba b2bbba b2bbbba b3n b3fa b3fba
 b3fbba b4n b4f res) ∧
 (decide (b2ba > (0 : Int)) = false →
 ((True ∧
 Sub (.pt 1000 [] (0 : Nat)) (.pt 1000 [] (0 : Nat)) ∧
 True ∧
 Sub (.pt 1001 [] (0 : Nat)) (.pt 1001 [] (0 : Nat)) ∧
 True ∧ Sub (.rf 1002 3 0 t10n) (.rf 1002 3 0 t10n) ∧ True) ∧
 (True ∧ True ∧ True ∧ True ∧ True ∧ True) ∧
 SubB
 (.cons 1 (.sc (.slice none (0 : Nat) (0 : Nat)))
 (.cons 1 (.sc (.int .i64 b1ba))
 (.cons 1 (.sc (.int .i64 b1bba))
 (.cons 1 (.sc (.bool b1bbba))
 (.cons 1 (.sc (.int .i64 b1bbbba)) .nil)))))
 (.cons 1 (.sc (.slice none (0 : Nat) (0 : Nat)))
 (.cons 1 (.sc (.int .i64 b1ba))
 (.cons 1 (.sc (.int .i64 b1bba))
 (.cons 1 (.sc (.bool b1bbba))
 (.cons 1 (.sc (.int .i64 b1bbbba)) .nil))))) ∧
 (True ∧ True ∧ True ∧ True ∧ True ∧ True) ∧
 SubB
 (.cons 1 (.rf 1003 1 0 b2an)
 (.cons 1 (.sc (.int .i64 b2ba))
 (.cons 1 (.sc (.int .i64 b2bba))
 (.cons 1 (.sc (.bool b2bbba))
 (.cons 1 (.sc (.int .i64 b2bbbba)) .nil)))))
 (.cons 1 (.rf 1003 1 0 b2an)
 (.cons 1 (.sc (.int .i64 b2ba))
 (.cons 1 (.sc (.int .i64 b2bba))
 (.cons 1 (.sc (.bool b2bbba))
 (.cons 1 (.sc (.int .i64 b2bbbba)) .nil))))) ∧
 True ∧
 SubB
 (.ar b3n (3 : Nat) fun (i0 : Nat) =>
 .cons 1 (.sc (.int .i64 (b3fa i0)))
 (.cons 1 (.sc (.int .i64 (b3fba i0)))
 (.cons 1 (.sc (.int .i64 (b3fbba i0))) .nil)))
 (.ar b3n (3 : Nat) fun (i0 : Nat) =>
 .cons 1 (.sc (.int .i64 (b3fa i0)))
 (.cons 1 (.sc (.int .i64 (b3fba i0)))
 (.cons 1 (.sc (.int .i64 (b3fbba i0))) .nil))) ∧
 True ∧
 SubB (.ar b4n (1 : Nat) fun (i0 : Nat) => .sc (.int .i64 (b4f i0)))
 (.ar b4n (1 : Nat) fun (i0 : Nat) => .sc (.int .i64 (b4f i0))) ∧
 True) ∧
 L48_3 t10n b1ba b1bba b1bbba b1bbbba b2an b2ba b2bba b2bbba b2bbbba b3n b3fa b3fba b3fbba b4n b4f res)) ∧
 ((b0a == (10 : Int)) = !true →
 true = true ∧
 (!true) = !true ∧
 true = true ∧
 (!true) = !true ∧
 true = true ∧
 True ∧
 false = false ∧
 ((True ∧
 Sub (.pt 1000 [] (0 : Nat)) (.pt 1000 [] (0 : Nat)) ∧
 True ∧
 Sub (.pt 1001 [] (0 : Nat)) (.pt 1001 [] (0 : Nat)) ∧
 True ∧ Sub (.rf 1002 3 0 t10n) (.rf 1002 3 0 t10n) ∧ True) ∧
 (True ∧ True ∧ True ∧ True ∧ True ∧ True) ∧
 SubB
 (.cons 1 (.sc (.slice none (0 : Nat) (0 : Nat)))
 (.cons 1 (.sc (.int .i64 b1ba))
 (.cons 1 (.sc (.int .i64 b1bba))
 (.cons 1 (.sc (.bool b1bbba)) (.cons 1 (.sc (.int .i64 b1bbbba)) .nil)))))
 (.cons 1 (.sc (.slice none (0 : Nat) (0 : Nat)))
 (.cons 1 (.sc (.int .i64 b1ba))
 (.cons 1 (.sc (.int .i64 b1bba))
 (.cons 1 (.sc (.bool b1bbba))
 (.cons 1 (.sc (.int .i64 b1bbbba)) .nil))))) ∧
 (True ∧ True ∧ True ∧ True ∧ True ∧ True) ∧
 SubB
 (.cons 1 (.rf 1003 1 0 b2an)
 (.cons 1 (.sc (.int .i64 b2ba))
 (.cons 1 (.sc (.int .i64 b2bba))
 (.cons 1 (.sc (.bool b2bbba))
 (.cons 1 (.sc (.int .i64 b2bbbba)) .nil)))))
 (.cons 1 (.rf 1003 1 0 b2an)
 (.cons 1 (.sc (.int .i64 b2ba))
 (.cons 1 (.sc (.int .i64 b2bba))
 (.cons 1 (.sc (.bool b2bbba))
 (.cons 1 (.sc (.int .i64 b2bbbba)) .nil))))) ∧
 True ∧
 SubB
 (.ar b3n (3 : Nat) fun (i0 : Nat) =>
 .cons 1 (.sc (.int .i64 (b3fa i0)))
 (.cons 1 (.sc (.int .i64 (b3fba i0)))
 (.cons 1 (.sc (.int .i64 (b3fbba i0))) .nil)))
 (.ar b3n (3 : Nat) fun (i0 : Nat) =>
 .cons 1 (.sc (.int .i64 (b3fa i0)))
 (.cons 1 (.sc (.int .i64 (b3fba i0)))
 (.cons 1 (.sc (.int .i64 (b3fbba i0))) .nil))) ∧
 True ∧
 SubB (.ar b4n (1 : Nat) fun (i0 : Nat) => .sc (.int .i64 (b4f i0)))
 (.ar b4n (1 : Nat) fun (i0 : Nat) => .sc (.int .i64 (b4f i0))) ∧
 True) ∧
 L48_3 t10n b1ba b1bba b1bbba b1bbbba b2an b2ba b2bba b2bbba b2bbbba b3n b3fa b3fba b3fbba b4n b4f res) from
 ⟨trivial, ⟨⟨rfl, trivial⟩, ⟨trivial, ⟨trivial, (And.elim (fun h4 k4 => ⟨(fun x5 => (fun h5 => ⟨trivial, ⟨rfl, ⟨⟨rfl, trivial⟩, ⟨rfl, ⟨trivial, ⟨trivial, (And.elim (fun h12 k12 => ⟨(fun x13 => (fun h13 => ⟨trivial, ⟨⟨rfl, trivial⟩, ⟨trivial, ⟨trivial, ⟨⟨rfl, trivial⟩, ⟨⟨⟨trivial, ⟨Sub.refl _, ⟨trivial, ⟨Sub.refl _, ⟨trivial, ⟨Sub.refl _, trivial⟩⟩⟩⟩⟩⟩, ⟨⟨trivial, ⟨trivial, ⟨trivial, ⟨trivial, ⟨trivial, trivial⟩⟩⟩⟩⟩, ⟨SubB.refl _, ⟨⟨trivial, ⟨trivial, ⟨trivial, ⟨trivial, ⟨trivial, trivial⟩⟩⟩⟩⟩, ⟨SubB.refl _, ⟨trivial, ⟨SubB.refl _, ⟨trivial, ⟨SubB.refl _, trivial⟩⟩⟩⟩⟩⟩⟩⟩⟩, h13⟩⟩⟩⟩⟩⟩) (h12 x13)), (fun x13 => (fun h13 => ⟨⟨⟨trivial, ⟨Sub.refl _, ⟨trivial, ⟨Sub.refl _, ⟨trivial, ⟨Sub.refl _, trivial⟩⟩⟩⟩⟩⟩, ⟨⟨trivial, ⟨trivial, ⟨trivial, ⟨trivial, ⟨trivial, trivial⟩⟩⟩⟩⟩, ⟨SubB.refl _, ⟨⟨trivial, ⟨trivial, ⟨trivial, ⟨trivial, ⟨trivial, trivial⟩⟩⟩⟩⟩, ⟨SubB.refl _, ⟨trivial, ⟨SubB.refl _, ⟨trivial, ⟨SubB.refl _, trivial⟩⟩⟩⟩⟩⟩⟩⟩⟩, h13⟩) (k12 x13))⟩) h5)⟩⟩⟩⟩⟩⟩) (h4 x5)), (fun x5 => (fun h5 => ⟨rfl, ⟨rfl, ⟨rfl, ⟨rfl, ⟨rfl, ⟨trivial, ⟨rfl, ⟨⟨⟨trivial, ⟨Sub.refl _, ⟨trivial, ⟨Sub.refl _, ⟨trivial, ⟨Sub.refl _, trivial⟩⟩⟩⟩⟩⟩, ⟨⟨trivial, ⟨trivial, ⟨trivial, ⟨trivial, ⟨trivial, trivial⟩⟩⟩⟩⟩, ⟨SubB.refl _, ⟨⟨trivial, ⟨trivial, ⟨trivial, ⟨trivial, ⟨trivial, trivial⟩⟩⟩⟩⟩, ⟨SubB.refl _, ⟨trivial, ⟨SubB.refl _, ⟨trivial, ⟨SubB.refl _, trivial⟩⟩⟩⟩⟩⟩⟩⟩⟩, h5⟩⟩⟩⟩⟩⟩⟩⟩) (k4 x5))⟩) h)⟩⟩⟩⟩)
theorem r48_3 (t10n : Nat) (b0ba b0bba : Int) (b0bbba : Bool) (b0bbbba : Int) (b1an : Nat) (b1ba b1bba : Int) (b1bbba : Bool) (b1bbbba : Int) (b2n : Nat) (b2fa b2fba b2fbba : Nat → Int) (b3n : Nat) (b3f : Nat → Int) (res : AV)
 (h : (((0 : Nat) + b1an ≤ b3n ∧ (0 : Nat) + t10n ≤ b2n) ∧
 Sub
 (AV.cons 1
 (.cons 1 (.vec false 1 b1an (b3n - (0 : Nat)) fun (i : Nat) => .sc (.int .i64 (b3f (plus (0 : Nat) i))))
 (.cons 1 (.sc (.int .i64 b1ba))
 (.cons 1 (.sc (.int .i64 b1bba))
 (.cons 1 (.sc (.bool b1bbba)) (.cons 1 (.sc (.int .i64 b1bbbba)) .nil)))))
 (.cons 1
 (.vec false 3 t10n (b2n - (0 : Nat)) fun (i : Nat) =>
 .cons 1 (.sc (.int .i64 (b2fa (plus (0 : Nat) i))))
 (.cons 1 (.sc (.int .i64 (b2fba (plus (0 : Nat) i))))
 (.cons 1 (.sc (.int .i64 (b2fbba (plus (0 : Nat) i)))) .nil)))
 .nil)).tup
 (AV.cons 1
 (.cons 1 (.vec false 1 b1an b1an fun (i : Nat) => .sc (.int .i64 (b3f (plus (0 : Nat) i))))
 (.cons 1 (.sc (.int .i64 b1ba))
 (.cons 1 (.sc (.int .i64 b1bba))
 (.cons 1 (.sc (.bool b1bbba)) (.cons 1 (.sc (.int .i64 b1bbbba)) .nil)))))
 (.cons 1
 (.vec false 3 t10n t10n fun (i : Nat) =>
 .cons 1 (.sc (.int .i64 (b2fa (plus (0 : Nat) i))))
 (.cons 1 (.sc (.int .i64 (b2fba (plus (0 : Nat) i))))
 (.cons 1 (.sc (.int .i64 (b2fbba (plus (0 : Nat) i)))) .nil)))
 .nil)).tup) ∧
 Sub
 (AV.cons 1
 (.cons 1 (.vec false 1 b1an b1an fun (i : Nat) => .sc (.int .i64 (b3f (plus (0 : Nat) i))))
 (.cons 1 (.sc (.int .i64 b1ba))
 (.cons 1 (.sc (.int .i64 b1bba))
 (.cons 1 (.sc (.bool b1bbba)) (.cons 1 (.sc (.int .i64 b1bbbba)) .nil)))))
 (.cons 1
 (.vec false 3 t10n t10n fun (i : Nat) =>
 .cons 1 (.sc (.int .i64 (b2fa (plus (0 : Nat) i))))
 (.cons 1 (.sc (.int .i64 (b2fba (plus (0 : Nat) i))))
 (.cons 1 (.sc (.int .i64 (b2fbba (plus (0 : Nat) i)))) .nil)))
 .nil)).tup
 res) :
 L48_3 t10n b0ba b0bba b0bbba b0bbbba b1an b1ba b1bba b1bbba b1bbbba b2n b2fa b2fba b2fbba b3n b3f res :=
 rule Go.Am.Seat.tabOk 48 [] Go.Proofs.Try.f48 hf48 [1, 1, 1, 1, 1, 1, 1, 1, 1, 1, 1, 1, 1] (s48_3 t10n b0ba b0bba b0bbba b0bbbba b1an b1ba b1bba b1bbba b1bbbba b2n b2fa b2fba b2fbba b3n b3f) (m48_3 t10n b0ba b0bba b0bbba b0bbbba b1an b1ba b1bba b1bbba b1bbbba b2n b2fa b2fba b2fbba b3n b3f) res [] 400
 (Orc.fin
 (AV.cons 1
 (.cons 1 (.vec false 1 b1an b1an fun (i : Nat) => .sc (.int .i64 (b3f (plus (0 : Nat) i))))
 (.cons 1 (.sc (.int .i64 b1ba))
 (.cons 1 (.sc (.int .i64 b1bba))
 (.cons 1 (.sc (.bool b1bbba)) (.cons 1 (.sc (.int .i64 b1bbbba)) .nil)))))
 (.cons 1
 (.vec false 3 t10n t10n fun (i : Nat) =>
 .cons 1 (.sc (.int .i64 (b2fa (plus (0 : Nat) i))))
 (.cons 1 (.sc (.int .i64 (b2fba (plus (0 : Nat) i))))
 (.cons 1 (.sc (.int .i64 (b2fbba (plus (0 : Nat) i)))) .nil)))
 .nil)).tup
 [] []) _ _ (by kernel_rfl) (by kernel_rfl) (show ((0 : Nat) = (0 : Nat) ∧ True) ∧
 True ∧
 ((0 : Nat) = (0 : Nat) ∧ True) ∧
 True ∧
 (((0 : Nat) = (0 : Nat) ∧ True) ∧ True ∧ True) ∧
 (((((0 : Nat) + b1an ≤ b3n ∧ True ∧ True ∧ True ∧ True ∧ True) ∧ (0 : Nat) + t10n ≤ b2n ∧ True) ∧
 Sub
 (AV.cons 1
 (.cons 1
 (.vec false 1 b1an (b3n - (0 : Nat)) fun (i : Nat) => .sc (.int .i64 (b3f (plus (0 : Nat) i))))
 (.cons 1 (.sc (.int .i64 b1ba))
 (.cons 1 (.sc (.int .i64 b1bba))
 (.cons 1 (.sc (.bool b1bbba)) (.cons 1 (.sc (.int .i64 b1bbbba)) .nil)))))
 (.cons 1
 (.vec false 3 t10n (b2n - (0 : Nat)) fun (i : Nat) =>
 .cons 1 (.sc (.int .i64 (b2fa (plus (0 : Nat) i))))
 (.cons 1 (.sc (.int .i64 (b2fba (plus (0 : Nat) i))))
 (.cons 1 (.sc (.int .i64 (b2fbba (plus (0 : Nat) i)))) .nil)))
 .nil)).tup
 (AV.cons 1
 (.cons 1 (.vec false 1 b1an b1an fun (i : Nat) => .sc (.int .i64 (b3f (plus (0 : Nat) i))))
 (.cons 1 (.sc (.int .i64 b1ba))
 (.cons 1 (.sc (.int .i64 b1bba))
 (.cons 1 (.sc (.bool b1bbba)) (.cons 1 (.sc (.int .i64 b1bbbba)) .nil)))))
 (.cons 1
 (.vec false 3 t10n t10n fun (i : Nat) =>
 .cons 1 (.sc (.int .i64 (b2fa (plus (0 : Nat) i))))
 (.cons 1 (.sc (.int .i64 (b2fba (plus (0 : Nat) i))))
 (.cons 1 (.sc (.int .i64 (b2fbba (plus (0 : Nat) i)))) .nil)))
 .nil)).tup ∧
 True) ∧
 True) ∧
 Sub
 (AV.cons 1
 (.cons 1 (.vec false 1 b1an b1an fun (i : Nat) => .sc (.int .i64 (b3f (plus (0 : Nat) i))))
 (.cons 1 (.sc (.int .i64 b1ba))
 (.cons 1 (.sc (.int .i64 b1bba))
 (.cons 1 (.sc (.bool b1bbba)) (.cons 1 (.sc (.int .i64 b1bbbba)) .nil)))))
 (.cons 1
 (.vec false 3 t10n t10n fun (i : Nat) =>
 .cons 1 (.sc (.int .i64 (b2fa (plus (0 : Nat) i))))
 (.cons 1 (.sc (.int .i64 (b2fba (plus (0 : Nat) i))))
 (.cons 1 (.sc (.int .i64 (b2fbba (plus (0 : Nat) i)))) .nil)))
 .nil)).tup
 res ∧
 SubOut [] [] from
 ⟨⟨rfl, trivial⟩, ⟨trivial, ⟨⟨rfl, trivial⟩, ⟨trivial, ⟨⟨⟨rfl, trivial⟩, ⟨trivial, trivial⟩⟩, (And.elim (fun h5 k5 => ⟨((fun h6 => ⟨(And.elim (fun h7 k7 => ⟨(And.elim (fun h8 k8 => ⟨((fun h9 => ⟨h9, ⟨trivial, ⟨trivial, ⟨trivial, ⟨trivial, trivial⟩⟩⟩⟩⟩) h8), ((fun h9 => ⟨h9, trivial⟩) k8)⟩) h7), ((fun h8 => ⟨h8, trivial⟩) k7)⟩) h6), trivial⟩) h5), ((fun h6 => ⟨h6, trivial⟩) k5)⟩) h)⟩⟩⟩⟩⟩)
theorem hf53 : Go.Proofs.Try.prog.funcs[53]? = some Go.Proofs.Try.f53 := by kernel_rfl
abbrev s53_e (ln : Nat) (lf : Nat → Int) : List (Nat × AV) := [(0, (.vec true 1 ln ln (fun i0 => (.sc (.int .i64 (lf i0))))))]
abbrev m53_e (ln : Nat) (lf : Nat → Int) : List (Nat × Nat × AV) := []
def L53_e (ln : Nat) (lf : Nat → Int) (res : AV) : Prop := Goes ⟨Go.Proofs.Try.prog, 53, [], res, []⟩ (place Go.Proofs.Try.f53 []) (s53_e ln lf) (m53_e ln lf)
abbrev s53_0 (ln : Nat) (lf : Nat → Int) (out_n : Nat) (i : Int) (b0n : Nat) (b0f : Nat → Int) : List (Nat × AV) := [(0, (.vec true 1 ln ln (fun i0 => (.sc (.int .i64 (lf i0)))))), (3, (.rf 1000 1 0 out_n)), (4, (.sc (.int .i64 i)))]
abbrev m53_0 (ln : Nat) (lf : Nat → Int) (out_n : Nat) (i : Int) (b0n : Nat) (b0f : Nat → Int) : List (Nat × Nat × AV) := [(1000, 3, (.ar b0n 1 (fun i0 => (.sc (.int .i64 (b0f i0))))))]
def L53_0 (ln : Nat) (lf : Nat → Int) (out_n : Nat) (i : Int) (b0n : Nat) (b0f : Nat → Int) (res : AV) : Prop := Goes ⟨Go.Proofs.Try.prog, 53, [], res, []⟩ (place Go.Proofs.Try.f53 [1, 1, 0, 1, 0, 0]) (s53_0 ln lf out_n i b0n b0f) (m53_0 ln lf out_n i b0n b0f)
theorem o53 (ln : Nat) (lf : Nat → Int) (res : AV) (hnew : newOnly res) (h : L53_e ln lf res) : Ok Go.Proofs.Try.prog 53 [(.vec true 1 ln ln (fun i0 => (.sc (.int .i64 (lf i0)))))] [] res [] :=
 okRule2 53 Go.Proofs.Try.f53 hf53 [(.vec true 1 ln ln (fun i0 => (.sc (.int .i64 (lf i0)))))] [] res [] [] rfl (by kernel_rfl) (by kernel_rfl) (by kernel_rfl) ⟨hnew, by simp⟩ (L53_e ln lf res) (by kernel_rfl) h
theorem r53_e (ln : Nat) (lf : Nat → Int) (res : AV)
 (h : ((0 : Nat) ≤ (0 : Nat) ∧ ((0 : Nat) + ln) * (8 : Nat) ≤ (140737488355328 : Nat) ∧ (0 : Nat) + ln ≤ maxLen) ∧
 L53_0 ln lf ((0 : Nat) + ln) (0 : Int) ((0 : Nat) + ln) (fun (i : Nat) => lf (i - (0 : Nat))) res) :
 L53_e ln lf res :=
 rule Go.Am.Seat.tabOk 53 [] Go.Proofs.Try.f53 hf53 [] (s53_e ln lf) (m53_e ln lf) res [] 400
 (Orc.cut (nat_lit 9) (s53_0 ln lf ((0 : Nat) + ln) (0 : Int) ((0 : Nat) + ln) fun (i : Nat) => bif i.blt (0 : Nat) then (0 : Int) else lf (i - (0 : Nat)))
 (m53_0 ln lf ((0 : Nat) + ln) (0 : Int) ((0 : Nat) + ln) fun (i : Nat) => bif i.blt (0 : Nat) then (0 : Int) else lf (i - (0 : Nat)))
 [((1000 : Nat), some (7 : Nat))]) _ _ (by kernel_rfl) (by kernel_rfl) (show True ∧
 (True ∧ True) ∧
 True ∧
 ((0 : Nat) ≤ (0 : Nat) ∧ True ∧ ((0 : Nat) + ln) * (8 : Nat) ≤ (140737488355328 : Nat) ∧ (0 : Nat) + ln ≤ maxLen) ∧
 True ∧
 True ∧
 ((True ∧
 Sub (.vec true 1 ln ln fun (i0 : Nat) => .sc (.int .i64 (lf i0)))
 (.vec true 1 ln ln fun (i0 : Nat) => .sc (.int .i64 (lf i0))) ∧
 True ∧
 Sub (.rf 1000 1 0 ((0 : Nat) + ln)) (.rf 1000 1 0 ((0 : Nat) + ln)) ∧
 True ∧ Sub (.sc (.int .i64 (0 : Int))) (.sc (.int .i64 (0 : Int))) ∧ True) ∧
 True ∧
 SubB (.ar ((0 : Nat) + ln) (1 : Nat) fun (i : Nat) => .sc (.int .i64 (lf (i - (0 : Nat)))))
 (.ar ((0 : Nat) + ln) (1 : Nat) fun (i0 : Nat) => .sc (.int .i64 (lf (i0 - (0 : Nat))))) ∧
 True) ∧
 L53_0 ln lf ((0 : Nat) + ln) (0 : Int) ((0 : Nat) + ln) (fun (i : Nat) => lf (i - (0 : Nat))) res from
 ⟨trivial, ⟨⟨trivial, trivial⟩, ⟨trivial, (And.elim (fun h3 k3 => ⟨(And.elim (fun h4 k4 => ⟨h4, ⟨trivial, (And.elim (fun h6 k6 => ⟨h6, k6⟩) k4)⟩⟩) h3), ⟨trivial, ⟨trivial, ⟨⟨⟨trivial, ⟨Sub.refl _, ⟨trivial, ⟨Sub.refl _, ⟨trivial, ⟨Sub.refl _, trivial⟩⟩⟩⟩⟩⟩, ⟨trivial, ⟨SubB.refl _, trivial⟩⟩⟩, k3⟩⟩⟩⟩) h)⟩⟩⟩)
theorem r53_0 (ln : Nat) (lf : Nat → Int) (out_n : Nat) (i : Int) (b0n : Nat) (b0f : Nat → Int) (res : AV)
 (h : (decide (i < (3 : Int)) = true →
 (out_n ≤ b0n ∧ (0 : Nat) + (1 : Nat) ≤ (1 : Nat) ∧ (out_n + (1 : Nat)) * (8 : Nat) ≤ (140737488355328 : Nat) ∧ out_n + (1 : Nat) ≤ maxLen) ∧
 L53_0 ln lf (out_n + (1 : Nat)) (IntKind.i64.wrap (i + (1 : Int))) (out_n + (1 : Nat))
 (fun (i_1 : Nat) => bif i_1.blt out_n then b0f i_1 else IntKind.i64.wrap ((-7000 : Int) - i)) res) ∧
 (decide (i < (3 : Int)) = false →
 ((0 : Int) ≤ (0 : Int) ∧ (0 : Int) ≤ (↑ln : Int) ∧ (0 : Nat) + (↑ln : Int).toNat ≤ b0n ∧ ((0 : Int) = (0 : Int) ∨ (0 : Nat) + Int.toNat (0 : Int) < b0n)) ∧
 plus (0 : Nat) (Int.toNat (0 : Int)) + ((↑ln : Int) - (0 : Int)).toNat ≤ b0n ∧
 Sub
 (.vec false 1 ((↑ln : Int) - (0 : Int)).toNat (b0n - plus (0 : Nat) (Int.toNat (0 : Int))) fun (i : Nat) =>
 .sc (.int .i64 (b0f (plus (plus (0 : Nat) (Int.toNat (0 : Int))) i))))
 res)) :
 L53_0 ln lf out_n i b0n b0f res :=
 rule Go.Am.Seat.tabOk 53 [] Go.Proofs.Try.f53 hf53 [1, 1, 0, 1, 0, 0] (s53_0 ln lf out_n i b0n b0f) (m53_0 ln lf out_n i b0n b0f) res [] 400
 ((Orc.cut (nat_lit 7)
 (s53_0 ln lf (out_n + (1 : Nat)) (IntKind.i64.wrap (i + (1 : Int))) (out_n + (1 : Nat)) fun (i_1 : Nat) =>
 bif i_1.blt out_n then b0f i_1 else IntKind.i64.wrap ((-7000 : Int) - i))
 (m53_0 ln lf (out_n + (1 : Nat)) (IntKind.i64.wrap (i + (1 : Int))) (out_n + (1 : Nat)) fun (i_1 : Nat) =>
 bif i_1.blt out_n then b0f i_1 else IntKind.i64.wrap ((-7000 : Int) - i))
 [((1000 : Nat), some (16 : Nat))]).br
 (Orc.fin
 (.vec false 1 ((IntKind.i64, (↑ln : Int)).2 - (0 : Int)).toNat (b0n - plus (0 : Nat) (Int.toNat (0 : Int))) fun (i : Nat) =>
 .sc (.int .i64 (b0f (plus (plus (0 : Nat) (Int.toNat (0 : Int))) i))))
 [] [])) _ _ (by kernel_rfl) (by kernel_rfl) (show True ∧
 True ∧
 (decide (i < (3 : Int)) = true →
 True ∧
 True ∧
 True ∧
 ((True ∧ True) ∧ True) ∧
 (out_n ≤ b0n ∧
 ((0 : Nat) + (1 : Nat) ≤ (1 : Nat) ∧ (1 : Nat) = (1 : Nat)) ∧
 (out_n + (1 : Nat)) * (8 : Nat) ≤ (140737488355328 : Nat) ∧ out_n + (1 : Nat) ≤ maxLen) ∧
 True ∧
 True ∧
 True ∧
 True ∧
 ((True ∧
 Sub (.vec true 1 ln ln fun (i0 : Nat) => .sc (.int .i64 (lf i0)))
 (.vec true 1 ln ln fun (i0 : Nat) => .sc (.int .i64 (lf i0))) ∧
 True ∧
 Sub (.rf 1000 1 0 (out_n + (1 : Nat)))
 (.rf 1000 1 0 (out_n + (1 : Nat))) ∧
 True ∧
 Sub (.sc (.int .i64 (IntKind.i64.wrap (i + (1 : Int)))))
 (.sc (.int .i64 (IntKind.i64.wrap (i + (1 : Int))))) ∧
 True) ∧
 True ∧
 SubB
 (.ar (out_n + (1 : Nat)) (1 : Nat) fun (i_1 : Nat) =>
 .sc (.int .i64 (bif i_1.blt out_n then b0f i_1 else IntKind.i64.wrap ((-7000 : Int) - i))))
 (.ar (out_n + (1 : Nat)) (1 : Nat) fun (i0 : Nat) =>
 .sc (.int .i64 (bif i0.blt out_n then b0f i0 else IntKind.i64.wrap ((-7000 : Int) - i)))) ∧
 True) ∧
 L53_0 ln lf (out_n + (1 : Nat)) (IntKind.i64.wrap (i + (1 : Int))) (out_n + (1 : Nat))
 (fun (i_1 : Nat) => bif i_1.blt out_n then b0f i_1 else IntKind.i64.wrap ((-7000 : Int) - i)) res) ∧
 (decide (i < (3 : Int)) = false →
 True ∧
 True ∧
 True ∧
 ((0 : Int) ≤ (0 : Int) ∧
 (0 : Int) ≤ (↑ln : Int) ∧ (0 : Nat) + (↑ln : Int).toNat ≤ b0n ∧ ((0 : Int) = (0 : Int) ∨ (0 : Nat) + Int.toNat (0 : Int) < b0n)) ∧
 True ∧
 True ∧
 ((plus (0 : Nat) (Int.toNat (0 : Int)) + ((↑ln : Int) - (0 : Int)).toNat ≤ b0n ∧
 Sub
 (.vec false 1 ((↑ln : Int) - (0 : Int)).toNat (b0n - plus (0 : Nat) (Int.toNat (0 : Int))) fun (i : Nat) =>
 .sc (.int .i64 (b0f (plus (plus (0 : Nat) (Int.toNat (0 : Int))) i))))
 (.vec false 1 ((↑ln : Int) - (0 : Int)).toNat (b0n - plus (0 : Nat) (Int.toNat (0 : Int))) fun (i : Nat) =>
 .sc (.int .i64 (b0f (plus (plus (0 : Nat) (Int.toNat (0 : Int))) i)))) ∧
 True) ∧
 True) ∧
 Sub
 (.vec false 1 ((↑ln : Int) - (0 : Int)).toNat (b0n - plus (0 : Nat) (Int.toNat (0 : Int))) fun (i : Nat) =>
 .sc (.int .i64 (b0f (plus (plus (0 : Nat) (Int.toNat (0 : Int))) i))))
 res ∧
 SubOut [] []) from
 ⟨trivial, ⟨trivial, (And.elim (fun h2 k2 => ⟨(fun x3 => (fun h3 => ⟨trivial, ⟨trivial, ⟨trivial, ⟨⟨⟨trivial, trivial⟩, trivial⟩, (And.elim (fun h8 k8 => ⟨(And.elim (fun h9 k9 => ⟨h9, (And.elim (fun h10 k10 => ⟨((fun h11 => ⟨h11, rfl⟩) h10), (And.elim (fun h11 k11 => ⟨h11, k11⟩) k10)⟩) k9)⟩) h8), ⟨trivial, ⟨trivial, ⟨trivial, ⟨trivial, ⟨⟨⟨trivial, ⟨Sub.refl _, ⟨trivial, ⟨Sub.refl _, ⟨trivial, ⟨Sub.refl _, trivial⟩⟩⟩⟩⟩⟩, ⟨trivial, ⟨SubB.refl _, trivial⟩⟩⟩, k8⟩⟩⟩⟩⟩⟩) h3)⟩⟩⟩⟩) (h2 x3)), (fun x3 => (fun h3 => ⟨trivial, ⟨trivial, ⟨trivial, (And.elim (fun h7 k7 => ⟨(And.elim (fun h8 k8 => ⟨h8, (And.elim (fun h9 k9 => ⟨h9, (And.elim (fun h10 k10 => ⟨h10, k10⟩) k9)⟩) k8)⟩) h7), ⟨trivial, ⟨trivial, (And.elim (fun h10 k10 => ⟨((fun h11 => ⟨((fun h12 => ⟨h12, ⟨Sub.refl _, trivial⟩⟩) h11), trivial⟩) h10), ((fun h11 => ⟨h11, trivial⟩) k10)⟩) k7)⟩⟩⟩) h3)⟩⟩⟩) (k2 x3))⟩) h)⟩⟩)
theorem hf59 : Go.Proofs.Try.prog.funcs[59]? = some Go.Proofs.Try.f59 := by kernel_rfl
abbrev s59_e (tn tm : Nat) (tf : Nat → Int) (ln : Nat) (lf : Nat → Int) : List (Nat × AV) := [(0, (.vec true 1 tn tm (fun i0 => (.sc (.int .i64 (tf i0)))))), (1, (.vec true 1 ln ln (fun i0 => (.sc (.int .i64 (lf i0))))))]
abbrev m59_e (tn tm : Nat) (tf : Nat → Int) (ln : Nat) (lf : Nat → Int) : List (Nat × Nat × AV) := []
def L59_e (tn tm : Nat) (tf : Nat → Int) (ln : Nat) (lf : Nat → Int) (res : AV) : Prop := Goes ⟨Go.Proofs.Try.prog, 59, [], res, []⟩ (place Go.Proofs.Try.f59 []) (s59_e tn tm tf ln lf) (m59_e tn tm tf ln lf)
abbrev s59_0 (ln : Nat) (lf : Nat → Int) (alln : Nat) (allf : Nat → Int) (i : Int) : List (Nat × AV) := [(1, (.vec true 1 ln ln (fun i0 => (.sc (.int .i64 (lf i0)))))), (5, (.vec true 1 alln alln (fun i0 => (.sc (.int .i64 (allf i0)))))), (6, (.sc (.int .i64 i)))]
abbrev m59_0 (ln : Nat) (lf : Nat → Int) (alln : Nat) (allf : Nat → Int) (i : Int) : List (Nat × Nat × AV) := []
def L59_0 (ln : Nat) (lf : Nat → Int) (alln : Nat) (allf : Nat → Int) (i : Int) (res : AV) : Prop := Goes ⟨Go.Proofs.Try.prog, 59, [], res, []⟩ (place Go.Proofs.Try.f59 [1, 1, 1, 0, 1, 0, 0]) (s59_0 ln lf alln allf i) (m59_0 ln lf alln allf i)
theorem o59 (tn tm : Nat) (tf : Nat → Int) (ln : Nat) (lf : Nat → Int) (res : AV) (hnew : newOnly res) (h : L59_e tn tm tf ln lf res) : Ok Go.Proofs.Try.prog 59 [(.vec true 1 tn tm (fun i0 => (.sc (.int .i64 (tf i0))))), (.vec true 1 ln ln (fun i0 => (.sc (.int .i64 (lf i0)))))] [] res [] :=
 okRule2 59 Go.Proofs.Try.f59 hf59 [(.vec true 1 tn tm (fun i0 => (.sc (.int .i64 (tf i0))))), (.vec true 1 ln ln (fun i0 => (.sc (.int .i64 (lf i0)))))] [] res [] [] rfl (by kernel_rfl) (by kernel_rfl) (by kernel_rfl) ⟨hnew, by simp⟩ (L59_e tn tm tf ln lf res) (by kernel_rfl) h
theorem r59_e (tn tm : Nat) (tf : Nat → Int) (ln : Nat) (lf : Nat → Int) (res : AV)
 (h : ∃ (r : Bool),
 Ok Proofs.Try.prog (60 : Nat)
 [.vec true 1 tn tm fun (i : Nat) => .sc (.int .i64 (tf i)),
 .vec true 1 ln ln fun (i : Nat) => .sc (.int .i64 (lf i))]
 [] (.sc (.bool r)) [] ∧
 ((!r) = false →
 IntKind.i64.wrap ((↑ln : Int) + (3 : Int)) ≤ (↑tm : Int) ∧
 ((0 : Int) ≤ (0 : Int) ∧ (0 : Int) ≤ IntKind.i64.wrap ((↑ln : Int) + (3 : Int))) ∧
 Sub
 (.vec true 1 (IntKind.i64.wrap ((↑ln : Int) + (3 : Int)) - (0 : Int)).toNat (tm - Int.toNat (0 : Int)) fun (i : Nat) =>
 .sc (.int .i64 (tf (plus (Int.toNat (0 : Int)) i))))
 (.vec true 1 (IntKind.i64.wrap ((↑ln : Int) + (3 : Int)) - (0 : Int)).toNat
 (IntKind.i64.wrap ((↑ln : Int) + (3 : Int)) - (0 : Int)).toNat fun (i0 : Nat) =>
 .sc (.int .i64 (tf (plus (Int.toNat (0 : Int)) i0)))) ∧
 L59_0 ln lf (IntKind.i64.wrap ((↑ln : Int) + (3 : Int)) - (0 : Int)).toNat (fun (i : Nat) => tf (plus (Int.toNat (0 : Int)) i)) (0 : Int) res) ∧
 ((!r) = !false → Sub (.sc (.bool false)) res)) :
 L59_e tn tm tf ln lf res :=
 rule Go.Am.Seat.tabOk 59 [] Go.Proofs.Try.f59 hf59 [] (s59_e tn tm tf ln lf) (m59_e tn tm tf ln lf) res [] 400
 (Orc.call [] [] (fun (r60 : Bool) => .sc (.bool r60)) (fun (r60 : Bool) => []) fun (r60 : Bool) =>
 (Orc.cut (nat_lit 8)
 (s59_0 ln lf ((IntKind.i64, IntKind.i64.wrap ((↑ln : Int) + (3 : Int))).2 - (0 : Int)).toNat
 (fun (i : Nat) => tf (plus (Int.toNat (0 : Int)) i)) (0 : Int))
 (m59_0 ln lf ((IntKind.i64, IntKind.i64.wrap ((↑ln : Int) + (3 : Int))).2 - (0 : Int)).toNat
 (fun (i : Nat) => tf (plus (Int.toNat (0 : Int)) i)) (0 : Int))
 []).no.yes.yes.yes.yes.yes.br
 (Orc.fin (.sc (.bool false)) [] []).yes.no.no.no.no.no) _ _ (by kernel_rfl) (by kernel_rfl) (show True ∧
 True ∧
 True ∧
 ∃ (r : Bool),
 ((True ∧ True ∧ True) ∧
 True ∧
 Ok Proofs.Try.prog (60 : Nat)
 [.vec true 1 tn tm fun (i : Nat) => .sc (.int .i64 (tf i)),
 .vec true 1 ln ln fun (i : Nat) => .sc (.int .i64 (lf i))]
 [] (.sc (.bool r)) []) ∧
 True ∧
 True ∧
 ((!r) = false →
 True ∧
 false = false ∧
 True ∧
 false = false ∧
 True ∧
 false = false ∧
 True ∧
 false = false ∧
 True ∧
 false = false ∧
 IntKind.i64.wrap ((↑ln : Int) + (3 : Int)) ≤ (↑tm : Int) ∧
 True ∧
 false = false ∧
 True ∧
 True ∧
 True ∧
 True ∧
 ((0 : Int) ≤ (0 : Int) ∧
 (0 : Int) ≤ IntKind.i64.wrap ((↑ln : Int) + (3 : Int)) ∧
 IntKind.i64.wrap ((↑ln : Int) + (3 : Int)) ≤ (↑tm : Int)) ∧
 True ∧
 True ∧
 ((True ∧
 Sub (.vec true 1 ln ln fun (i0 : Nat) => .sc (.int .i64 (lf i0)))
 (.vec true 1 ln ln fun (i0 : Nat) => .sc (.int .i64 (lf i0))) ∧
 True ∧
 Sub
 (.vec true 1 (IntKind.i64.wrap ((↑ln : Int) + (3 : Int)) - (0 : Int)).toNat
 (tm - Int.toNat (0 : Int)) fun (i : Nat) =>
 .sc (.int .i64 (tf (plus (Int.toNat (0 : Int)) i))))
 (.vec true 1 (IntKind.i64.wrap ((↑ln : Int) + (3 : Int)) - (0 : Int)).toNat
 (IntKind.i64.wrap ((↑ln : Int) + (3 : Int)) - (0 : Int)).toNat fun (i0 : Nat) =>
 .sc (.int .i64 (tf (plus (Int.toNat (0 : Int)) i0)))) ∧
 True ∧
 Sub (.sc (.int .i64 (0 : Int)))
 (.sc (.int .i64 (0 : Int))) ∧
 True) ∧
 True) ∧
 L59_0 ln lf (IntKind.i64.wrap ((↑ln : Int) + (3 : Int)) - (0 : Int)).toNat
 (fun (i : Nat) => tf (plus (Int.toNat (0 : Int)) i)) (0 : Int) res) ∧
 ((!r) = !false →
 true = true ∧
 (!false) = !false ∧
 true = true ∧
 (!false) = !false ∧
 true = true ∧
 (!false) = !false ∧
 true = true ∧
 (!false) = !false ∧
 true = true ∧
 (!false) = !false ∧
 true = true ∧
 True ∧
 true = true ∧
 True ∧
 True ∧
 ((True ∧ Sub (.sc (.bool false)) (.sc (.bool false)) ∧ True) ∧ True) ∧
 Sub (.sc (.bool false)) res ∧ SubOut [] []) from
 ⟨trivial, ⟨trivial, ⟨trivial, (Exists.elim h fun x3 h3 => ⟨x3, (And.elim (fun h4 k4 => ⟨⟨⟨trivial, ⟨trivial, trivial⟩⟩, ⟨trivial, h4⟩⟩, ⟨trivial, ⟨trivial, (And.elim (fun h7 k7 => ⟨(fun x8 => (fun h8 => ⟨trivial, ⟨rfl, ⟨trivial, ⟨rfl, ⟨trivial, ⟨rfl, ⟨trivial, ⟨rfl, ⟨trivial, ⟨rfl, (And.elim (fun h19 k19 => ⟨h19, ⟨trivial, ⟨rfl, ⟨trivial, ⟨trivial, ⟨trivial, ⟨trivial, (And.elim (fun h26 k26 => ⟨(And.elim (fun h27 k27 => ⟨h27, ((fun h28 => ⟨h28, h19⟩) k27)⟩) h26), ⟨trivial, ⟨trivial, (And.elim (fun h29 k29 => ⟨((fun h30 => ⟨⟨trivial, ⟨Sub.refl _, ⟨trivial, ((fun h34 => ⟨h34, ⟨trivial, ⟨Sub.refl _, trivial⟩⟩⟩) h30)⟩⟩⟩, trivial⟩) h29), k29⟩) k26)⟩⟩⟩) k19)⟩⟩⟩⟩⟩⟩⟩) h8)⟩⟩⟩⟩⟩⟩⟩⟩⟩⟩) (h7 x8)), (fun x8 => (fun h8 => ⟨rfl, ⟨rfl, ⟨rfl, ⟨rfl, ⟨rfl, ⟨rfl, ⟨rfl, ⟨rfl, ⟨rfl, ⟨rfl, ⟨rfl, ⟨trivial, ⟨rfl, ⟨trivial, ⟨trivial, ⟨⟨⟨trivial, ⟨Sub.refl _, trivial⟩⟩, trivial⟩, ((fun h25 => ⟨h25, trivial⟩) h8)⟩⟩⟩⟩⟩⟩⟩⟩⟩⟩⟩⟩⟩⟩⟩⟩) (k7 x8))⟩) k4)⟩⟩⟩) h3)⟩)⟩⟩⟩)
theorem r59_0 (ln : Nat) (lf : Nat → Int) (alln : Nat) (allf : Nat → Int) (i : Int) (res : AV)
 (h : (decide (i < (3 : Int)) = true →
 ((0 : Int) ≤ IntKind.i64.wrap ((↑ln : Int) + i) ∧ IntKind.i64.wrap ((↑ln : Int) + i) < (↑alln : Int)) ∧
 ((allf (IntKind.i64.wrap ((↑ln : Int) + i)).toNat != IntKind.i64.wrap ((-7000 : Int) - i)) = true → Sub (.sc (.bool false)) res) ∧
 ((allf (IntKind.i64.wrap ((↑ln : Int) + i)).toNat != IntKind.i64.wrap ((-7000 : Int) - i)) = false →
 L59_0 ln lf alln allf (IntKind.i64.wrap (i + (1 : Int))) res)) ∧
 (decide (i < (3 : Int)) = false → Sub (.sc (.bool true)) res)) :
 L59_0 ln lf alln allf i res :=
 rule Go.Am.Seat.tabOk 59 [] Go.Proofs.Try.f59 hf59 [1, 1, 1, 0, 1, 0, 0] (s59_0 ln lf alln allf i) (m59_0 ln lf alln allf i) res [] 400
 (((Orc.fin (.sc (.bool false)) [] []).br
 (Orc.cut (nat_lit 4) (s59_0 ln lf alln allf (IntKind.i64.wrap (i + (1 : Int)))) (m59_0 ln lf alln allf (IntKind.i64.wrap (i + (1 : Int)))) [])).br
 (Orc.fin (.sc (.bool true)) [] [])) _ _ (by kernel_rfl) (by kernel_rfl) (show True ∧
 True ∧
 (decide (i < (3 : Int)) = true →
 True ∧
 True ∧
 True ∧
 True ∧
 True ∧
 ((0 : Int) ≤ IntKind.i64.wrap ((↑ln : Int) + i) ∧ IntKind.i64.wrap ((↑ln : Int) + i) < (↑alln : Int)) ∧
 True ∧
 True ∧
 True ∧
 True ∧
 ((allf (IntKind.i64.wrap ((↑ln : Int) + i)).toNat != IntKind.i64.wrap ((-7000 : Int) - i)) = true →
 True ∧
 True ∧
 ((True ∧ Sub (.sc (.bool false)) (.sc (.bool false)) ∧ True) ∧ True) ∧
 Sub (.sc (.bool false)) res ∧ SubOut [] []) ∧
 ((allf (IntKind.i64.wrap ((↑ln : Int) + i)).toNat != IntKind.i64.wrap ((-7000 : Int) - i)) = false →
 True ∧
 True ∧
 True ∧
 ((True ∧
 Sub (.vec true 1 ln ln fun (i0 : Nat) => .sc (.int .i64 (lf i0)))
 (.vec true 1 ln ln fun (i0 : Nat) => .sc (.int .i64 (lf i0))) ∧
 True ∧
 Sub (.vec true 1 alln alln fun (i0 : Nat) => .sc (.int .i64 (allf i0)))
 (.vec true 1 alln alln fun (i0 : Nat) => .sc (.int .i64 (allf i0))) ∧
 True ∧
 Sub (.sc (.int .i64 (IntKind.i64.wrap (i + (1 : Int)))))
 (.sc (.int .i64 (IntKind.i64.wrap (i + (1 : Int))))) ∧
 True) ∧
 True) ∧
 L59_0 ln lf alln allf (IntKind.i64.wrap (i + (1 : Int))) res)) ∧
 (decide (i < (3 : Int)) = false →
 True ∧ True ∧ ((True ∧ Sub (.sc (.bool true)) (.sc (.bool true)) ∧ True) ∧ True) ∧ Sub (.sc (.bool true)) res ∧ SubOut [] []) from
 ⟨trivial, ⟨trivial, (And.elim (fun h2 k2 => ⟨(fun x3 => (fun h3 => ⟨trivial, ⟨trivial, ⟨trivial, ⟨trivial, ⟨trivial, (And.elim (fun h9 k9 => ⟨(And.elim (fun h10 k10 => ⟨h10, k10⟩) h9), ⟨trivial, ⟨trivial, ⟨trivial, ⟨trivial, (And.elim (fun h14 k14 => ⟨(fun x15 => (fun h15 => ⟨trivial, ⟨trivial, ⟨⟨⟨trivial, ⟨Sub.refl _, trivial⟩⟩, trivial⟩, ((fun h19 => ⟨h19, trivial⟩) h15)⟩⟩⟩) (h14 x15)), (fun x15 => (fun h15 => ⟨trivial, ⟨trivial, ⟨trivial, ⟨⟨⟨trivial, ⟨Sub.refl _, ⟨trivial, ⟨Sub.refl _, ⟨trivial, ⟨Sub.refl _, trivial⟩⟩⟩⟩⟩⟩, trivial⟩, h15⟩⟩⟩⟩) (k14 x15))⟩) k9)⟩⟩⟩⟩⟩) h3)⟩⟩⟩⟩⟩) (h2 x3)), (fun x3 => (fun h3 => ⟨trivial, ⟨trivial, ⟨⟨⟨trivial, ⟨Sub.refl _, trivial⟩⟩, trivial⟩, ((fun h7 => ⟨h7, trivial⟩) h3)⟩⟩⟩) (k2 x3))⟩) h)⟩⟩)
theorem hf60 : Go.Proofs.Try.prog.funcs[60]? = some Go.Proofs.Try.f60 := by kernel_rfl
abbrev s60_e (an : Nat) (af : Nat → Int) (bn : Nat) (bf : Nat → Int) : List (Nat × AV) := [(0, (.vec true 1 an an (fun i0 => (.sc (.int .i64 (af i0)))))), (1, (.vec true 1 bn bn (fun i0 => (.sc (.int .i64 (bf i0))))))]
abbrev m60_e (an : Nat) (af : Nat → Int) (bn : Nat) (bf : Nat → Int) : List (Nat × Nat × AV) := []
def L60_e (an : Nat) (af : Nat → Int) (bn : Nat) (bf : Nat → Int) (res : AV) : Prop := Goes ⟨Go.Proofs.Try.prog, 60, [], res, []⟩ (place Go.Proofs.Try.f60 []) (s60_e an af bn bf) (m60_e an af bn bf)
theorem a60_e (an : Nat) (af : Nat → Int) (bn : Nat) (bf : Nat → Int) (res : AV) (h : (∀ slot, fact (look .undef (s60_e an af bn bf) slot)) → L60_e an af bn bf res) : L60_e an af bn bf res :=
 assumeRule 60 [] Go.Proofs.Try.f60 hf60 [] (s60_e an af bn bf) (m60_e an af bn bf) res [] _ (by kernel_rfl) h
abbrev s60_0 (an : Nat) (af : Nat → Int) (bn : Nat) (bf : Nat → Int) (i : Int) : List (Nat × AV) := [(0, (.vec true 1 an an (fun i0 => (.sc (.int .i64 (af i0)))))), (1, (.vec true 1 bn bn (fun i0 => (.sc (.int .i64 (bf i0)))))), (5, (.sc (.int .i64 i)))]
abbrev m60_0 (an : Nat) (af : Nat → Int) (bn : Nat) (bf : Nat → Int) (i : Int) : List (Nat × Nat × AV) := []
def L60_0 (an : Nat) (af : Nat → Int) (bn : Nat) (bf : Nat → Int) (i : Int) (res : AV) : Prop := Goes ⟨Go.Proofs.Try.prog, 60, [], res, []⟩ (place Go.Proofs.Try.f60 [1, 1, 0, 1, 0, 0]) (s60_0 an af bn bf i) (m60_0 an af bn bf i)
theorem o60 (an : Nat) (af : Nat → Int) (bn : Nat) (bf : Nat → Int) (res : AV) (hnew : newOnly res) (h : L60_e an af bn bf res) : Ok Go.Proofs.Try.prog 60 [(.vec true 1 an an (fun i0 => (.sc (.int .i64 (af i0))))), (.vec true 1 bn bn (fun i0 => (.sc (.int .i64 (bf i0)))))] [] res [] :=
 okRule2 60 Go.Proofs.Try.f60 hf60 [(.vec true 1 an an (fun i0 => (.sc (.int .i64 (af i0))))), (.vec true 1 bn bn (fun i0 => (.sc (.int .i64 (bf i0)))))] [] res [] [] rfl (by kernel_rfl) (by kernel_rfl) (by kernel_rfl) ⟨hnew, by simp⟩ (L60_e an af bn bf res) (by kernel_rfl) h
theorem r60_e (an : Nat) (af : Nat → Int) (bn : Nat) (bf : Nat → Int) (res : AV)
 (h : (((↑an : Int) != (↑bn : Int)) = true → Sub (.sc (.bool false)) res) ∧ (((↑an : Int) != (↑bn : Int)) = false → L60_0 an af bn bf (0 : Int) res)) :
 L60_e an af bn bf res :=
 rule Go.Am.Seat.tabOk 60 [] Go.Proofs.Try.f60 hf60 [] (s60_e an af bn bf) (m60_e an af bn bf) res [] 400
 ((Orc.fin (.sc (.bool false)) [] []).br (Orc.cut (nat_lit 6) (s60_0 an af bn bf (0 : Int)) (m60_0 an af bn bf (0 : Int)) [])) _ _ (by kernel_rfl) (by kernel_rfl) (show True ∧
 True ∧
 True ∧
 True ∧
 True ∧
 True ∧
 (((↑an : Int) != (↑bn : Int)) = true →
 True ∧
 True ∧
 ((True ∧ Sub (.sc (.bool false)) (.sc (.bool false)) ∧ True) ∧ True) ∧ Sub (.sc (.bool false)) res ∧ SubOut [] []) ∧
 (((↑an : Int) != (↑bn : Int)) = false →
 True ∧
 ((True ∧
 Sub (.vec true 1 an an fun (i0 : Nat) => .sc (.int .i64 (af i0)))
 (.vec true 1 an an fun (i0 : Nat) => .sc (.int .i64 (af i0))) ∧
 True ∧
 Sub (.vec true 1 bn bn fun (i0 : Nat) => .sc (.int .i64 (bf i0)))
 (.vec true 1 bn bn fun (i0 : Nat) => .sc (.int .i64 (bf i0))) ∧
 True ∧ Sub (.sc (.int .i64 (0 : Int))) (.sc (.int .i64 (0 : Int))) ∧ True) ∧
 True) ∧
 L60_0 an af bn bf (0 : Int) res) from
 ⟨trivial, ⟨trivial, ⟨trivial, ⟨trivial, ⟨trivial, ⟨trivial, (And.elim (fun h6 k6 => ⟨(fun x7 => (fun h7 => ⟨trivial, ⟨trivial, ⟨⟨⟨trivial, ⟨Sub.refl _, trivial⟩⟩, trivial⟩, ((fun h11 => ⟨h11, trivial⟩) h7)⟩⟩⟩) (h6 x7)), (fun x7 => (fun h7 => ⟨trivial, ⟨⟨⟨trivial, ⟨Sub.refl _, ⟨trivial, ⟨Sub.refl _, ⟨trivial, ⟨Sub.refl _, trivial⟩⟩⟩⟩⟩⟩, trivial⟩, h7⟩⟩) (k6 x7))⟩) h)⟩⟩⟩⟩⟩⟩)
theorem r60_0 (an : Nat) (af : Nat → Int) (bn : Nat) (bf : Nat → Int) (i : Int) (res : AV)
 (h : (decide (i < (↑an : Int)) = true →
 ((0 : Int) ≤ i ∧ i < (↑an : Int)) ∧
 ((0 : Int) ≤ i ∧ i < (↑bn : Int)) ∧
 ((af i.toNat != bf i.toNat) = true → Sub (.sc (.bool false)) res) ∧
 ((af i.toNat != bf i.toNat) = false → L60_0 an af bn bf (IntKind.i64.wrap (i + (1 : Int))) res)) ∧
 (decide (i < (↑an : Int)) = false → Sub (.sc (.bool true)) res)) :
 L60_0 an af bn bf i res :=
 rule Go.Am.Seat.tabOk 60 [] Go.Proofs.Try.f60 hf60 [1, 1, 0, 1, 0, 0] (s60_0 an af bn bf i) (m60_0 an af bn bf i) res [] 400
 (((Orc.fin (.sc (.bool false)) [] []).br
 (Orc.cut (nat_lit 4) (s60_0 an af bn bf (IntKind.i64.wrap (i + (1 : Int)))) (m60_0 an af bn bf (IntKind.i64.wrap (i + (1 : Int)))) [])).br
 (Orc.fin (.sc (.bool true)) [] [])) _ _ (by kernel_rfl) (by kernel_rfl) (show True ∧
 True ∧
 True ∧
 True ∧
 (decide (i < (↑an : Int)) = true →
 True ∧
 True ∧
 ((0 : Int) ≤ i ∧ i < (↑an : Int)) ∧
 True ∧
 True ∧
 True ∧
 ((0 : Int) ≤ i ∧ i < (↑bn : Int)) ∧
 True ∧
 True ∧
 ((af i.toNat != bf i.toNat) = true →
 True ∧
 True ∧
 ((True ∧ Sub (.sc (.bool false)) (.sc (.bool false)) ∧ True) ∧ True) ∧
 Sub (.sc (.bool false)) res ∧ SubOut [] []) ∧
 ((af i.toNat != bf i.toNat) = false →
 True ∧
 True ∧
 True ∧
 ((True ∧
 Sub (.vec true 1 an an fun (i0 : Nat) => .sc (.int .i64 (af i0)))
 (.vec true 1 an an fun (i0 : Nat) => .sc (.int .i64 (af i0))) ∧
 True ∧
 Sub (.vec true 1 bn bn fun (i0 : Nat) => .sc (.int .i64 (bf i0)))
 (.vec true 1 bn bn fun (i0 : Nat) => .sc (.int .i64 (bf i0))) ∧
 True ∧
 Sub (.sc (.int .i64 (IntKind.i64.wrap (i + (1 : Int)))))
 (.sc (.int .i64 (IntKind.i64.wrap (i + (1 : Int))))) ∧
 True) ∧
 True) ∧
 L60_0 an af bn bf (IntKind.i64.wrap (i + (1 : Int))) res)) ∧
 (decide (i < (↑an : Int)) = false →
 True ∧ True ∧ ((True ∧ Sub (.sc (.bool true)) (.sc (.bool true)) ∧ True) ∧ True) ∧ Sub (.sc (.bool true)) res ∧ SubOut [] []) from
 ⟨trivial, ⟨trivial, ⟨trivial, ⟨trivial, (And.elim (fun h4 k4 => ⟨(fun x5 => (fun h5 => ⟨trivial, ⟨trivial, (And.elim (fun h8 k8 => ⟨(And.elim (fun h9 k9 => ⟨h9, k9⟩) h8), ⟨trivial, ⟨trivial, ⟨trivial, (And.elim (fun h12 k12 => ⟨(And.elim (fun h13 k13 => ⟨h13, k13⟩) h12), ⟨trivial, ⟨trivial, (And.elim (fun h15 k15 => ⟨(fun x16 => (fun h16 => ⟨trivial, ⟨trivial, ⟨⟨⟨trivial, ⟨Sub.refl _, trivial⟩⟩, trivial⟩, ((fun h20 => ⟨h20, trivial⟩) h16)⟩⟩⟩) (h15 x16)), (fun x16 => (fun h16 => ⟨trivial, ⟨trivial, ⟨trivial, ⟨⟨⟨trivial, ⟨Sub.refl _, ⟨trivial, ⟨Sub.refl _, ⟨trivial, ⟨Sub.refl _, trivial⟩⟩⟩⟩⟩⟩, trivial⟩, h16⟩⟩⟩⟩) (k15 x16))⟩) k12)⟩⟩⟩) k8)⟩⟩⟩⟩) h5)⟩⟩) (h4 x5)), (fun x5 => (fun h5 => ⟨trivial, ⟨trivial, ⟨⟨⟨trivial, ⟨Sub.refl _, trivial⟩⟩, trivial⟩, ((fun h9 => ⟨h9, trivial⟩) h5)⟩⟩⟩) (k4 x5))⟩) h)⟩⟩⟩⟩)
theorem hf70 : Go.Proofs.Try.prog.funcs[70]? = some Go.Proofs.Try.f70 := by kernel_rfl
abbrev s70_e (man : Nat) (maf : Nat → Int) (mba mbba : Int) (mbbba : Bool) (mbbbba : Int) : List (Nat × AV) := [(0, (.cons 1 (.vec true 1 man man (fun i0 => (.sc (.int .i64 (maf i0))))) (.cons 1 (.sc (.int .i64 mba)) (.cons 1 (.sc (.int .i64 mbba)) (.cons 1 (.sc (.bool mbbba)) (.cons 1 (.sc (.int .i64 mbbbba)) .nil))))))]
abbrev m70_e (man : Nat) (maf : Nat → Int) (mba mbba : Int) (mbbba : Bool) (mbbbba : Int) : List (Nat × Nat × AV) := []
def L70_e (man : Nat) (maf : Nat → Int) (mba mbba : Int) (mbbba : Bool) (mbbbba : Int) (res : AV) : Prop := Goes ⟨Go.Proofs.Try.prog, 70, [], res, []⟩ (place Go.Proofs.Try.f70 []) (s70_e man maf mba mbba mbbba mbbbba) (m70_e man maf mba mbba mbbba mbbbba)
abbrev s70_0 (t41n : Nat) (t41f : Nat → Int) (t42 t43 : Int) (b0an : Nat) (b0af : Nat → Int) (b0ba b0bba : Int) (b0bbba : Bool) (b0bbbba : Int) : List (Nat × AV) := [(1, (.pt 1000 [] 0)), (41, (.vec true 1 t41n t41n (fun i0 => (.sc (.int .i64 (t41f i0)))))), (42, (.sc (.int .i64 t42))), (43, (.sc (.int .i64 t43)))]
abbrev m70_0 (t41n : Nat) (t41f : Nat → Int) (t42 t43 : Int) (b0an : Nat) (b0af : Nat → Int) (b0ba b0bba : Int) (b0bbba : Bool) (b0bbbba : Int) : List (Nat × Nat × AV) := [(1000, 64, (.cons 1 (.vec true 1 b0an b0an (fun i0 => (.sc (.int .i64 (b0af i0))))) (.cons 1 (.sc (.int .i64 b0ba)) (.cons 1 (.sc (.int .i64 b0bba)) (.cons 1 (.sc (.bool b0bbba)) (.cons 1 (.sc (.int .i64 b0bbbba)) .nil))))))]
def L70_0 (t41n : Nat) (t41f : Nat → Int) (t42 t43 : Int) (b0an : Nat) (b0af : Nat → Int) (b0ba b0bba : Int) (b0bbba : Bool) (b0bbbba : Int) (res : AV) : Prop := Goes ⟨Go.Proofs.Try.prog, 70, [], res, []⟩ (place Go.Proofs.Try.f70 [1, 1, 0, 1, 0, 0]) (s70_0 t41n t41f t42 t43 b0an b0af b0ba b0bba b0bbba b0bbbba) (m70_0 t41n t41f t42 t43 b0an b0af b0ba b0bba b0bbba b0bbbba)
theorem o70 (man : Nat) (maf : Nat → Int) (mba mbba : Int) (mbbba : Bool) (mbbbba : Int) (res : AV) (hnew : newOnly res) (h : L70_e man maf mba mbba mbbba mbbbba res) : Ok Go.Proofs.Try.prog 70 [(.cons 1 (.vec true 1 man man (fun i0 => (.sc (.int .i64 (maf i0))))) (.cons 1 (.sc (.int .i64 mba)) (.cons 1 (.sc (.int .i64 mbba)) (.cons 1 (.sc (.bool mbbba)) (.cons 1 (.sc (.int .i64 mbbbba)) .nil)))))] [] res [] :=
 okRule2 70 Go.Proofs.Try.f70 hf70 [(.cons 1 (.vec true 1 man man (fun i0 => (.sc (.int .i64 (maf i0))))) (.cons 1 (.sc (.int .i64 mba)) (.cons 1 (.sc (.int .i64 mbba)) (.cons 1 (.sc (.bool mbbba)) (.cons 1 (.sc (.int .i64 mbbbba)) .nil)))))] [] res [] [] rfl (by kernel_rfl) (by kernel_rfl) (by kernel_rfl) ⟨hnew, by simp⟩ (L70_e man maf mba mbba mbbba mbbbba res) (by kernel_rfl) h
theorem r70_e (man : Nat) (maf : Nat → Int) (mba mbba : Int) (mbbba : Bool) (mbbbba : Int) (res : AV)
 (h : (((↑man : Int) == (0 : Int)) = false →
 ((0 : Int) ≤ (0 : Int) ∧ (0 : Int) < (↑man : Int)) ∧
 ((maf (Int.toNat (0 : Int)) != (0 : Int)) = false →
 (decide
 ((if false = true then
 if mbba > if false = true then if mbbbba > mba then mbbbba else mba else if mbbbba < mba then mbbbba else mba then mbba
 else if false = true then if mbbbba > mba then mbbbba else mba else if mbbbba < mba then mbbbba else mba
 else
 if mbba < if false = true then if mbbbba > mba then mbbbba else mba else if mbbbba < mba then mbbbba else mba then mbba
 else if false = true then if mbbbba > mba then mbbbba else mba else if mbbbba < mba then mbbbba else mba) <
 (0 : Int)) =
 false →
 (decide ((if true = true then if mbbbba > mba then mbbbba else mba else if mbbbba < mba then mbbbba else mba) > (65536 : Int)) = false →
 (decide (mbba > (4096 : Int)) = true → Sub (.sc (.bool false)) res) ∧
 (decide (mbba > (4096 : Int)) = false →
 ((0 : Int) ≤ (1 : Int) ∧ (1 : Int) ≤ (↑man : Int) ∧ (↑man : Int) ≤ (↑man : Int)) ∧
 Sub
 (.vec true 1 ((↑man : Int) - (1 : Int)).toNat (man - Int.toNat (1 : Int)) fun (i : Nat) =>
 .sc (.int .i64 (maf (plus (Int.toNat (1 : Int)) i))))
 (.vec true 1 ((↑man : Int) - (1 : Int)).toNat ((↑man : Int) - (1 : Int)).toNat fun (i0 : Nat) =>
 .sc (.int .i64 (maf (plus (Int.toNat (1 : Int)) i0)))) ∧
 L70_0 ((↑man : Int) - (1 : Int)).toNat (fun (i : Nat) => maf (plus (Int.toNat (1 : Int)) i)) (↑((↑man : Int) - (1 : Int)).toNat : Int)
 (0 : Int) man maf mba mbba mbbba mbbbba res)) ∧
 (decide ((if true = true then if mbbbba > mba then mbbbba else mba else if mbbbba < mba then mbbbba else mba) > (65536 : Int)) = !false →
 Sub (.sc (.bool false)) res)) ∧
 (decide
 ((if false = true then
 if mbba > if false = true then if mbbbba > mba then mbbbba else mba else if mbbbba < mba then mbbbba else mba then mbba
 else if false = true then if mbbbba > mba then mbbbba else mba else if mbbbba < mba then mbbbba else mba
 else
 if mbba < if false = true then if mbbbba > mba then mbbbba else mba else if mbbbba < mba then mbbbba else mba then mbba
 else if false = true then if mbbbba > mba then mbbbba else mba else if mbbbba < mba then mbbbba else mba) <
 (0 : Int)) =
 !false →
 Sub (.sc (.bool false)) res)) ∧
 ((maf (Int.toNat (0 : Int)) != (0 : Int)) = !false → Sub (.sc (.bool false)) res)) ∧
 (((↑man : Int) == (0 : Int)) = !false → Sub (.sc (.bool false)) res)) :
 L70_e man maf mba mbba mbbba mbbbba res :=
 rule Go.Am.Seat.tabOk 70 [] Go.Proofs.Try.f70 hf70 [] (s70_e man maf mba mbba mbbba mbbbba) (m70_e man maf mba mbba mbbba mbbbba) res [] 400
 ((((((Orc.fin (.sc (.bool false)) [] []).br
 (Orc.cut (nat_lit 6)
 (s70_0 ((↑man : Int) - (IntKind.i64, (1 : Int)).2).toNat
 (fun (i : Nat) => maf (plus (IntKind.i64, (1 : Int)).2.toNat i))
 (↑((↑man : Int) - (IntKind.i64, (1 : Int)).2).toNat : Int) (0 : Int) man maf mba mbba mbbba mbbbba)
 (m70_0 ((↑man : Int) - (IntKind.i64, (1 : Int)).2).toNat
 (fun (i : Nat) => maf (plus (IntKind.i64, (1 : Int)).2.toNat i))
 (↑((↑man : Int) - (IntKind.i64, (1 : Int)).2).toNat : Int) (0 : Int) man maf mba mbba mbbba mbbbba)
 [((1000 : Nat), some (1 : Nat))])).yes.yes.br
 (Orc.fin (.sc (.bool false)) [] []).yes.no.no).yes.yes.yes.yes.yes.br
 (Orc.fin (.sc (.bool false)) [] []).yes.no.no.no.no.no.no.no.no).yes.yes.yes.yes.yes.yes.yes.br
 (Orc.fin (.sc (.bool false)) [] []).yes.no.no.no.no.no.no.no.no.no.no.no.no.no.no.no.no).yes.yes.yes.yes.br
 (Orc.fin (.sc (.bool false)) [] []).yes.no.no.no.no.no.no.no.no.no.no.no.no.no.no.no.no.no.no.no.no.no) _ _ (by kernel_rfl) (by kernel_rfl) (show True ∧
 True ∧
 True ∧
 ((0 : Nat) = plus (0 : Nat) (0 : Nat) ∧ True) ∧
 True ∧
 True ∧
 True ∧
 (((↑man : Int) == (0 : Int)) = false →
 True ∧
 false = false ∧
 ((0 : Nat) = plus (0 : Nat) (0 : Nat) ∧ True) ∧
 false = false ∧
 ((0 : Int) ≤ (0 : Int) ∧ (0 : Int) < (↑man : Int)) ∧
 false = false ∧
 True ∧
 false = false ∧
 True ∧
 True ∧
 True ∧
 ((maf (Int.toNat (0 : Int)) != (0 : Int)) = false →
 True ∧
 false = false ∧
 ((1 : Nat) + (0 : Nat) = plus (0 : Nat) (1 : Nat) ∧ True) ∧
 false = false ∧
 True ∧
 false = false ∧
 ((1 : Nat) + ((1 : Nat) + ((1 : Nat) + ((1 : Nat) + (0 : Nat)))) = plus (0 : Nat) (4 : Nat) ∧ True) ∧
 false = false ∧
 True ∧
 false = false ∧
 ((1 : Nat) + ((1 : Nat) + (0 : Nat)) = plus (0 : Nat) (2 : Nat) ∧ True) ∧
 false = false ∧
 True ∧
 false = false ∧
 True ∧
 True ∧
 True ∧
 (decide
 ((if false = true then
 if
 mbba >
 if false = true then if mbbbba > mba then mbbbba else mba
 else if mbbbba < mba then mbbbba else mba then
 mbba
 else
 if false = true then if mbbbba > mba then mbbbba else mba
 else if mbbbba < mba then mbbbba else mba
 else
 if
 mbba <
 if false = true then if mbbbba > mba then mbbbba else mba
 else if mbbbba < mba then mbbbba else mba then
 mbba
 else
 if false = true then if mbbbba > mba then mbbbba else mba
 else if mbbbba < mba then mbbbba else mba) <
 (0 : Int)) =
 false →
 True ∧
 false = false ∧
 ((1 : Nat) + (0 : Nat) = plus (0 : Nat) (1 : Nat) ∧ True) ∧
 false = false ∧
 True ∧
 false = false ∧
 ((1 : Nat) + ((1 : Nat) + ((1 : Nat) + ((1 : Nat) + (0 : Nat)))) =
 plus (0 : Nat) (4 : Nat) ∧
 True) ∧
 false = false ∧
 True ∧
 false = false ∧
 True ∧
 True ∧
 True ∧
 (decide
 ((if true = true then
 if mbbbba > mba then mbbbba else mba
 else
 if mbbbba < mba then mbbbba else mba) >
 (65536 : Int)) =
 false →
 True ∧
 false = false ∧
 ((1 : Nat) + ((1 : Nat) + (0 : Nat)) =
 plus (0 : Nat) (2 : Nat) ∧
 True) ∧
 false = false ∧
 True ∧
 True ∧
 (decide (mbba > (4096 : Int)) =
 true →
 True ∧
 True ∧
 ((True ∧
 Sub
 (.sc
 (Value.bool
 false))
 (.sc
 (Value.bool
 false)) ∧
 True) ∧
 True) ∧
 Sub
 (.sc
 (.bool false))
 res ∧
 SubOut [] []) ∧
 (decide (mbba > (4096 : Int)) =
 false →
 True ∧
 ((0 : Nat) =
 plus (0 : Nat)
 (0 : Nat) ∧
 True) ∧
 ((0 : Int) ≤ (1 : Int) ∧
 (1 : Int) ≤
 (↑man : Int) ∧
 (↑man : Int) ≤
 (↑man : Int)) ∧
 True ∧
 True ∧
 ((True ∧
 Sub
 (.pt
 (1000 :
 Nat)
 []
 (0 : Nat))
 (.pt
 (1000 :
 Nat)
 []
 (0 :
 Nat)) ∧
 True ∧
 Sub
 (.vec
 true
 (1 :
 Nat)
 ((↑man :
 Int) -
 (1 :
 Int)).toNat
 (man -
 Int.toNat
 (1 :
 Int))
 fun
 (i :
 Nat) =>
 .sc
 (Value.int
 IntKind.i64
 (maf
 (plus
 (Int.toNat
 (1 :
 Int))
 i))))
 (.vec
 true
 (1 :
 Nat)
 ((↑man :
 Int) -
 (1 :
 Int)).toNat
 ((↑man :
 Int) -
 (1 :
 Int)).toNat
 fun
 (i0 :
 Nat) =>
 .sc
 (Value.int
 IntKind.i64
 (maf
 (plus
 (Int.toNat
 (1 :
 Int))
 i0)))) ∧
 True ∧
 Sub
 (.sc
 (Value.int
 IntKind.i64
 (↑((↑man :
 Int) -
 (1 :
 Int)).toNat :
 Int)))
 (.sc
 (Value.int
 IntKind.i64
 (↑((↑man :
 Int) -
 (1 :
 Int)).toNat :
 Int))) ∧
 True ∧
 Sub
 (.sc
 (Value.int
 IntKind.i64
 (0 :
 Int)))
 (.sc
 (Value.int
 IntKind.i64
 (0 :
 Int))) ∧
 True) ∧
 (True ∧
 True ∧
 True ∧
 True ∧
 True ∧
 True) ∧
 SubB
 (.cons
 (1 : Nat)
 (.vec
 true
 (1 :
 Nat)
 man man
 fun
 (i0 :
 Nat) =>
 .sc
 (Value.int
 IntKind.i64
 (maf
 i0)))
 (.cons
 (1 :
 Nat)
 (.sc
 (Value.int
 IntKind.i64
 mba))
 (.cons
 (1 :
 Nat)
 (.sc
 (Value.int
 IntKind.i64
 mbba))
 (.cons
 (1 :
 Nat)
 (.sc
 (Value.bool
 mbbba))
 (.cons
 (1 :
 Nat)
 (.sc
 (Value.int
 IntKind.i64
 mbbbba))
 .nil)))))
 (.cons
 (1 : Nat)
 (.vec
 true
 (1 :
 Nat)
 man man
 fun
 (i0 :
 Nat) =>
 .sc
 (Value.int
 IntKind.i64
 (maf
 i0)))
 (.cons
 (1 :
 Nat)
 (.sc
 (Value.int
 IntKind.i64
 mba))
 (.cons
 (1 :
 Nat)
 (.sc
 (Value.int
 IntKind.i64
 mbba))
 (.cons
 (1 :
 Nat)
 (.sc
 (Value.bool
 mbbba))
 (.cons
 (1 :
 Nat)
 (.sc
 (Value.int
 IntKind.i64
 mbbbba))
 .nil))))) ∧
 True) ∧
 L70_0
 ((↑man : Int) -
 (1 :
 Int)).toNat
 (fun (i : Nat) =>
 maf
 (plus
 (Int.toNat
 (1 : Int))
 i))
 (↑((↑man : Int) -
 (1 :
 Int)).toNat :
 Int)
 (0 : Int) man maf
 mba mbba mbbba
 mbbbba res)) ∧
 (decide
 ((if true = true then
 if mbbbba > mba then mbbbba else mba
 else
 if mbbbba < mba then mbbbba else mba) >
 (65536 : Int)) =
 !false →
 true = true ∧
 (!false) = !false ∧
 true = true ∧
 (!false) = !false ∧
 true = true ∧
 True ∧
 true = true ∧
 True ∧
 True ∧
 ((True ∧
 Sub
 (.sc
 (Value.bool
 false))
 (.sc
 (Value.bool
 false)) ∧
 True) ∧
 True) ∧
 Sub
 (.sc
 (.bool false))
 res ∧
 SubOut [] [])) ∧
 (decide
 ((if false = true then
 if
 mbba >
 if false = true then if mbbbba > mba then mbbbba else mba
 else if mbbbba < mba then mbbbba else mba then
 mbba
 else
 if false = true then if mbbbba > mba then mbbbba else mba
 else if mbbbba < mba then mbbbba else mba
 else
 if
 mbba <
 if false = true then if mbbbba > mba then mbbbba else mba
 else if mbbbba < mba then mbbbba else mba then
 mbba
 else
 if false = true then if mbbbba > mba then mbbbba else mba
 else if mbbbba < mba then mbbbba else mba) <
 (0 : Int)) =
 !false →
 true = true ∧
 (!false) = !false ∧
 true = true ∧
 (!false) = !false ∧
 true = true ∧
 (!false) = !false ∧
 true = true ∧
 (!false) = !false ∧
 true = true ∧
 (!false) = !false ∧
 true = true ∧
 True ∧
 True ∧
 true = !false ∧
 true = true ∧
 (!false) = !false ∧
 true = true ∧
 (!false) = !false ∧
 true = true ∧
 True ∧
 true = true ∧
 True ∧
 True ∧
 ((True ∧
 Sub
 (.sc
 (.bool false))
 (.sc
 (Value.bool
 false)) ∧
 True) ∧
 True) ∧
 Sub (.sc (.bool false))
 res ∧
 SubOut [] [])) ∧
 ((maf (Int.toNat (0 : Int)) != (0 : Int)) = !false →
 true = true ∧
 (!false) = !false ∧
 true = true ∧
 (!false) = !false ∧
 true = true ∧
 (!false) = !false ∧
 true = true ∧
 (!false) = !false ∧
 true = true ∧
 (!false) = !false ∧
 true = true ∧
 (!false) = !false ∧
 true = true ∧
 (!false) = !false ∧
 true = true ∧
 True ∧
 True ∧
 true = !false ∧
 true = true ∧
 (!false) = !false ∧
 true = true ∧
 (!false) = !false ∧
 true = true ∧
 (!false) = !false ∧
 true = true ∧
 (!false) = !false ∧
 true = true ∧
 (!false) = !false ∧
 true = true ∧
 True ∧
 True ∧
 true = !false ∧
 true = true ∧
 (!false) = !false ∧
 true = true ∧
 (!false) = !false ∧
 true = true ∧
 True ∧
 true = true ∧
 True ∧
 True ∧
 ((True ∧
 Sub
 (.sc
 (.bool false))
 (.sc
 (.bool false)) ∧
 True) ∧
 True) ∧
 Sub (.sc (.bool false))
 res ∧
 SubOut [] [])) ∧
 (((↑man : Int) == (0 : Int)) = !false →
 true = true ∧
 (!false) = !false ∧
 true = true ∧
 (!false) = !false ∧
 true = true ∧
 (!false) = !false ∧
 true = true ∧
 (!false) = !false ∧
 true = true ∧
 True ∧
 True ∧
 true = !false ∧
 true = true ∧
 (!false) = !false ∧
 true = true ∧
 (!false) = !false ∧
 true = true ∧
 (!false) = !false ∧
 true = true ∧
 (!false) = !false ∧
 true = true ∧
 (!false) = !false ∧
 true = true ∧
 (!false) = !false ∧
 true = true ∧
 (!false) = !false ∧
 true = true ∧
 True ∧
 True ∧
 true = !false ∧
 true = true ∧
 (!false) = !false ∧
 true = true ∧
 (!false) = !false ∧
 true = true ∧
 (!false) = !false ∧
 true = true ∧
 (!false) = !false ∧
 true = true ∧
 (!false) = !false ∧
 true = true ∧
 True ∧
 True ∧
 true = !false ∧
 true = true ∧
 (!false) = !false ∧
 true = true ∧
 (!false) = !false ∧
 true = true ∧
 True ∧
 true = true ∧
 True ∧
 True ∧
 ((True ∧
 Sub (.sc (.bool false))
 (.sc
 (.bool false)) ∧
 True) ∧
 True) ∧
 Sub (.sc (.bool false))
 res ∧
 SubOut [] []) from
 ⟨trivial, ⟨trivial, ⟨trivial, ⟨⟨rfl, trivial⟩, ⟨trivial, ⟨trivial, ⟨trivial, (And.elim (fun h7 k7 => ⟨(fun x8 => (fun h8 => ⟨trivial, ⟨rfl, ⟨⟨rfl, trivial⟩, ⟨rfl, (And.elim (fun h13 k13 => ⟨(And.elim (fun h14 k14 => ⟨h14, k14⟩) h13), ⟨rfl, ⟨trivial, ⟨rfl, ⟨trivial, ⟨trivial, ⟨trivial, (And.elim (fun h20 k20 => ⟨(fun x21 => (fun h21 => ⟨trivial, ⟨rfl, ⟨⟨rfl, trivial⟩, ⟨rfl, ⟨trivial, ⟨rfl, ⟨⟨rfl, trivial⟩, ⟨rfl, ⟨trivial, ⟨rfl, ⟨⟨rfl, trivial⟩, ⟨rfl, ⟨trivial, ⟨rfl, ⟨trivial, ⟨trivial, ⟨trivial, (And.elim (fun h39 k39 => ⟨(fun x40 => (fun h40 => ⟨trivial, ⟨rfl, ⟨⟨rfl, trivial⟩, ⟨rfl, ⟨trivial, ⟨rfl, ⟨⟨rfl, trivial⟩, ⟨rfl, ⟨trivial, ⟨rfl, ⟨trivial, ⟨trivial, ⟨trivial, (And.elim (fun h54 k54 => ⟨(fun x55 => (fun h55 => ⟨trivial, ⟨rfl, ⟨⟨rfl, trivial⟩, ⟨rfl, ⟨trivial, ⟨trivial, (And.elim (fun h62 k62 => ⟨(fun x63 => (fun h63 => ⟨trivial, ⟨trivial, ⟨⟨⟨trivial, ⟨Sub.refl _, trivial⟩⟩, trivial⟩, ((fun h67 => ⟨h67, trivial⟩) h63)⟩⟩⟩) (h62 x63)), (fun x63 => (fun h63 => ⟨trivial, ⟨⟨rfl, trivial⟩, (And.elim (fun h66 k66 => ⟨(And.elim (fun h67 k67 => ⟨h67, (And.elim (fun h68 k68 => ⟨h68, k68⟩) k67)⟩) h66), ⟨trivial, ⟨trivial, (And.elim (fun h69 k69 => ⟨((fun h70 => ⟨⟨trivial, ⟨Sub.refl _, ⟨trivial, ((fun h74 => ⟨h74, ⟨trivial, ⟨Sub.refl _, ⟨trivial, ⟨Sub.refl _, trivial⟩⟩⟩⟩⟩) h70)⟩⟩⟩, ⟨⟨trivial, ⟨trivial, ⟨trivial, ⟨trivial, ⟨trivial, trivial⟩⟩⟩⟩⟩, ⟨SubB.refl _, trivial⟩⟩⟩) h69), k69⟩) k66)⟩⟩⟩) h63)⟩⟩) (k62 x63))⟩) h55)⟩⟩⟩⟩⟩⟩) (h54 x55)), (fun x55 => (fun h55 => ⟨rfl, ⟨rfl, ⟨rfl, ⟨rfl, ⟨rfl, ⟨trivial, ⟨rfl, ⟨trivial, ⟨trivial, ⟨⟨⟨trivial, ⟨Sub.refl _, trivial⟩⟩, trivial⟩, ((fun h66 => ⟨h66, trivial⟩) h55)⟩⟩⟩⟩⟩⟩⟩⟩⟩⟩) (k54 x55))⟩) h40)⟩⟩⟩⟩⟩⟩⟩⟩⟩⟩⟩⟩⟩) (h39 x40)), (fun x40 => (fun h40 => ⟨rfl, ⟨rfl, ⟨rfl, ⟨rfl, ⟨rfl, ⟨rfl, ⟨rfl, ⟨rfl, ⟨rfl, ⟨rfl, ⟨rfl, ⟨trivial, ⟨trivial, ⟨rfl, ⟨rfl, ⟨rfl, ⟨rfl, ⟨rfl, ⟨rfl, ⟨trivial, ⟨rfl, ⟨trivial, ⟨trivial, ⟨⟨⟨trivial, ⟨Sub.refl _, trivial⟩⟩, trivial⟩, ((fun h65 => ⟨h65, trivial⟩) h40)⟩⟩⟩⟩⟩⟩⟩⟩⟩⟩⟩⟩⟩⟩⟩⟩⟩⟩⟩⟩⟩⟩⟩⟩) (k39 x40))⟩) h21)⟩⟩⟩⟩⟩⟩⟩⟩⟩⟩⟩⟩⟩⟩⟩⟩⟩) (h20 x21)), (fun x21 => (fun h21 => ⟨rfl, ⟨rfl, ⟨rfl, ⟨rfl, ⟨rfl, ⟨rfl, ⟨rfl, ⟨rfl, ⟨rfl, ⟨rfl, ⟨rfl, ⟨rfl, ⟨rfl, ⟨rfl, ⟨rfl, ⟨trivial, ⟨trivial, ⟨rfl, ⟨rfl, ⟨rfl, ⟨rfl, ⟨rfl, ⟨rfl, ⟨rfl, ⟨rfl, ⟨rfl, ⟨rfl, ⟨rfl, ⟨rfl, ⟨trivial, ⟨trivial, ⟨rfl, ⟨rfl, ⟨rfl, ⟨rfl, ⟨rfl, ⟨rfl, ⟨trivial, ⟨rfl, ⟨trivial, ⟨trivial, ⟨⟨⟨trivial, ⟨Sub.refl _, trivial⟩⟩, trivial⟩, ((fun h64 => ⟨h64, trivial⟩) h21)⟩⟩⟩⟩⟩⟩⟩⟩⟩⟩⟩⟩⟩⟩⟩⟩⟩⟩⟩⟩⟩⟩⟩⟩⟩⟩⟩⟩⟩⟩⟩⟩⟩⟩⟩⟩⟩⟩⟩⟩⟩⟩) (k20 x21))⟩) k13)⟩⟩⟩⟩⟩⟩⟩) h8)⟩⟩⟩⟩) (h7 x8)), (fun x8 => (fun h8 => ⟨rfl, ⟨rfl, ⟨rfl, ⟨rfl, ⟨rfl, ⟨rfl, ⟨rfl, ⟨rfl, ⟨rfl, ⟨trivial, ⟨trivial, ⟨rfl, ⟨rfl, ⟨rfl, ⟨rfl, ⟨rfl, ⟨rfl, ⟨rfl, ⟨rfl, ⟨rfl, ⟨rfl, ⟨rfl, ⟨rfl, ⟨rfl, ⟨rfl, ⟨rfl, ⟨rfl, ⟨trivial, ⟨trivial, ⟨rfl, ⟨rfl, ⟨rfl, ⟨rfl, ⟨rfl, ⟨rfl, ⟨rfl, ⟨rfl, ⟨rfl, ⟨rfl, ⟨rfl, ⟨rfl, ⟨trivial, ⟨trivial, ⟨rfl, ⟨rfl, ⟨rfl, ⟨rfl, ⟨rfl, ⟨rfl, ⟨trivial, ⟨rfl, ⟨trivial, ⟨trivial, ⟨⟨⟨trivial, ⟨Sub.refl _, trivial⟩⟩, trivial⟩, ((fun h63 => ⟨h63, trivial⟩) h8)⟩⟩⟩⟩⟩⟩⟩⟩⟩⟩⟩⟩⟩⟩⟩⟩⟩⟩⟩⟩⟩⟩⟩⟩⟩⟩⟩⟩⟩⟩⟩⟩⟩⟩⟩⟩⟩⟩⟩⟩⟩⟩⟩⟩⟩⟩⟩⟩⟩⟩⟩⟩⟩⟩) (k7 x8))⟩) h)⟩⟩⟩⟩⟩⟩⟩)
theorem r70_0 (t41n : Nat) (t41f : Nat → Int) (t42 t43 : Int) (b0an : Nat) (b0af : Nat → Int) (b0ba b0bba : Int) (b0bbba : Bool) (b0bbbba : Int) (res : AV)
 (h : (decide (t43 < t42) = true →
 ((0 : Int) ≤ t43 ∧ t43 < (↑t41n : Int)) ∧
 ((0 : Int) ≤ t43 ∧ t43 < (↑b0an : Int)) ∧
 (decide (t41f t43.toNat ≤ b0af t43.toNat) = false →
 (decide (t41f t43.toNat > (4096 : Int)) = true → Sub (.sc (.bool false)) res) ∧
 (decide (t41f t43.toNat > (4096 : Int)) = false →
 L70_0 t41n t41f t42 (IntKind.i64.wrap (t43 + (1 : Int))) b0an b0af b0ba b0bba b0bbba b0bbbba res)) ∧
 (decide (t41f t43.toNat ≤ b0af t43.toNat) = !false → Sub (.sc (.bool false)) res)) ∧
 (decide (t43 < t42) = false → Sub (.sc (.bool true)) res)) :
 L70_0 t41n t41f t42 t43 b0an b0af b0ba b0bba b0bbba b0bbbba res :=
 rule Go.Am.Seat.tabOk 70 [] Go.Proofs.Try.f70 hf70 [1, 1, 0, 1, 0, 0] (s70_0 t41n t41f t42 t43 b0an b0af b0ba b0bba b0bbba b0bbbba) (m70_0 t41n t41f t42 t43 b0an b0af b0ba b0bba b0bbba b0bbbba) res [] 400
 ((((Orc.fin (.sc (.bool false)) [] []).br
 (Orc.cut (nat_lit 4) (s70_0 t41n t41f t42 (IntKind.i64.wrap (t43 + (1 : Int))) b0an b0af b0ba b0bba b0bbba b0bbbba)
 (m70_0 t41n t41f t42 (IntKind.i64.wrap (t43 + (1 : Int))) b0an b0af b0ba b0bba b0bbba b0bbbba) [((1000 : Nat), some (1000 : Nat))])).yes.br
 (Orc.fin (.sc (.bool false)) [] []).yes.no).br
 (Orc.fin (.sc (.bool true)) [] [])) _ _ (by kernel_rfl) (by kernel_rfl) (show True ∧
 (decide (t43 < t42) = true →
 True ∧
 ((0 : Int) ≤ t43 ∧ t43 < (↑t41n : Int)) ∧
 True ∧
 True ∧
 True ∧
 True ∧
 True ∧
 ((0 : Nat) = plus (0 : Nat) (0 : Nat) ∧ True) ∧
 True ∧
 ((0 : Int) ≤ t43 ∧ t43 < (↑b0an : Int)) ∧
 True ∧
 True ∧
 True ∧
 (decide (t41f t43.toNat ≤ b0af t43.toNat) = false →
 True ∧
 false = false ∧
 True ∧
 True ∧
 (decide (t41f t43.toNat > (4096 : Int)) = true →
 True ∧
 True ∧
 ((True ∧ Sub (.sc (.bool false)) (.sc (.bool false)) ∧ True) ∧ True) ∧
 Sub (.sc (.bool false)) res ∧ SubOut [] []) ∧
 (decide (t41f t43.toNat > (4096 : Int)) = false →
 True ∧
 True ∧
 ((True ∧
 Sub (.pt 1000 [] (0 : Nat)) (.pt 1000 [] (0 : Nat)) ∧
 True ∧
 Sub (.vec true 1 t41n t41n fun (i0 : Nat) => .sc (.int .i64 (t41f i0)))
 (.vec true 1 t41n t41n fun (i0 : Nat) => .sc (.int .i64 (t41f i0))) ∧
 True ∧
 Sub (.sc (.int .i64 t42)) (.sc (.int .i64 t42)) ∧
 True ∧
 Sub (.sc (.int .i64 (IntKind.i64.wrap (t43 + (1 : Int)))))
 (.sc (.int .i64 (IntKind.i64.wrap (t43 + (1 : Int))))) ∧
 True) ∧
 (True ∧ True ∧ True ∧ True ∧ True ∧ True) ∧
 SubB
 (.cons 1
 (.vec true 1 b0an b0an fun (i0 : Nat) => .sc (.int .i64 (b0af i0)))
 (.cons 1 (.sc (.int .i64 b0ba))
 (.cons 1 (.sc (.int .i64 b0bba))
 (.cons 1 (.sc (.bool b0bbba))
 (.cons 1 (.sc (.int .i64 b0bbbba)) .nil)))))
 (.cons 1
 (.vec true 1 b0an b0an fun (i0 : Nat) => .sc (.int .i64 (b0af i0)))
 (.cons 1 (.sc (.int .i64 b0ba))
 (.cons 1 (.sc (.int .i64 b0bba))
 (.cons 1 (.sc (.bool b0bbba))
 (.cons 1 (.sc (.int .i64 b0bbbba)) .nil))))) ∧
 True) ∧
 L70_0 t41n t41f t42 (IntKind.i64.wrap (t43 + (1 : Int))) b0an b0af b0ba b0bba b0bbba b0bbbba res)) ∧
 (decide (t41f t43.toNat ≤ b0af t43.toNat) = !false →
 true = true ∧
 (!false) = !false ∧
 true = true ∧
 True ∧
 true = true ∧
 True ∧
 True ∧
 ((True ∧ Sub (.sc (.bool false)) (.sc (.bool false)) ∧ True) ∧ True) ∧
 Sub (.sc (.bool false)) res ∧ SubOut [] [])) ∧
 (decide (t43 < t42) = false →
 True ∧ True ∧ ((True ∧ Sub (.sc (.bool true)) (.sc (.bool true)) ∧ True) ∧ True) ∧ Sub (.sc (.bool true)) res ∧ SubOut [] []) from
 ⟨trivial, (And.elim (fun h1 k1 => ⟨(fun x2 => (fun h2 => ⟨trivial, (And.elim (fun h4 k4 => ⟨(And.elim (fun h5 k5 => ⟨h5, k5⟩) h4), ⟨trivial, ⟨trivial, ⟨trivial, ⟨trivial, ⟨trivial, ⟨⟨rfl, trivial⟩, ⟨trivial, (And.elim (fun h12 k12 => ⟨(And.elim (fun h13 k13 => ⟨h13, k13⟩) h12), ⟨trivial, ⟨trivial, ⟨trivial, (And.elim (fun h16 k16 => ⟨(fun x17 => (fun h17 => ⟨trivial, ⟨rfl, ⟨trivial, ⟨trivial, (And.elim (fun h22 k22 => ⟨(fun x23 => (fun h23 => ⟨trivial, ⟨trivial, ⟨⟨⟨trivial, ⟨Sub.refl _, trivial⟩⟩, trivial⟩, ((fun h27 => ⟨h27, trivial⟩) h23)⟩⟩⟩) (h22 x23)), (fun x23 => (fun h23 => ⟨trivial, ⟨trivial, ⟨⟨⟨trivial, ⟨Sub.refl _, ⟨trivial, ⟨Sub.refl _, ⟨trivial, ⟨Sub.refl _, ⟨trivial, ⟨Sub.refl _, trivial⟩⟩⟩⟩⟩⟩⟩⟩, ⟨⟨trivial, ⟨trivial, ⟨trivial, ⟨trivial, ⟨trivial, trivial⟩⟩⟩⟩⟩, ⟨SubB.refl _, trivial⟩⟩⟩, h23⟩⟩⟩) (k22 x23))⟩) h17)⟩⟩⟩⟩) (h16 x17)), (fun x17 => (fun h17 => ⟨rfl, ⟨rfl, ⟨rfl, ⟨trivial, ⟨rfl, ⟨trivial, ⟨trivial, ⟨⟨⟨trivial, ⟨Sub.refl _, trivial⟩⟩, trivial⟩, ((fun h26 => ⟨h26, trivial⟩) h17)⟩⟩⟩⟩⟩⟩⟩⟩) (k16 x17))⟩) k12)⟩⟩⟩⟩) k4)⟩⟩⟩⟩⟩⟩⟩⟩) h2)⟩) (h1 x2)), (fun x2 => (fun h2 => ⟨trivial, ⟨trivial, ⟨⟨⟨trivial, ⟨Sub.refl _, trivial⟩⟩, trivial⟩, ((fun h6 => ⟨h6, trivial⟩) h2)⟩⟩⟩) (k1 x2))⟩) h)⟩)
theorem hf71 : Go.Proofs.Try.prog.funcs[71]? = some Go.Proofs.Try.f71 := by kernel_rfl
abbrev s71_e (xn : Nat) (xfa xfba xfbba : Nat → Int) (count : Int) : List (Nat × AV) := [(0, (.vec true 3 xn xn (fun i0 => (.cons 1 (.sc (.int .i64 (xfa i0))) (.cons 1 (.sc (.int .i64 (xfba i0))) (.cons 1 (.sc (.int .i64 (xfbba i0))) .nil)))))), (1, (.sc (.int .i64 count)))]
abbrev m71_e (xn : Nat) (xfa xfba xfbba : Nat → Int) (count : Int) : List (Nat × Nat × AV) := []
def L71_e (xn : Nat) (xfa xfba xfbba : Nat → Int) (count : Int) (res : AV) : Prop := Goes ⟨Go.Proofs.Try.prog, 71, [], res, []⟩ (place Go.Proofs.Try.f71 []) (s71_e xn xfa xfba xfbba count) (m71_e xn xfa xfba xfbba count)
abbrev s71_0 (xn : Nat) (xfa xfba xfbba : Nat → Int) (count : Int) : List (Nat × AV) := [(0, (.vec true 3 xn xn (fun i0 => (.cons 1 (.sc (.int .i64 (xfa i0))) (.cons 1 (.sc (.int .i64 (xfba i0))) (.cons 1 (.sc (.int .i64 (xfbba i0))) .nil)))))), (1, (.sc (.int .i64 count)))]
abbrev m71_0 (xn : Nat) (xfa xfba xfbba : Nat → Int) (count : Int) : List (Nat × Nat × AV) := []
def L71_0 (xn : Nat) (xfa xfba xfbba : Nat → Int) (count : Int) (res : AV) : Prop := Goes ⟨Go.Proofs.Try.prog, 71, [], res, []⟩ (place Go.Proofs.Try.f71 [1, 1]) (s71_0 xn xfa xfba xfbba count) (m71_0 xn xfa xfba xfbba count)
abbrev s71_1 (xn : Nat) (xfa xfba xfbba : Nat → Int) (lo : Int) : List (Nat × AV) := [(0, (.vec true 3 xn xn (fun i0 => (.cons 1 (.sc (.int .i64 (xfa i0))) (.cons 1 (.sc (.int .i64 (xfba i0))) (.cons 1 (.sc (.int .i64 (xfbba i0))) .nil)))))), (6, (.sc (.int .u64 lo)))]
abbrev m71_1 (xn : Nat) (xfa xfba xfbba : Nat → Int) (lo : Int) : List (Nat × Nat × AV) := []
def L71_1 (xn : Nat) (xfa xfba xfbba : Nat → Int) (lo : Int) (res : AV) : Prop := Goes ⟨Go.Proofs.Try.prog, 71, [], res, []⟩ (place Go.Proofs.Try.f71 [1, 1, 1, 1]) (s71_1 xn xfa xfba xfbba lo) (m71_1 xn xfa xfba xfbba lo)
abbrev s71_2 (newslicen : Nat) (n : Int) (b0n : Nat) (b0fa b0fba b0fbba : Nat → Int) : List (Nat × AV) := [(7, (.rf 1000 3 0 newslicen)), (8, (.sc (.int .i64 n)))]
abbrev m71_2 (newslicen : Nat) (n : Int) (b0n : Nat) (b0fa b0fba b0fbba : Nat → Int) : List (Nat × Nat × AV) := [(1000, 81, (.ar b0n 3 (fun i0 => (.cons 1 (.sc (.int .i64 (b0fa i0))) (.cons 1 (.sc (.int .i64 (b0fba i0))) (.cons 1 (.sc (.int .i64 (b0fbba i0))) .nil))))))]
def L71_2 (newslicen : Nat) (n : Int) (b0n : Nat) (b0fa b0fba b0fbba : Nat → Int) (res : AV) : Prop := Goes ⟨Go.Proofs.Try.prog, 71, [], res, []⟩ (place Go.Proofs.Try.f71 [1, 1, 1, 1, 1, 1, 0, 0, 0]) (s71_2 newslicen n b0n b0fa b0fba b0fbba) (m71_2 newslicen n b0n b0fa b0fba b0fbba)
theorem o71 (xn : Nat) (xfa xfba xfbba : Nat → Int) (count : Int) (res : AV) (hnew : newOnly res) (h : L71_e xn xfa xfba xfbba count res) : Ok Go.Proofs.Try.prog 71 [(.vec true 3 xn xn (fun i0 => (.cons 1 (.sc (.int .i64 (xfa i0))) (.cons 1 (.sc (.int .i64 (xfba i0))) (.cons 1 (.sc (.int .i64 (xfbba i0))) .nil))))), (.sc (.int .i64 count))] [] res [] :=
 okRule2 71 Go.Proofs.Try.f71 hf71 [(.vec true 3 xn xn (fun i0 => (.cons 1 (.sc (.int .i64 (xfa i0))) (.cons 1 (.sc (.int .i64 (xfba i0))) (.cons 1 (.sc (.int .i64 (xfbba i0))) .nil))))), (.sc (.int .i64 count))] [] res [] [] rfl (by kernel_rfl) (by kernel_rfl) (by kernel_rfl) ⟨hnew, by simp⟩ (L71_e xn xfa xfba xfbba count res) (by kernel_rfl) h
theorem r71_e (xn : Nat) (xfa xfba xfbba : Nat → Int) (count : Int) (res : AV)
 (h : decide (count < (0 : Int)) = false ∧ L71_0 xn xfa xfba xfbba count res) :
 L71_e xn xfa xfba xfbba count res :=
 rule Go.Am.Seat.tabOk 71 [] Go.Proofs.Try.f71 hf71 [] (s71_e xn xfa xfba xfbba count) (m71_e xn xfa xfba xfbba count) res [] 400
 ((Orc.cut (nat_lit 1) (s71_0 xn xfa xfba xfbba count) (m71_0 xn xfa xfba xfbba count) []).no) _ _ (by kernel_rfl) (by kernel_rfl) (show True ∧
 True ∧
 True ∧
 decide (count < (0 : Int)) = false ∧
 ((True ∧
 Sub
 (.vec true 3 xn xn fun (i0 : Nat) =>
 .cons 1 (.sc (.int .i64 (xfa i0)))
 (.cons 1 (.sc (.int .i64 (xfba i0))) (.cons 1 (.sc (.int .i64 (xfbba i0))) .nil)))
 (.vec true 3 xn xn fun (i0 : Nat) =>
 .cons 1 (.sc (.int .i64 (xfa i0)))
 (.cons 1 (.sc (.int .i64 (xfba i0))) (.cons 1 (.sc (.int .i64 (xfbba i0))) .nil))) ∧
 True ∧ Sub (.sc (.int .i64 count)) (.sc (.int .i64 count)) ∧ True) ∧
 True) ∧
 L71_0 xn xfa xfba xfbba count res from
 ⟨trivial, ⟨trivial, ⟨trivial, (And.elim (fun h3 k3 => ⟨h3, ⟨⟨⟨trivial, ⟨Sub.refl _, ⟨trivial, ⟨Sub.refl _, trivial⟩⟩⟩⟩, trivial⟩, k3⟩⟩) h)⟩⟩⟩)
theorem r71_0 (xn : Nat) (xfa xfba xfbba : Nat → Int) (count : Int) (res : AV)
 (h : ∃ (r : Int × Int),
 Ok Proofs.Try.prog (96 : Nat) [.sc (.int .u64 (IntKind.u64.wrap (↑xn : Int))), .sc (.int .u64 (IntKind.u64.wrap count))] []
 (AV.cons 1 (.sc (.int .u64 r.1)) (.cons 1 (.sc (.int .u64 r.2)) .nil)).tup [] ∧
 decide (r.1 > (0 : Int)) = false ∧ decide (r.2 > (9223372036854775807 : Int)) = false ∧ L71_1 xn xfa xfba xfbba r.2 res) :
 L71_0 xn xfa xfba xfbba count res :=
 rule Go.Am.Seat.tabOk 71 [] Go.Proofs.Try.f71 hf71 [1, 1] (s71_0 xn xfa xfba xfbba count) (m71_0 xn xfa xfba xfbba count) res [] 400
 (Orc.call [] []
 (fun (r96 : Int × Int) => (AV.cons 1 (.sc (.int .u64 r96.1)) (.cons 1 (.sc (.int .u64 r96.2)) .nil)).tup)
 (fun (r96 : Int × Int) => []) fun (r96 : Int × Int) => (Orc.cut (nat_lit 1) (s71_1 xn xfa xfba xfbba r96.2) (m71_1 xn xfa xfba xfbba r96.2) []).no.yes.yes) _ _ (by kernel_rfl) (by kernel_rfl) (show True ∧
 True ∧
 True ∧
 True ∧
 True ∧
 ∃ (r : Int × Int),
 ((True ∧ True ∧ True) ∧
 True ∧
 Ok Proofs.Try.prog (96 : Nat)
 [.sc (.int .u64 (IntKind.u64.wrap (↑xn : Int))), .sc (.int .u64 (IntKind.u64.wrap count))] []
 (AV.cons 1 (.sc (.int .u64 r.1)) (.cons 1 (.sc (.int .u64 r.2)) .nil)).tup []) ∧
 True ∧
 True ∧
 True ∧
 True ∧
 True ∧
 True ∧
 True ∧
 True ∧
 decide (r.1 > (0 : Int)) = false ∧
 True ∧
 false = false ∧
 True ∧
 True ∧
 decide (r.2 > (9223372036854775807 : Int)) = false ∧
 ((True ∧
 Sub
 (.vec true 3 xn xn fun (i0 : Nat) =>
 .cons 1 (.sc (.int .i64 (xfa i0)))
 (.cons 1 (.sc (.int .i64 (xfba i0)))
 (.cons 1 (.sc (.int .i64 (xfbba i0))) .nil)))
 (.vec true 3 xn xn fun (i0 : Nat) =>
 .cons 1 (.sc (.int .i64 (xfa i0)))
 (.cons 1 (.sc (.int .i64 (xfba i0)))
 (.cons 1 (.sc (.int .i64 (xfbba i0))) .nil))) ∧
 True ∧ Sub (.sc (.int .u64 r.2)) (.sc (.int .u64 r.2)) ∧ True) ∧
 True) ∧
 L71_1 xn xfa xfba xfbba r.2 res from
 ⟨trivial, ⟨trivial, ⟨trivial, ⟨trivial, ⟨trivial, (Exists.elim h fun x5 h5 => ⟨x5, (And.elim (fun h6 k6 => ⟨⟨⟨trivial, ⟨trivial, trivial⟩⟩, ⟨trivial, h6⟩⟩, ⟨trivial, ⟨trivial, ⟨trivial, ⟨trivial, ⟨trivial, ⟨trivial, ⟨trivial, ⟨trivial, (And.elim (fun h15 k15 => ⟨h15, ⟨trivial, ⟨rfl, ⟨trivial, ⟨trivial, (And.elim (fun h20 k20 => ⟨h20, ⟨⟨⟨trivial, ⟨Sub.refl _, ⟨trivial, ⟨Sub.refl _, trivial⟩⟩⟩⟩, trivial⟩, k20⟩⟩) k15)⟩⟩⟩⟩⟩) k6)⟩⟩⟩⟩⟩⟩⟩⟩⟩) h5)⟩)⟩⟩⟩⟩⟩)
theorem r71_1 (xn : Nat) (xfa xfba xfbba : Nat → Int) (lo : Int) (res : AV)
 (h : ((0 : Int) ≤ IntKind.i64.wrap lo ∧
 IntKind.i64.wrap lo ≤ IntKind.i64.wrap lo ∧
 (IntKind.i64.wrap lo).toNat * (24 : Nat) ≤ (140737488355328 : Nat) ∧ IntKind.i64.wrap lo ≤ (140737488355328 : Int)) ∧
 (0 : Nat) + (IntKind.i64.wrap lo).toNat ≤ (IntKind.i64.wrap lo).toNat ∧
 L71_2 (IntKind.i64.wrap lo).toNat (↑(xn.min (IntKind.i64.wrap lo).toNat) : Int) (IntKind.i64.wrap lo).toNat
 (fun (i : Nat) => bif Nat.ble (0 : Nat) i && i.blt ((0 : Nat) + xn.min (IntKind.i64.wrap lo).toNat) then xfa (i - (0 : Nat)) else (0 : Int))
 (fun (i : Nat) => bif Nat.ble (0 : Nat) i && i.blt ((0 : Nat) + xn.min (IntKind.i64.wrap lo).toNat) then xfba (i - (0 : Nat)) else (0 : Int))
 (fun (i : Nat) => bif Nat.ble (0 : Nat) i && i.blt ((0 : Nat) + xn.min (IntKind.i64.wrap lo).toNat) then xfbba (i - (0 : Nat)) else (0 : Int)) res) :
 L71_1 xn xfa xfba xfbba lo res :=
 rule Go.Am.Seat.tabOk 71 [] Go.Proofs.Try.f71 hf71 [1, 1, 1, 1] (s71_1 xn xfa xfba xfbba lo) (m71_1 xn xfa xfba xfbba lo) res [] 400
 (Orc.cut (nat_lit 7)
 (s71_2 (IntKind.i64.wrap lo).toNat (↑(xn.min (IntKind.i64.wrap lo).toNat) : Int) (IntKind.i64.wrap lo).toNat
 (fun (i : Nat) => bif Nat.ble (0 : Nat) i && i.blt ((0 : Nat) + xn.min (IntKind.i64.wrap lo).toNat) then xfa (i - (0 : Nat)) else (0 : Int))
 (fun (i : Nat) => bif Nat.ble (0 : Nat) i && i.blt ((0 : Nat) + xn.min (IntKind.i64.wrap lo).toNat) then xfba (i - (0 : Nat)) else (0 : Int))
 fun (i : Nat) => bif Nat.ble (0 : Nat) i && i.blt ((0 : Nat) + xn.min (IntKind.i64.wrap lo).toNat) then xfbba (i - (0 : Nat)) else (0 : Int))
 (m71_2 (IntKind.i64.wrap lo).toNat (↑(xn.min (IntKind.i64.wrap lo).toNat) : Int) (IntKind.i64.wrap lo).toNat
 (fun (i : Nat) => bif Nat.ble (0 : Nat) i && i.blt ((0 : Nat) + xn.min (IntKind.i64.wrap lo).toNat) then xfa (i - (0 : Nat)) else (0 : Int))
 (fun (i : Nat) => bif Nat.ble (0 : Nat) i && i.blt ((0 : Nat) + xn.min (IntKind.i64.wrap lo).toNat) then xfba (i - (0 : Nat)) else (0 : Int))
 fun (i : Nat) => bif Nat.ble (0 : Nat) i && i.blt ((0 : Nat) + xn.min (IntKind.i64.wrap lo).toNat) then xfbba (i - (0 : Nat)) else (0 : Int))
 [((1000 : Nat), some (30 : Nat))]) _ _ (by kernel_rfl) (by kernel_rfl) (show True ∧
 True ∧
 ((0 : Int) ≤ IntKind.i64.wrap lo ∧
 IntKind.i64.wrap lo ≤ IntKind.i64.wrap lo ∧
 (IntKind.i64.wrap lo).toNat * (24 : Nat) ≤ (140737488355328 : Nat) ∧ IntKind.i64.wrap lo ≤ (140737488355328 : Int)) ∧
 True ∧
 True ∧
 True ∧
 ((0 : Nat) + (IntKind.i64.wrap lo).toNat ≤ (IntKind.i64.wrap lo).toNat ∧ True) ∧
 True ∧
 ((True ∧
 Sub (.rf 1000 3 0 (IntKind.i64.wrap lo).toNat)
 (.rf 1000 3 0 (IntKind.i64.wrap lo).toNat) ∧
 True ∧
 Sub (.sc (.int .i64 (↑(xn.min (IntKind.i64.wrap lo).toNat) : Int)))
 (.sc (.int .i64 (↑(xn.min (IntKind.i64.wrap lo).toNat) : Int))) ∧
 True) ∧
 True ∧
 SubB
 (.ar (IntKind.i64.wrap lo).toNat (3 : Nat) fun (i : Nat) =>
 .cons 1
 (.sc
 (.int IntKind.i64
 (bif Nat.ble (0 : Nat) i && i.blt ((0 : Nat) + xn.min (IntKind.i64.wrap lo).toNat) then xfa (i - (0 : Nat)) else (0 : Int))))
 (.cons 1
 (.sc
 (.int IntKind.i64
 (bif Nat.ble (0 : Nat) i && i.blt ((0 : Nat) + xn.min (IntKind.i64.wrap lo).toNat) then xfba (i - (0 : Nat))
 else (0 : Int))))
 (.cons 1
 (.sc
 (.int IntKind.i64
 (bif Nat.ble (0 : Nat) i && i.blt ((0 : Nat) + xn.min (IntKind.i64.wrap lo).toNat) then xfbba (i - (0 : Nat))
 else (0 : Int))))
 .nil)))
 (.ar (IntKind.i64.wrap lo).toNat (3 : Nat) fun (i0 : Nat) =>
 .cons 1
 (.sc
 (.int IntKind.i64
 (bif Nat.ble (0 : Nat) i0 && i0.blt ((0 : Nat) + xn.min (IntKind.i64.wrap lo).toNat) then xfa (i0 - (0 : Nat))
 else (0 : Int))))
 (.cons 1
 (.sc
 (.int IntKind.i64
 (bif Nat.ble (0 : Nat) i0 && i0.blt ((0 : Nat) + xn.min (IntKind.i64.wrap lo).toNat) then xfba (i0 - (0 : Nat))
 else (0 : Int))))
 (.cons 1
 (.sc
 (.int IntKind.i64
 (bif Nat.ble (0 : Nat) i0 && i0.blt ((0 : Nat) + xn.min (IntKind.i64.wrap lo).toNat) then xfbba (i0 - (0 : Nat))
 else (0 : Int))))
 .nil))) ∧
 True) ∧
 L71_2 (IntKind.i64.wrap lo).toNat (↑(xn.min (IntKind.i64.wrap lo).toNat) : Int) (IntKind.i64.wrap lo).toNat
 (fun (i : Nat) => bif Nat.ble (0 : Nat) i && i.blt ((0 : Nat) + xn.min (IntKind.i64.wrap lo).toNat) then xfa (i - (0 : Nat)) else (0 : Int))
 (fun (i : Nat) =>
 bif Nat.ble (0 : Nat) i && i.blt ((0 : Nat) + xn.min (IntKind.i64.wrap lo).toNat) then xfba (i - (0 : Nat)) else (0 : Int))
 (fun (i : Nat) =>
 bif Nat.ble (0 : Nat) i && i.blt ((0 : Nat) + xn.min (IntKind.i64.wrap lo).toNat) then xfbba (i - (0 : Nat)) else (0 : Int))
 res from
 ⟨trivial, ⟨trivial, (And.elim (fun h2 k2 => ⟨(And.elim (fun h3 k3 => ⟨h3, (And.elim (fun h4 k4 => ⟨h4, (And.elim (fun h5 k5 => ⟨h5, k5⟩) k4)⟩) k3)⟩) h2), ⟨trivial, ⟨trivial, ⟨trivial, (And.elim (fun h6 k6 => ⟨((fun h7 => ⟨h7, trivial⟩) h6), ⟨trivial, ⟨⟨⟨trivial, ⟨Sub.refl _, ⟨trivial, ⟨Sub.refl _, trivial⟩⟩⟩⟩, ⟨trivial, ⟨SubB.refl _, trivial⟩⟩⟩, k6⟩⟩⟩) k2)⟩⟩⟩⟩) h)⟩⟩)
theorem r71_2 (newslicen : Nat) (n : Int) (b0n : Nat) (b0fa b0fba b0fbba : Nat → Int) (res : AV)
 (h : (decide (n < (↑newslicen : Int)) = true →
 ((0 : Int) ≤ n ∧ n ≤ (↑newslicen : Int) ∧ (0 : Nat) + (↑newslicen : Int).toNat ≤ b0n ∧ (n = (0 : Int) ∨ (0 : Nat) + n.toNat < b0n)) ∧
 ((0 : Int) ≤ (0 : Int) ∧ (0 : Int) ≤ n ∧ (0 : Nat) + n.toNat ≤ b0n ∧ ((0 : Int) = (0 : Int) ∨ (0 : Nat) + Int.toNat (0 : Int) < b0n)) ∧
 (plus (0 : Nat) n.toNat + ((↑newslicen : Int) - n).toNat ≤ b0n ∧ plus (0 : Nat) (Int.toNat (0 : Int)) + (n - (0 : Int)).toNat ≤ b0n) ∧
 L71_2 newslicen (IntKind.i64.wrap (n + (↑((n - (0 : Int)).toNat.min ((↑newslicen : Int) - n).toNat) : Int))) b0n
 (fun (i : Nat) =>
 bif (plus (0 : Nat) n.toNat).ble i && i.blt (plus (0 : Nat) n.toNat + (n - (0 : Int)).toNat.min ((↑newslicen : Int) - n).toNat) then
 b0fa (plus (0 : Nat) (Int.toNat (0 : Int)) + (i - plus (0 : Nat) n.toNat))
 else b0fa i)
 (fun (i : Nat) =>
 bif (plus (0 : Nat) n.toNat).ble i && i.blt (plus (0 : Nat) n.toNat + (n - (0 : Int)).toNat.min ((↑newslicen : Int) - n).toNat) then
 b0fba (plus (0 : Nat) (Int.toNat (0 : Int)) + (i - plus (0 : Nat) n.toNat))
 else b0fba i)
 (fun (i : Nat) =>
 bif (plus (0 : Nat) n.toNat).ble i && i.blt (plus (0 : Nat) n.toNat + (n - (0 : Int)).toNat.min ((↑newslicen : Int) - n).toNat) then
 b0fbba (plus (0 : Nat) (Int.toNat (0 : Int)) + (i - plus (0 : Nat) n.toNat))
 else b0fbba i)
 res) ∧
 (decide (n < (↑newslicen : Int)) = false →
 ((0 : Nat) + newslicen ≤ b0n ∧
 Sub
 (.vec false 3 newslicen (b0n - (0 : Nat)) fun (i : Nat) =>
 .cons 1 (.sc (.int .i64 (b0fa (plus (0 : Nat) i))))
 (.cons 1 (.sc (.int .i64 (b0fba (plus (0 : Nat) i))))
 (.cons 1 (.sc (.int .i64 (b0fbba (plus (0 : Nat) i)))) .nil)))
 (.vec false 3 newslicen newslicen fun (i : Nat) =>
 .cons 1 (.sc (.int .i64 (b0fa (plus (0 : Nat) i))))
 (.cons 1 (.sc (.int .i64 (b0fba (plus (0 : Nat) i))))
 (.cons 1 (.sc (.int .i64 (b0fbba (plus (0 : Nat) i)))) .nil)))) ∧
 Sub
 (.vec false 3 newslicen newslicen fun (i : Nat) =>
 .cons 1 (.sc (.int .i64 (b0fa (plus (0 : Nat) i))))
 (.cons 1 (.sc (.int .i64 (b0fba (plus (0 : Nat) i))))
 (.cons 1 (.sc (.int .i64 (b0fbba (plus (0 : Nat) i)))) .nil)))
 res)) :
 L71_2 newslicen n b0n b0fa b0fba b0fbba res :=
 rule Go.Am.Seat.tabOk 71 [] Go.Proofs.Try.f71 hf71 [1, 1, 1, 1, 1, 1, 0, 0, 0] (s71_2 newslicen n b0n b0fa b0fba b0fbba) (m71_2 newslicen n b0n b0fa b0fba b0fbba) res [] 400
 ((Orc.cut (nat_lit 5)
 (s71_2 newslicen (IntKind.i64.wrap (n + (↑(((IntKind.i64, n).2 - (0 : Int)).toNat.min ((↑newslicen : Int) - (IntKind.i64, n).2).toNat) : Int))) b0n
 (fun (i : Nat) =>
 bif
 (plus (0 : Nat) (IntKind.i64, n).2.toNat).ble i &&
 i.blt
 (plus (0 : Nat) (IntKind.i64, n).2.toNat +
 ((IntKind.i64, n).2 - (0 : Int)).toNat.min ((↑newslicen : Int) - (IntKind.i64, n).2).toNat) then
 b0fa (plus (0 : Nat) (Int.toNat (0 : Int)) + (i - plus (0 : Nat) (IntKind.i64, n).2.toNat))
 else b0fa i)
 (fun (i : Nat) =>
 bif
 (plus (0 : Nat) (IntKind.i64, n).2.toNat).ble i &&
 i.blt
 (plus (0 : Nat) (IntKind.i64, n).2.toNat +
 ((IntKind.i64, n).2 - (0 : Int)).toNat.min ((↑newslicen : Int) - (IntKind.i64, n).2).toNat) then
 b0fba (plus (0 : Nat) (Int.toNat (0 : Int)) + (i - plus (0 : Nat) (IntKind.i64, n).2.toNat))
 else b0fba i)
 fun (i : Nat) =>
 bif
 (plus (0 : Nat) (IntKind.i64, n).2.toNat).ble i &&
 i.blt
 (plus (0 : Nat) (IntKind.i64, n).2.toNat +
 ((IntKind.i64, n).2 - (0 : Int)).toNat.min ((↑newslicen : Int) - (IntKind.i64, n).2).toNat) then
 b0fbba (plus (0 : Nat) (Int.toNat (0 : Int)) + (i - plus (0 : Nat) (IntKind.i64, n).2.toNat))
 else b0fbba i)
 (m71_2 newslicen (IntKind.i64.wrap (n + (↑(((IntKind.i64, n).2 - (0 : Int)).toNat.min ((↑newslicen : Int) - (IntKind.i64, n).2).toNat) : Int))) b0n
 (fun (i : Nat) =>
 bif
 (plus (0 : Nat) (IntKind.i64, n).2.toNat).ble i &&
 i.blt
 (plus (0 : Nat) (IntKind.i64, n).2.toNat +
 ((IntKind.i64, n).2 - (0 : Int)).toNat.min ((↑newslicen : Int) - (IntKind.i64, n).2).toNat) then
 b0fa (plus (0 : Nat) (Int.toNat (0 : Int)) + (i - plus (0 : Nat) (IntKind.i64, n).2.toNat))
 else b0fa i)
 (fun (i : Nat) =>
 bif
 (plus (0 : Nat) (IntKind.i64, n).2.toNat).ble i &&
 i.blt
 (plus (0 : Nat) (IntKind.i64, n).2.toNat +
 ((IntKind.i64, n).2 - (0 : Int)).toNat.min ((↑newslicen : Int) - (IntKind.i64, n).2).toNat) then
 b0fba (plus (0 : Nat) (Int.toNat (0 : Int)) + (i - plus (0 : Nat) (IntKind.i64, n).2.toNat))
 else b0fba i)
 fun (i : Nat) =>
 bif
 (plus (0 : Nat) (IntKind.i64, n).2.toNat).ble i &&
 i.blt
 (plus (0 : Nat) (IntKind.i64, n).2.toNat +
 ((IntKind.i64, n).2 - (0 : Int)).toNat.min ((↑newslicen : Int) - (IntKind.i64, n).2).toNat) then
 b0fbba (plus (0 : Nat) (Int.toNat (0 : Int)) + (i - plus (0 : Nat) (IntKind.i64, n).2.toNat))
 else b0fbba i)
 [((1000 : Nat), some (1000 : Nat))]).br
 (Orc.fin
 (.vec false 3 newslicen newslicen fun (i : Nat) =>
 .cons 1 (.sc (.int .i64 (b0fa (plus (0 : Nat) i))))
 (.cons 1 (.sc (.int .i64 (b0fba (plus (0 : Nat) i))))
 (.cons 1 (.sc (.int .i64 (b0fbba (plus (0 : Nat) i)))) .nil)))
 [] [])) _ _ (by kernel_rfl) (by kernel_rfl) (show True ∧
 True ∧
 True ∧
 True ∧
 (decide (n < (↑newslicen : Int)) = true →
 True ∧
 True ∧
 True ∧
 ((0 : Int) ≤ n ∧ n ≤ (↑newslicen : Int) ∧ (0 : Nat) + (↑newslicen : Int).toNat ≤ b0n ∧ (n = (0 : Int) ∨ (0 : Nat) + n.toNat < b0n)) ∧
 True ∧
 True ∧
 ((0 : Int) ≤ (0 : Int) ∧ (0 : Int) ≤ n ∧ (0 : Nat) + n.toNat ≤ b0n ∧ ((0 : Int) = (0 : Int) ∨ (0 : Nat) + Int.toNat (0 : Int) < b0n)) ∧
 (plus (0 : Nat) n.toNat + ((↑newslicen : Int) - n).toNat ≤ b0n ∧
 plus (0 : Nat) (Int.toNat (0 : Int)) + (n - (0 : Int)).toNat ≤ b0n ∧ (3 : Nat) = (3 : Nat)) ∧
 True ∧
 True ∧
 ((True ∧
 Sub (.rf 1000 3 0 newslicen) (.rf 1000 3 0 newslicen) ∧
 True ∧
 Sub
 (.sc
 (.int IntKind.i64
 (IntKind.i64.wrap (n + (↑((n - (0 : Int)).toNat.min ((↑newslicen : Int) - n).toNat) : Int)))))
 (.sc
 (.int IntKind.i64
 (IntKind.i64.wrap (n + (↑((n - (0 : Int)).toNat.min ((↑newslicen : Int) - n).toNat) : Int))))) ∧
 True) ∧
 True ∧
 SubB
 (.ar b0n (3 : Nat) fun (i : Nat) =>
 .cons 1
 (.sc
 (.int IntKind.i64
 (bif
 (plus (0 : Nat) n.toNat).ble i &&
 i.blt (plus (0 : Nat) n.toNat + (n - (0 : Int)).toNat.min ((↑newslicen : Int) - n).toNat) then
 b0fa (plus (0 : Nat) (Int.toNat (0 : Int)) + (i - plus (0 : Nat) n.toNat))
 else b0fa i)))
 (.cons 1
 (.sc
 (.int IntKind.i64
 (bif
 (plus (0 : Nat) n.toNat).ble i &&
 i.blt (plus (0 : Nat) n.toNat + (n - (0 : Int)).toNat.min ((↑newslicen : Int) - n).toNat) then
 b0fba (plus (0 : Nat) (Int.toNat (0 : Int)) + (i - plus (0 : Nat) n.toNat))
 else b0fba i)))
 (.cons 1
 (.sc
 (.int IntKind.i64
 (bif
 (plus (0 : Nat) n.toNat).ble i &&
 i.blt (plus (0 : Nat) n.toNat + (n - (0 : Int)).toNat.min ((↑newslicen : Int) - n).toNat) then
 b0fbba (plus (0 : Nat) (Int.toNat (0 : Int)) + (i - plus (0 : Nat) n.toNat))
 else b0fbba i)))
 .nil)))
 (.ar b0n (3 : Nat) fun (i0 : Nat) =>
 .cons 1
 (.sc
 (.int IntKind.i64
 (bif
 (plus (0 : Nat) n.toNat).ble i0 &&
 i0.blt (plus (0 : Nat) n.toNat + (n - (0 : Int)).toNat.min ((↑newslicen : Int) - n).toNat) then
 b0fa (plus (0 : Nat) (Int.toNat (0 : Int)) + (i0 - plus (0 : Nat) n.toNat))
 else b0fa i0)))
 (.cons 1
 (.sc
 (.int IntKind.i64
 (bif
 (plus (0 : Nat) n.toNat).ble i0 &&
 i0.blt (plus (0 : Nat) n.toNat + (n - (0 : Int)).toNat.min ((↑newslicen : Int) - n).toNat) then
 b0fba (plus (0 : Nat) (Int.toNat (0 : Int)) + (i0 - plus (0 : Nat) n.toNat))
 else b0fba i0)))
 (.cons 1
 (.sc
 (.int IntKind.i64
 (bif
 (plus (0 : Nat) n.toNat).ble i0 &&
 i0.blt (plus (0 : Nat) n.toNat + (n - (0 : Int)).toNat.min ((↑newslicen : Int) - n).toNat) then
 b0fbba (plus (0 : Nat) (Int.toNat (0 : Int)) + (i0 - plus (0 : Nat) n.toNat))
 else b0fbba i0)))
 .nil))) ∧
 True) ∧
 L71_2 newslicen (IntKind.i64.wrap (n + (↑((n - (0 : Int)).toNat.min ((↑newslicen : Int) - n).toNat) : Int))) b0n
 (fun (i : Nat) =>
 bif
 (plus (0 : Nat) n.toNat).ble i &&
 i.blt (plus (0 : Nat) n.toNat + (n - (0 : Int)).toNat.min ((↑newslicen : Int) - n).toNat) then
 b0fa (plus (0 : Nat) (Int.toNat (0 : Int)) + (i - plus (0 : Nat) n.toNat))
 else b0fa i)
 (fun (i : Nat) =>
 bif
 (plus (0 : Nat) n.toNat).ble i &&
 i.blt (plus (0 : Nat) n.toNat + (n - (0 : Int)).toNat.min ((↑newslicen : Int) - n).toNat) then
 b0fba (plus (0 : Nat) (Int.toNat (0 : Int)) + (i - plus (0 : Nat) n.toNat))
 else b0fba i)
 (fun (i : Nat) =>
 bif
 (plus (0 : Nat) n.toNat).ble i &&
 i.blt (plus (0 : Nat) n.toNat + (n - (0 : Int)).toNat.min ((↑newslicen : Int) - n).toNat) then
 b0fbba (plus (0 : Nat) (Int.toNat (0 : Int)) + (i - plus (0 : Nat) n.toNat))
 else b0fbba i)
 res) ∧
 (decide (n < (↑newslicen : Int)) = false →
 True ∧
 True ∧
 True ∧
 (((0 : Nat) + newslicen ≤ b0n ∧
 Sub
 (.vec false 3 newslicen (b0n - (0 : Nat)) fun (i : Nat) =>
 .cons 1 (.sc (.int .i64 (b0fa (plus (0 : Nat) i))))
 (.cons 1 (.sc (.int .i64 (b0fba (plus (0 : Nat) i))))
 (.cons 1 (.sc (.int .i64 (b0fbba (plus (0 : Nat) i)))) .nil)))
 (.vec false 3 newslicen newslicen fun (i : Nat) =>
 .cons 1 (.sc (.int .i64 (b0fa (plus (0 : Nat) i))))
 (.cons 1 (.sc (.int .i64 (b0fba (plus (0 : Nat) i))))
 (.cons 1 (.sc (.int .i64 (b0fbba (plus (0 : Nat) i)))) .nil))) ∧
 True) ∧
 True) ∧
 Sub
 (.vec false 3 newslicen newslicen fun (i : Nat) =>
 .cons 1 (.sc (.int .i64 (b0fa (plus (0 : Nat) i))))
 (.cons 1 (.sc (.int .i64 (b0fba (plus (0 : Nat) i))))
 (.cons 1 (.sc (.int .i64 (b0fbba (plus (0 : Nat) i)))) .nil)))
 res ∧
 SubOut [] []) from
 ⟨trivial, ⟨trivial, ⟨trivial, ⟨trivial, (And.elim (fun h4 k4 => ⟨(fun x5 => (fun h5 => ⟨trivial, ⟨trivial, ⟨trivial, (And.elim (fun h9 k9 => ⟨(And.elim (fun h10 k10 => ⟨h10, (And.elim (fun h11 k11 => ⟨h11, (And.elim (fun h12 k12 => ⟨h12, k12⟩) k11)⟩) k10)⟩) h9), ⟨trivial, ⟨trivial, (And.elim (fun h12 k12 => ⟨(And.elim (fun h13 k13 => ⟨h13, (And.elim (fun h14 k14 => ⟨h14, (And.elim (fun h15 k15 => ⟨h15, k15⟩) k14)⟩) k13)⟩) h12), (And.elim (fun h13 k13 => ⟨(And.elim (fun h14 k14 => ⟨h14, ((fun h15 => ⟨h15, rfl⟩) k14)⟩) h13), ⟨trivial, ⟨trivial, ⟨⟨⟨trivial, ⟨Sub.refl _, ⟨trivial, ⟨Sub.refl _, trivial⟩⟩⟩⟩, ⟨trivial, ⟨SubB.refl _, trivial⟩⟩⟩, k13⟩⟩⟩⟩) k12)⟩) k9)⟩⟩⟩) h5)⟩⟩⟩) (h4 x5)), (fun x5 => (fun h5 => ⟨trivial, ⟨trivial, ⟨trivial, (And.elim (fun h9 k9 => ⟨((fun h10 => ⟨(And.elim (fun h11 k11 => ⟨h11, ((fun h12 => ⟨h12, trivial⟩) k11)⟩) h10), trivial⟩) h9), ((fun h10 => ⟨h10, trivial⟩) k9)⟩) h5)⟩⟩⟩) (k4 x5))⟩) h)⟩⟩⟩⟩)
end Go.Am.Seat
