/- The rules of 10 functions: from what is owed at each place of a function the function goes on as it is told there. Printed by a program of this seat; Lean checks each. -/
import Derived.Test.YtpmgbnlenpgdoaaAmZ2
import Derived.Test.YtpmgbnlenpgdoaaTab
open Go Go.Am Go.Am.Seat
namespace Go.Am.Seat
set_option linter.unusedVariables false
set_option maxRecDepth 100000
theorem hf23 : Go.Proofs.Try.prog.funcs[23]? = some Go.Proofs.Try.f23 := by kernel_rfl
abbrev s23_e (rulesn : Nat) (rulesfa : Nat → Int) (rulesfbaa : Nat → Int) (rulesfbabaf : Nat → Nat → Int) (da : Int) (dbaf : Nat → Int) (dbban : Nat) (dbbafn : Nat → Nat) (dbbaff : Nat → Nat → Int) (dbbban : Nat) (dbbbaf : Nat → Int) (text : ByteArray) : List (Nat × AV) := [(0, (.vec true 7 rulesn rulesn (fun i0 => (.cons 1 (.sc (.int .i64 (rulesfa i0))) (.cons 6 (.cons 1 (.sc (.int .i64 (rulesfbaa i0))) (.cons 4 (.ar 4 1 (fun i1 => (.sc (.int .u64 (rulesfbabaf i0 i1))))) (.cons 1 .undef .nil))) .nil))))), (1, (.cons 1 (.sc (.int .i64 da)) (.cons 256 (.ar 256 1 (fun i0 => (.sc (.int .u8 (dbaf i0))))) (.cons 1 (.vec true 1 dbban dbban (fun i0 => (.vec true 1 (dbbafn i0) (dbbafn i0) (fun i1 => (.sc (.int .i64 (dbbaff i0 i1))))))) (.cons 1 (.vec true 1 dbbban dbbban (fun i0 => (.sc (.int .i64 (dbbbaf i0))))) .nil))))), (2, (.sc (.string text)))]
abbrev m23_e (rulesn : Nat) (rulesfa : Nat → Int) (rulesfbaa : Nat → Int) (rulesfbabaf : Nat → Nat → Int) (da : Int) (dbaf : Nat → Int) (dbban : Nat) (dbbafn : Nat → Nat) (dbbaff : Nat → Nat → Int) (dbbban : Nat) (dbbbaf : Nat → Int) (text : ByteArray) : List (Nat × Nat × AV) := []
def L23_e (rulesn : Nat) (rulesfa : Nat → Int) (rulesfbaa : Nat → Int) (rulesfbabaf : Nat → Nat → Int) (da : Int) (dbaf : Nat → Int) (dbban : Nat) (dbbafn : Nat → Nat) (dbbaff : Nat → Nat → Int) (dbbban : Nat) (dbbbaf : Nat → Int) (text : ByteArray) (res : AV) : Prop := Goes ⟨Go.Proofs.Try.prog, 23, [], res, []⟩ (place Go.Proofs.Try.f23 []) (s23_e rulesn rulesfa rulesfbaa rulesfbabaf da dbaf dbban dbbafn dbbaff dbbban dbbbaf text) (m23_e rulesn rulesfa rulesfbaa rulesfbabaf da dbaf dbban dbbafn dbbaff dbbban dbbbaf text)
theorem a23_e (rulesn : Nat) (rulesfa : Nat → Int) (rulesfbaa : Nat → Int) (rulesfbabaf : Nat → Nat → Int) (da : Int) (dbaf : Nat → Int) (dbban : Nat) (dbbafn : Nat → Nat) (dbbaff : Nat → Nat → Int) (dbbban : Nat) (dbbbaf : Nat → Int) (text : ByteArray) (res : AV) (h : (∀ slot, fact (look .undef (s23_e rulesn rulesfa rulesfbaa rulesfbabaf da dbaf dbban dbbafn dbbaff dbbban dbbbaf text) slot)) → L23_e rulesn rulesfa rulesfbaa rulesfbabaf da dbaf dbban dbbafn dbbaff dbbban dbbbaf text res) : L23_e rulesn rulesfa rulesfbaa rulesfbabaf da dbaf dbban dbbafn dbbaff dbbban dbbbaf text res :=
  assumeRule 23 [] Go.Proofs.Try.f23 hf23 [] (s23_e rulesn rulesfa rulesfbaa rulesfbabaf da dbaf dbban dbbafn dbbaff dbbban dbbbaf text) (m23_e rulesn rulesfa rulesfbaa rulesfbabaf da dbaf dbban dbbafn dbbaff dbbban dbbbaf text) res [] _ (by kernel_rfl) h
abbrev s23_0 (rulesn : Nat) (rulesfa : Nat → Int) (rulesfbaa : Nat → Int) (rulesfbabaf : Nat → Nat → Int) (text : ByteArray) (t20n : Nat) (t20f : Nat → Int) (t21 : Int) (t22 : Int) (b0a : Int) (b0baf : Nat → Int) (b0bban : Nat) (b0bbafn : Nat → Nat) (b0bbaff : Nat → Nat → Int) (b0bbban : Nat) (b0bbbaf : Nat → Int) : List (Nat × AV) := [(0, (.vec true 7 rulesn rulesn (fun i0 => (.cons 1 (.sc (.int .i64 (rulesfa i0))) (.cons 6 (.cons 1 (.sc (.int .i64 (rulesfbaa i0))) (.cons 4 (.ar 4 1 (fun i1 => (.sc (.int .u64 (rulesfbabaf i0 i1))))) (.cons 1 .undef .nil))) .nil))))), (2, (.sc (.string text))), (4, (.pt 1000 [] 0)), (20, (.vec true 1 t20n t20n (fun i0 => (.sc (.int .i64 (t20f i0)))))), (21, (.sc (.int .i64 t21))), (22, (.sc (.int .i64 t22)))]
abbrev m23_0 (rulesn : Nat) (rulesfa : Nat → Int) (rulesfbaa : Nat → Int) (rulesfbabaf : Nat → Nat → Int) (text : ByteArray) (t20n : Nat) (t20f : Nat → Int) (t21 : Int) (t22 : Int) (b0a : Int) (b0baf : Nat → Int) (b0bban : Nat) (b0bbafn : Nat → Nat) (b0bbaff : Nat → Nat → Int) (b0bbban : Nat) (b0bbbaf : Nat → Int) : List (Nat × Nat × AV) := [(1000, 26, (.cons 1 (.sc (.int .i64 b0a)) (.cons 256 (.ar 256 1 (fun i0 => (.sc (.int .u8 (b0baf i0))))) (.cons 1 (.vec true 1 b0bban b0bban (fun i0 => (.vec true 1 (b0bbafn i0) (b0bbafn i0) (fun i1 => (.sc (.int .i64 (b0bbaff i0 i1))))))) (.cons 1 (.vec true 1 b0bbban b0bbban (fun i0 => (.sc (.int .i64 (b0bbbaf i0))))) .nil)))))]
def L23_0 (rulesn : Nat) (rulesfa : Nat → Int) (rulesfbaa : Nat → Int) (rulesfbabaf : Nat → Nat → Int) (text : ByteArray) (t20n : Nat) (t20f : Nat → Int) (t21 : Int) (t22 : Int) (b0a : Int) (b0baf : Nat → Int) (b0bban : Nat) (b0bbafn : Nat → Nat) (b0bbaff : Nat → Nat → Int) (b0bbban : Nat) (b0bbbaf : Nat → Int) (res : AV) : Prop := Goes ⟨Go.Proofs.Try.prog, 23, [], res, []⟩ (place Go.Proofs.Try.f23 [1, 1, 0, 1, 0, 0]) (s23_0 rulesn rulesfa rulesfbaa rulesfbabaf text t20n t20f t21 t22 b0a b0baf b0bban b0bbafn b0bbaff b0bbban b0bbbaf) (m23_0 rulesn rulesfa rulesfbaa rulesfbabaf text t20n t20f t21 t22 b0a b0baf b0bban b0bbafn b0bbaff b0bbban b0bbbaf)
theorem a23_0 (rulesn : Nat) (rulesfa : Nat → Int) (rulesfbaa : Nat → Int) (rulesfbabaf : Nat → Nat → Int) (text : ByteArray) (t20n : Nat) (t20f : Nat → Int) (t21 : Int) (t22 : Int) (b0a : Int) (b0baf : Nat → Int) (b0bban : Nat) (b0bbafn : Nat → Nat) (b0bbaff : Nat → Nat → Int) (b0bbban : Nat) (b0bbbaf : Nat → Int) (res : AV) (h : (∀ slot, fact (look .undef (s23_0 rulesn rulesfa rulesfbaa rulesfbabaf text t20n t20f t21 t22 b0a b0baf b0bban b0bbafn b0bbaff b0bbban b0bbbaf) slot)) → L23_0 rulesn rulesfa rulesfbaa rulesfbabaf text t20n t20f t21 t22 b0a b0baf b0bban b0bbafn b0bbaff b0bbban b0bbbaf res) : L23_0 rulesn rulesfa rulesfbaa rulesfbabaf text t20n t20f t21 t22 b0a b0baf b0bban b0bbafn b0bbaff b0bbban b0bbbaf res :=
  assumeRule 23 [] Go.Proofs.Try.f23 hf23 [1, 1, 0, 1, 0, 0] (s23_0 rulesn rulesfa rulesfbaa rulesfbabaf text t20n t20f t21 t22 b0a b0baf b0bban b0bbafn b0bbaff b0bbban b0bbbaf) (m23_0 rulesn rulesfa rulesfbaa rulesfbabaf text t20n t20f t21 t22 b0a b0baf b0bban b0bbafn b0bbaff b0bbban b0bbbaf) res [] _ (by kernel_rfl) h
abbrev s23_1 (rulesn : Nat) (rulesfa : Nat → Int) (rulesfbaa : Nat → Int) (rulesfbabaf : Nat → Nat → Int) (text : ByteArray) (out_n : Nat) (at_ : Int) (b0a : Int) (b0baf : Nat → Int) (b0bban : Nat) (b0bbafn : Nat → Nat) (b0bbaff : Nat → Nat → Int) (b0bbban : Nat) (b0bbbaf : Nat → Int) (b1n : Nat) (b1fa : Nat → Int) (b1fba : Nat → Int) (b1fbba : Nat → Int) : List (Nat × AV) := [(0, (.vec true 7 rulesn rulesn (fun i0 => (.cons 1 (.sc (.int .i64 (rulesfa i0))) (.cons 6 (.cons 1 (.sc (.int .i64 (rulesfbaa i0))) (.cons 4 (.ar 4 1 (fun i1 => (.sc (.int .u64 (rulesfbabaf i0 i1))))) (.cons 1 .undef .nil))) .nil))))), (2, (.sc (.string text))), (4, (.pt 1000 [] 0)), (11, (.rf 1001 3 0 out_n)), (12, (.sc (.int .i64 at_)))]
abbrev m23_1 (rulesn : Nat) (rulesfa : Nat → Int) (rulesfbaa : Nat → Int) (rulesfbabaf : Nat → Nat → Int) (text : ByteArray) (out_n : Nat) (at_ : Int) (b0a : Int) (b0baf : Nat → Int) (b0bban : Nat) (b0bbafn : Nat → Nat) (b0bbaff : Nat → Nat → Int) (b0bbban : Nat) (b0bbbaf : Nat → Int) (b1n : Nat) (b1fa : Nat → Int) (b1fba : Nat → Int) (b1fbba : Nat → Int) : List (Nat × Nat × AV) := [(1000, 26, (.cons 1 (.sc (.int .i64 b0a)) (.cons 256 (.ar 256 1 (fun i0 => (.sc (.int .u8 (b0baf i0))))) (.cons 1 (.vec true 1 b0bban b0bban (fun i0 => (.vec true 1 (b0bbafn i0) (b0bbafn i0) (fun i1 => (.sc (.int .i64 (b0bbaff i0 i1))))))) (.cons 1 (.vec true 1 b0bbban b0bbban (fun i0 => (.sc (.int .i64 (b0bbbaf i0))))) .nil))))), (1001, 45, (.ar b1n 3 (fun i0 => (.cons 1 (.sc (.int .i64 (b1fa i0))) (.cons 1 (.sc (.int .i64 (b1fba i0))) (.cons 1 (.sc (.int .i64 (b1fbba i0))) .nil))))))]
def L23_1 (rulesn : Nat) (rulesfa : Nat → Int) (rulesfbaa : Nat → Int) (rulesfbabaf : Nat → Nat → Int) (text : ByteArray) (out_n : Nat) (at_ : Int) (b0a : Int) (b0baf : Nat → Int) (b0bban : Nat) (b0bbafn : Nat → Nat) (b0bbaff : Nat → Nat → Int) (b0bbban : Nat) (b0bbbaf : Nat → Int) (b1n : Nat) (b1fa : Nat → Int) (b1fba : Nat → Int) (b1fbba : Nat → Int) (res : AV) : Prop := Goes ⟨Go.Proofs.Try.prog, 23, [], res, []⟩ (place Go.Proofs.Try.f23 [1, 1, 1, 1, 1, 0, 1, 0, 0]) (s23_1 rulesn rulesfa rulesfbaa rulesfbabaf text out_n at_ b0a b0baf b0bban b0bbafn b0bbaff b0bbban b0bbbaf b1n b1fa b1fba b1fbba) (m23_1 rulesn rulesfa rulesfbaa rulesfbabaf text out_n at_ b0a b0baf b0bban b0bbafn b0bbaff b0bbban b0bbbaf b1n b1fa b1fba b1fbba)
theorem a23_1 (rulesn : Nat) (rulesfa : Nat → Int) (rulesfbaa : Nat → Int) (rulesfbabaf : Nat → Nat → Int) (text : ByteArray) (out_n : Nat) (at_ : Int) (b0a : Int) (b0baf : Nat → Int) (b0bban : Nat) (b0bbafn : Nat → Nat) (b0bbaff : Nat → Nat → Int) (b0bbban : Nat) (b0bbbaf : Nat → Int) (b1n : Nat) (b1fa : Nat → Int) (b1fba : Nat → Int) (b1fbba : Nat → Int) (res : AV) (h : (∀ slot, fact (look .undef (s23_1 rulesn rulesfa rulesfbaa rulesfbabaf text out_n at_ b0a b0baf b0bban b0bbafn b0bbaff b0bbban b0bbbaf b1n b1fa b1fba b1fbba) slot)) → L23_1 rulesn rulesfa rulesfbaa rulesfbabaf text out_n at_ b0a b0baf b0bban b0bbafn b0bbaff b0bbban b0bbbaf b1n b1fa b1fba b1fbba res) : L23_1 rulesn rulesfa rulesfbaa rulesfbabaf text out_n at_ b0a b0baf b0bban b0bbafn b0bbaff b0bbban b0bbbaf b1n b1fa b1fba b1fbba res :=
  assumeRule 23 [] Go.Proofs.Try.f23 hf23 [1, 1, 1, 1, 1, 0, 1, 0, 0] (s23_1 rulesn rulesfa rulesfbaa rulesfbabaf text out_n at_ b0a b0baf b0bban b0bbafn b0bbaff b0bbban b0bbbaf b1n b1fa b1fba b1fbba) (m23_1 rulesn rulesfa rulesfbaa rulesfbabaf text out_n at_ b0a b0baf b0bban b0bbafn b0bbaff b0bbban b0bbbaf b1n b1fa b1fba b1fbba) res [] _ (by kernel_rfl) h
theorem o23 (rulesn : Nat) (rulesfa : Nat → Int) (rulesfbaa : Nat → Int) (rulesfbabaf : Nat → Nat → Int) (da : Int) (dbaf : Nat → Int) (dbban : Nat) (dbbafn : Nat → Nat) (dbbaff : Nat → Nat → Int) (dbbban : Nat) (dbbbaf : Nat → Int) (text : ByteArray) (res : AV) (hnew : newOnly res) (h : L23_e rulesn rulesfa rulesfbaa rulesfbabaf da dbaf dbban dbbafn dbbaff dbbban dbbbaf text res) : Ok Go.Proofs.Try.prog 23 [(.vec true 7 rulesn rulesn (fun i0 => (.cons 1 (.sc (.int .i64 (rulesfa i0))) (.cons 6 (.cons 1 (.sc (.int .i64 (rulesfbaa i0))) (.cons 4 (.ar 4 1 (fun i1 => (.sc (.int .u64 (rulesfbabaf i0 i1))))) (.cons 1 .undef .nil))) .nil)))), (.cons 1 (.sc (.int .i64 da)) (.cons 256 (.ar 256 1 (fun i0 => (.sc (.int .u8 (dbaf i0))))) (.cons 1 (.vec true 1 dbban dbban (fun i0 => (.vec true 1 (dbbafn i0) (dbbafn i0) (fun i1 => (.sc (.int .i64 (dbbaff i0 i1))))))) (.cons 1 (.vec true 1 dbbban dbbban (fun i0 => (.sc (.int .i64 (dbbbaf i0))))) .nil)))), (.sc (.string text))] [] res [] :=
  okRule2 23 Go.Proofs.Try.f23 hf23 [(.vec true 7 rulesn rulesn (fun i0 => (.cons 1 (.sc (.int .i64 (rulesfa i0))) (.cons 6 (.cons 1 (.sc (.int .i64 (rulesfbaa i0))) (.cons 4 (.ar 4 1 (fun i1 => (.sc (.int .u64 (rulesfbabaf i0 i1))))) (.cons 1 .undef .nil))) .nil)))), (.cons 1 (.sc (.int .i64 da)) (.cons 256 (.ar 256 1 (fun i0 => (.sc (.int .u8 (dbaf i0))))) (.cons 1 (.vec true 1 dbban dbban (fun i0 => (.vec true 1 (dbbafn i0) (dbbafn i0) (fun i1 => (.sc (.int .i64 (dbbaff i0 i1))))))) (.cons 1 (.vec true 1 dbbban dbbban (fun i0 => (.sc (.int .i64 (dbbbaf i0))))) .nil)))), (.sc (.string text))] [] res [] [] rfl (by kernel_rfl) (by kernel_rfl) (by kernel_rfl) ⟨hnew, by simp⟩ (L23_e rulesn rulesfa rulesfbaa rulesfbabaf da dbaf dbban dbbafn dbbaff dbbban dbbbaf text res) (by kernel_rfl) h
theorem r23_e (rulesn : Nat) (rulesfa : Nat → Int) (rulesfbaa : Nat → Int) (rulesfbabaf : Nat → Nat → Int) (da : Int) (dbaf : Nat → Int) (dbban : Nat) (dbbafn : Nat → Nat) (dbbaff : Nat → Nat → Int) (dbbban : Nat) (dbbbaf : Nat → Int) (text : ByteArray) (res : AV)
    (h : ∃ (r : Int),
  Ok Proofs.Try.prog (54 : Nat)
    [AV.cons (1 : Nat) (AV.sc (Value.int IntKind.i64 da))
    (AV.cons (256 : Nat) (AV.ar (256 : Nat) (1 : Nat) fun (i : Nat) => AV.sc (Value.int IntKind.u8 (dbaf i)))
    (AV.cons (1 : Nat)
    (AV.vec true (1 : Nat) dbban dbban fun (i : Nat) =>
    AV.vec true (1 : Nat) (dbbafn i) (dbbafn i) fun (i_1 : Nat) => AV.sc (Value.int IntKind.i64 (dbbaff i i_1)))
    (AV.cons (1 : Nat) (AV.vec true (1 : Nat) dbbban dbbban fun (i : Nat) => AV.sc (Value.int IntKind.i64 (dbbbaf i))) AV.nil)))]
    [] (AV.sc (Value.int IntKind.i64 r)) [] ∧
    ((r != (0 : Int)) = true →
    Sub (AV.cons (1 : Nat) (AV.sc (Value.slice none (0 : Nat) (0 : Nat))) (AV.cons (1 : Nat) (AV.sc (Value.int IntKind.i64 r)) AV.nil)).tup res) ∧
    ((r != (0 : Int)) = false →
    L23_0 rulesn rulesfa rulesfbaa rulesfbabaf text dbbban dbbbaf (↑dbbban : Int) (0 : Int) da dbaf dbban dbbafn dbbaff dbbban dbbbaf res)) :
    L23_e rulesn rulesfa rulesfbaa rulesfbabaf da dbaf dbban dbbafn dbbaff dbbban dbbbaf text res :=
  rule Go.Am.Seat.tabOk 23 [] Go.Proofs.Try.f23 hf23 [] (s23_e rulesn rulesfa rulesfbaa rulesfbabaf da dbaf dbban dbbafn dbbaff dbbban dbbbaf text) (m23_e rulesn rulesfa rulesfbaa rulesfbabaf da dbaf dbban dbbafn dbbaff dbbban dbbbaf text) res [] 400
    (Orc.call [] [] (fun (r54 : Int) => AV.sc (Value.int IntKind.i64 r54)) (fun (r54 : Int) => []) fun (r54 : Int) =>
  (Orc.fin (AV.cons (1 : Nat) (AV.sc (Value.slice none (0 : Nat) (0 : Nat))) (AV.cons (1 : Nat) (AV.sc (Value.int IntKind.i64 r54)) AV.nil)).tup [] []).br
    (Orc.cut (nat_lit 6) (s23_0 rulesn rulesfa rulesfbaa rulesfbabaf text dbbban dbbbaf (↑dbbban : Int) (0 : Int) da dbaf dbban dbbafn dbbaff dbbban dbbbaf)
    (m23_0 rulesn rulesfa rulesfbaa rulesfbabaf text dbbban dbbbaf (↑dbbban : Int) (0 : Int) da dbaf dbban dbbafn dbbaff dbbban dbbbaf)
    [((1000 : Nat), some (4 : Nat))])) _ _ (by kernel_rfl) (by kernel_rfl) (show True ∧
  True ∧
    True ∧
    ((0 : Nat) = (0 : Nat) ∧ True) ∧
    ∃ (r : Int),
    (((True ∧ True ∧ True ∧ True ∧ True) ∧ True) ∧
    True ∧
    Ok Proofs.Try.prog (54 : Nat)
    [AV.cons (1 : Nat) (AV.sc (Value.int IntKind.i64 da))
    (AV.cons (256 : Nat) (AV.ar (256 : Nat) (1 : Nat) fun (i : Nat) => AV.sc (Value.int IntKind.u8 (dbaf i)))
    (AV.cons (1 : Nat)
    (AV.vec true (1 : Nat) dbban dbban fun (i : Nat) =>
    AV.vec true (1 : Nat) (dbbafn i) (dbbafn i) fun (i_1 : Nat) => AV.sc (Value.int IntKind.i64 (dbbaff i i_1)))
    (AV.cons (1 : Nat) (AV.vec true (1 : Nat) dbbban dbbban fun (i : Nat) => AV.sc (Value.int IntKind.i64 (dbbbaf i))) AV.nil)))]
    [] (AV.sc (Value.int IntKind.i64 r)) []) ∧
    True ∧
    True ∧
    True ∧
    ((r != (0 : Int)) = true →
    True ∧
    True ∧
    True ∧
    (True ∧ True ∧ True) ∧
    (((True ∧ True ∧ True) ∧
    Sub
    (AV.cons (1 : Nat) (AV.sc (Value.slice none (0 : Nat) (0 : Nat)))
    (AV.cons (1 : Nat) (AV.sc (Value.int IntKind.i64 r)) AV.nil)).tup
    (AV.cons (1 : Nat) (AV.sc (Value.slice none (0 : Nat) (0 : Nat)))
    (AV.cons (1 : Nat) (AV.sc (Value.int IntKind.i64 r)) AV.nil)).tup ∧
    True) ∧
    True) ∧
    Sub
    (AV.cons (1 : Nat) (AV.sc (Value.slice none (0 : Nat) (0 : Nat)))
    (AV.cons (1 : Nat) (AV.sc (Value.int IntKind.i64 r)) AV.nil)).tup
    res ∧
    SubOut [] []) ∧
    ((r != (0 : Int)) = false →
    True ∧
    ((1 : Nat) + ((256 : Nat) + ((1 : Nat) + (0 : Nat))) = plus (0 : Nat) (258 : Nat) ∧ True) ∧
    True ∧
    True ∧
    ((True ∧
    Sub
    (AV.vec true (7 : Nat) rulesn rulesn fun (i0 : Nat) =>
    AV.cons (1 : Nat) (AV.sc (Value.int IntKind.i64 (rulesfa i0)))
    (AV.cons (6 : Nat)
    (AV.cons (1 : Nat) (AV.sc (Value.int IntKind.i64 (rulesfbaa i0)))
    (AV.cons (4 : Nat)
    (AV.ar (4 : Nat) (1 : Nat) fun (i1 : Nat) => AV.sc (Value.int IntKind.u64 (rulesfbabaf i0 i1)))
    (AV.cons (1 : Nat) AV.undef AV.nil)))
    AV.nil))
    (AV.vec true (7 : Nat) rulesn rulesn fun (i0 : Nat) =>
    AV.cons (1 : Nat) (AV.sc (Value.int IntKind.i64 (rulesfa i0)))
    (AV.cons (6 : Nat)
    (AV.cons (1 : Nat) (AV.sc (Value.int IntKind.i64 (rulesfbaa i0)))
    (AV.cons (4 : Nat)
    (AV.ar (4 : Nat) (1 : Nat) fun (i1 : Nat) => AV.sc (Value.int IntKind.u64 (rulesfbabaf i0 i1)))
    (AV.cons (1 : Nat) AV.undef AV.nil)))
    AV.nil)) ∧
    True ∧
    Sub (AV.sc (Value.string text)) (AV.sc (Value.string text)) ∧
    True ∧
    Sub (AV.pt (1000 : Nat) [] (0 : Nat)) (AV.pt (1000 : Nat) [] (0 : Nat)) ∧
    True ∧
    Sub (AV.vec true (1 : Nat) dbbban dbbban fun (i0 : Nat) => AV.sc (Value.int IntKind.i64 (dbbbaf i0)))
    (AV.vec true (1 : Nat) dbbban dbbban fun (i0 : Nat) => AV.sc (Value.int IntKind.i64 (dbbbaf i0))) ∧
    True ∧
    Sub (AV.sc (Value.int IntKind.i64 (↑dbbban : Int))) (AV.sc (Value.int IntKind.i64 (↑dbbban : Int))) ∧
    True ∧ Sub (AV.sc (Value.int IntKind.i64 (0 : Int))) (AV.sc (Value.int IntKind.i64 (0 : Int))) ∧ True) ∧
    (True ∧ True ∧ True ∧ True ∧ True) ∧
    SubB
    (AV.cons (1 : Nat) (AV.sc (Value.int IntKind.i64 da))
    (AV.cons (256 : Nat) (AV.ar (256 : Nat) (1 : Nat) fun (i0 : Nat) => AV.sc (Value.int IntKind.u8 (dbaf i0)))
    (AV.cons (1 : Nat)
    (AV.vec true (1 : Nat) dbban dbban fun (i0 : Nat) =>
    AV.vec true (1 : Nat) (dbbafn i0) (dbbafn i0) fun (i1 : Nat) => AV.sc (Value.int IntKind.i64 (dbbaff i0 i1)))
    (AV.cons (1 : Nat)
    (AV.vec true (1 : Nat) dbbban dbbban fun (i0 : Nat) => AV.sc (Value.int IntKind.i64 (dbbbaf i0))) AV.nil))))
    (AV.cons (1 : Nat) (AV.sc (Value.int IntKind.i64 da))
    (AV.cons (256 : Nat) (AV.ar (256 : Nat) (1 : Nat) fun (i0 : Nat) => AV.sc (Value.int IntKind.u8 (dbaf i0)))
    (AV.cons (1 : Nat)
    (AV.vec true (1 : Nat) dbban dbban fun (i0 : Nat) =>
    AV.vec true (1 : Nat) (dbbafn i0) (dbbafn i0) fun (i1 : Nat) => AV.sc (Value.int IntKind.i64 (dbbaff i0 i1)))
    (AV.cons (1 : Nat)
    (AV.vec true (1 : Nat) dbbban dbbban fun (i0 : Nat) => AV.sc (Value.int IntKind.i64 (dbbbaf i0))) AV.nil)))) ∧
    True) ∧
    L23_0 rulesn rulesfa rulesfbaa rulesfbabaf text dbbban dbbbaf (↑dbbban : Int) (0 : Int) da dbaf dbban dbbafn dbbaff dbbban
    dbbbaf res) from
    ⟨trivial, ⟨trivial, ⟨trivial, ⟨⟨rfl, trivial⟩, (Exists.elim h fun x4 h4 => ⟨x4, (And.elim (fun h5 k5 => ⟨⟨⟨⟨trivial, ⟨trivial, ⟨trivial, ⟨trivial, trivial⟩⟩⟩⟩, trivial⟩, ⟨trivial, h5⟩⟩, ⟨trivial, ⟨trivial, ⟨trivial, (And.elim (fun h9 k9 => ⟨(fun x10 => (fun h10 => ⟨trivial, ⟨trivial, ⟨trivial, ⟨⟨trivial, ⟨trivial, trivial⟩⟩, ⟨⟨⟨⟨trivial, ⟨trivial, trivial⟩⟩, ⟨Sub.refl _, trivial⟩⟩, trivial⟩, ((fun h16 => ⟨h16, trivial⟩) h10)⟩⟩⟩⟩⟩) (h9 x10)), (fun x10 => (fun h10 => ⟨trivial, ⟨⟨rfl, trivial⟩, ⟨trivial, ⟨trivial, ⟨⟨⟨trivial, ⟨Sub.refl _, ⟨trivial, ⟨Sub.refl _, ⟨trivial, ⟨Sub.refl _, ⟨trivial, ⟨Sub.refl _, ⟨trivial, ⟨Sub.refl _, ⟨trivial, ⟨Sub.refl _, trivial⟩⟩⟩⟩⟩⟩⟩⟩⟩⟩⟩⟩, ⟨⟨trivial, ⟨trivial, ⟨trivial, ⟨trivial, trivial⟩⟩⟩⟩, ⟨SubB.refl _, trivial⟩⟩⟩, h10⟩⟩⟩⟩⟩) (k9 x10))⟩) k5)⟩⟩⟩⟩) h4)⟩)⟩⟩⟩⟩)
theorem r23_0 (rulesn : Nat) (rulesfa : Nat → Int) (rulesfbaa : Nat → Int) (rulesfbabaf : Nat → Nat → Int) (text : ByteArray) (t20n : Nat) (t20f : Nat → Int) (t21 : Int) (t22 : Int) (b0a : Int) (b0baf : Nat → Int) (b0bban : Nat) (b0bbafn : Nat → Nat) (b0bbaff : Nat → Nat → Int) (b0bbban : Nat) (b0bbbaf : Nat → Int) (res : AV)
    (h : (decide (t22 < t21) = true →
    ((0 : Int) ≤ t22 ∧ t22 < (↑t20n : Int)) ∧
    (decide (t20f t22.toNat ≥ (↑rulesn : Int)) = true →
    Sub (AV.cons (1 : Nat) (AV.sc (Value.slice none (0 : Nat) (0 : Nat))) (AV.cons (1 : Nat) (AV.sc (Value.int IntKind.i64 (2 : Int))) AV.nil)).tup res) ∧
    (decide (t20f t22.toNat ≥ (↑rulesn : Int)) = false →
    L23_0 rulesn rulesfa rulesfbaa rulesfbabaf text t20n t20f t21 (IntKind.i64.wrap (t22 + (1 : Int))) b0a b0baf b0bban b0bbafn b0bbaff b0bbban b0bbbaf
    res)) ∧
  (decide (t22 < t21) = false →
    (decide ((↑text.size : Int) > (65536 : Int)) = true →
    Sub (AV.cons (1 : Nat) (AV.sc (Value.slice none (0 : Nat) (0 : Nat))) (AV.cons (1 : Nat) (AV.sc (Value.int IntKind.i64 (3 : Int))) AV.nil)).tup res) ∧
    (decide ((↑text.size : Int) > (65536 : Int)) = false →
    L23_1 rulesn rulesfa rulesfbaa rulesfbabaf text (0 : Nat) (0 : Int) b0a b0baf b0bban b0bbafn b0bbaff b0bbban b0bbbaf (0 : Nat)
    (fun (i : Nat) => Int.ofNat (0 : Nat)) (fun (i : Nat) => Int.ofNat (0 : Nat)) (fun (i : Nat) => Int.ofNat (0 : Nat)) res))) :
    L23_0 rulesn rulesfa rulesfbaa rulesfbabaf text t20n t20f t21 t22 b0a b0baf b0bban b0bbafn b0bbaff b0bbban b0bbbaf res :=
  rule Go.Am.Seat.tabOk 23 [] Go.Proofs.Try.f23 hf23 [1, 1, 0, 1, 0, 0] (s23_0 rulesn rulesfa rulesfbaa rulesfbabaf text t20n t20f t21 t22 b0a b0baf b0bban b0bbafn b0bbaff b0bbban b0bbbaf) (m23_0 rulesn rulesfa rulesfbaa rulesfbabaf text t20n t20f t21 t22 b0a b0baf b0bban b0bbafn b0bbaff b0bbban b0bbbaf) res [] 400
    (((Orc.fin (AV.cons (1 : Nat) (AV.sc (Value.slice none (0 : Nat) (0 : Nat))) (AV.cons (1 : Nat) (AV.sc (Value.int IntKind.i64 (2 : Int))) AV.nil)).tup [] []).br
    (Orc.cut (nat_lit 4)
    (s23_0 rulesn rulesfa rulesfbaa rulesfbabaf text t20n t20f t21 (IntKind.i64.wrap (t22 + (1 : Int))) b0a b0baf b0bban b0bbafn b0bbaff b0bbban b0bbbaf)
    (m23_0 rulesn rulesfa rulesfbaa rulesfbabaf text t20n t20f t21 (IntKind.i64.wrap (t22 + (1 : Int))) b0a b0baf b0bban b0bbafn b0bbaff b0bbban b0bbbaf)
    [((1000 : Nat), some (1000 : Nat))])).br
  ((Orc.fin (AV.cons (1 : Nat) (AV.sc (Value.slice none (0 : Nat) (0 : Nat))) (AV.cons (1 : Nat) (AV.sc (Value.int IntKind.i64 (3 : Int))) AV.nil)).tup []
    []).br
    (Orc.cut (nat_lit 8)
    (s23_1 rulesn rulesfa rulesfbaa rulesfbabaf text (0 : Nat) (0 : Int) b0a b0baf b0bban b0bbafn b0bbaff b0bbban b0bbbaf (0 : Nat)
    (fun (i : Nat) => Int.ofNat (0 : Nat)) (fun (i : Nat) => Int.ofNat (0 : Nat)) fun (i : Nat) => Int.ofNat (0 : Nat))
    (m23_1 rulesn rulesfa rulesfbaa rulesfbabaf text (0 : Nat) (0 : Int) b0a b0baf b0bban b0bbafn b0bbaff b0bbban b0bbbaf (0 : Nat)
    (fun (i : Nat) => Int.ofNat (0 : Nat)) (fun (i : Nat) => Int.ofNat (0 : Nat)) fun (i : Nat) => Int.ofNat (0 : Nat))
    [((1000 : Nat), some (1000 : Nat)), ((1001 : Nat), none)]))) _ _ (by kernel_rfl) (by kernel_rfl) (show True ∧
  (decide (t22 < t21) = true →
    ((0 : Int) ≤ t22 ∧ t22 < (↑t20n : Int)) ∧
    True ∧
    True ∧
    True ∧
    True ∧
    True ∧
    True ∧
    (decide (t20f t22.toNat ≥ (↑rulesn : Int)) = true →
    True ∧
    True ∧
    (True ∧ True ∧ True) ∧
    (((True ∧ True ∧ True) ∧
    Sub
    (AV.cons (1 : Nat) (AV.sc (Value.slice none (0 : Nat) (0 : Nat)))
    (AV.cons (1 : Nat) (AV.sc (Value.int IntKind.i64 (2 : Int))) AV.nil)).tup
    (AV.cons (1 : Nat) (AV.sc (Value.slice none (0 : Nat) (0 : Nat)))
    (AV.cons (1 : Nat) (AV.sc (Value.int IntKind.i64 (2 : Int))) AV.nil)).tup ∧
    True) ∧
    True) ∧
    Sub
    (AV.cons (1 : Nat) (AV.sc (Value.slice none (0 : Nat) (0 : Nat)))
    (AV.cons (1 : Nat) (AV.sc (Value.int IntKind.i64 (2 : Int))) AV.nil)).tup
    res ∧
    SubOut [] []) ∧
    (decide (t20f t22.toNat ≥ (↑rulesn : Int)) = false →
    True ∧
    True ∧
    ((True ∧
    Sub
    (AV.vec true (7 : Nat) rulesn rulesn fun (i0 : Nat) =>
    AV.cons (1 : Nat) (AV.sc (Value.int IntKind.i64 (rulesfa i0)))
    (AV.cons (6 : Nat)
    (AV.cons (1 : Nat) (AV.sc (Value.int IntKind.i64 (rulesfbaa i0)))
    (AV.cons (4 : Nat) (AV.ar (4 : Nat) (1 : Nat) fun (i1 : Nat) => AV.sc (Value.int IntKind.u64 (rulesfbabaf i0 i1)))
    (AV.cons (1 : Nat) AV.undef AV.nil)))
    AV.nil))
    (AV.vec true (7 : Nat) rulesn rulesn fun (i0 : Nat) =>
    AV.cons (1 : Nat) (AV.sc (Value.int IntKind.i64 (rulesfa i0)))
    (AV.cons (6 : Nat)
    (AV.cons (1 : Nat) (AV.sc (Value.int IntKind.i64 (rulesfbaa i0)))
    (AV.cons (4 : Nat) (AV.ar (4 : Nat) (1 : Nat) fun (i1 : Nat) => AV.sc (Value.int IntKind.u64 (rulesfbabaf i0 i1)))
    (AV.cons (1 : Nat) AV.undef AV.nil)))
    AV.nil)) ∧
    True ∧
    Sub (AV.sc (Value.string text)) (AV.sc (Value.string text)) ∧
    True ∧
    Sub (AV.pt (1000 : Nat) [] (0 : Nat)) (AV.pt (1000 : Nat) [] (0 : Nat)) ∧
    True ∧
    Sub (AV.vec true (1 : Nat) t20n t20n fun (i0 : Nat) => AV.sc (Value.int IntKind.i64 (t20f i0)))
    (AV.vec true (1 : Nat) t20n t20n fun (i0 : Nat) => AV.sc (Value.int IntKind.i64 (t20f i0))) ∧
    True ∧
    Sub (AV.sc (Value.int IntKind.i64 t21)) (AV.sc (Value.int IntKind.i64 t21)) ∧
    True ∧
    Sub (AV.sc (Value.int IntKind.i64 (IntKind.i64.wrap (t22 + (1 : Int)))))
    (AV.sc (Value.int IntKind.i64 (IntKind.i64.wrap (t22 + (1 : Int))))) ∧
    True) ∧
    (True ∧ True ∧ True ∧ True ∧ True) ∧
    SubB
    (AV.cons (1 : Nat) (AV.sc (Value.int IntKind.i64 b0a))
    (AV.cons (256 : Nat) (AV.ar (256 : Nat) (1 : Nat) fun (i0 : Nat) => AV.sc (Value.int IntKind.u8 (b0baf i0)))
    (AV.cons (1 : Nat)
    (AV.vec true (1 : Nat) b0bban b0bban fun (i0 : Nat) =>
    AV.vec true (1 : Nat) (b0bbafn i0) (b0bbafn i0) fun (i1 : Nat) => AV.sc (Value.int IntKind.i64 (b0bbaff i0 i1)))
    (AV.cons (1 : Nat)
    (AV.vec true (1 : Nat) b0bbban b0bbban fun (i0 : Nat) => AV.sc (Value.int IntKind.i64 (b0bbbaf i0))) AV.nil))))
    (AV.cons (1 : Nat) (AV.sc (Value.int IntKind.i64 b0a))
    (AV.cons (256 : Nat) (AV.ar (256 : Nat) (1 : Nat) fun (i0 : Nat) => AV.sc (Value.int IntKind.u8 (b0baf i0)))
    (AV.cons (1 : Nat)
    (AV.vec true (1 : Nat) b0bban b0bban fun (i0 : Nat) =>
    AV.vec true (1 : Nat) (b0bbafn i0) (b0bbafn i0) fun (i1 : Nat) => AV.sc (Value.int IntKind.i64 (b0bbaff i0 i1)))
    (AV.cons (1 : Nat)
    (AV.vec true (1 : Nat) b0bbban b0bbban fun (i0 : Nat) => AV.sc (Value.int IntKind.i64 (b0bbbaf i0))) AV.nil)))) ∧
    True) ∧
    L23_0 rulesn rulesfa rulesfbaa rulesfbabaf text t20n t20f t21 (IntKind.i64.wrap (t22 + (1 : Int))) b0a b0baf b0bban b0bbafn
    b0bbaff b0bbban b0bbbaf res)) ∧
    (decide (t22 < t21) = false →
    True ∧
    True ∧
    True ∧
    (decide ((↑text.size : Int) > (65536 : Int)) = true →
    True ∧
    True ∧
    (True ∧ True ∧ True) ∧
    (((True ∧ True ∧ True) ∧
    Sub
    (AV.cons (1 : Nat) (AV.sc (Value.slice none (0 : Nat) (0 : Nat)))
    (AV.cons (1 : Nat) (AV.sc (Value.int IntKind.i64 (3 : Int))) AV.nil)).tup
    (AV.cons (1 : Nat) (AV.sc (Value.slice none (0 : Nat) (0 : Nat)))
    (AV.cons (1 : Nat) (AV.sc (Value.int IntKind.i64 (3 : Int))) AV.nil)).tup ∧
    True) ∧
    True) ∧
    Sub
    (AV.cons (1 : Nat) (AV.sc (Value.slice none (0 : Nat) (0 : Nat)))
    (AV.cons (1 : Nat) (AV.sc (Value.int IntKind.i64 (3 : Int))) AV.nil)).tup
    res ∧
    SubOut [] []) ∧
    (decide ((↑text.size : Int) > (65536 : Int)) = false →
    True ∧
    True ∧
    ((True ∧
    Sub
    (AV.vec true (7 : Nat) rulesn rulesn fun (i0 : Nat) =>
    AV.cons (1 : Nat) (AV.sc (Value.int IntKind.i64 (rulesfa i0)))
    (AV.cons (6 : Nat)
    (AV.cons (1 : Nat) (AV.sc (Value.int IntKind.i64 (rulesfbaa i0)))
    (AV.cons (4 : Nat) (AV.ar (4 : Nat) (1 : Nat) fun (i1 : Nat) => AV.sc (Value.int IntKind.u64 (rulesfbabaf i0 i1)))
    (AV.cons (1 : Nat) AV.undef AV.nil)))
    AV.nil))
    (AV.vec true (7 : Nat) rulesn rulesn fun (i0 : Nat) =>
    AV.cons (1 : Nat) (AV.sc (Value.int IntKind.i64 (rulesfa i0)))
    (AV.cons (6 : Nat)
    (AV.cons (1 : Nat) (AV.sc (Value.int IntKind.i64 (rulesfbaa i0)))
    (AV.cons (4 : Nat) (AV.ar (4 : Nat) (1 : Nat) fun (i1 : Nat) => AV.sc (Value.int IntKind.u64 (rulesfbabaf i0 i1)))
    (AV.cons (1 : Nat) AV.undef AV.nil)))
    AV.nil)) ∧
    True ∧
    Sub (AV.sc (Value.string text)) (AV.sc (Value.string text)) ∧
    True ∧
    Sub (AV.pt (1000 : Nat) [] (0 : Nat)) (AV.pt (1000 : Nat) [] (0 : Nat)) ∧
    True ∧ Sub (AV.sc (Value.int IntKind.i64 (0 : Int))) (AV.sc (Value.int IntKind.i64 (0 : Int))) ∧ True) ∧
    (True ∧ True ∧ True ∧ True ∧ True) ∧
    SubB
    (AV.cons (1 : Nat) (AV.sc (Value.int IntKind.i64 b0a))
    (AV.cons (256 : Nat) (AV.ar (256 : Nat) (1 : Nat) fun (i0 : Nat) => AV.sc (Value.int IntKind.u8 (b0baf i0)))
    (AV.cons (1 : Nat)
    (AV.vec true (1 : Nat) b0bban b0bban fun (i0 : Nat) =>
    AV.vec true (1 : Nat) (b0bbafn i0) (b0bbafn i0) fun (i1 : Nat) => AV.sc (Value.int IntKind.i64 (b0bbaff i0 i1)))
    (AV.cons (1 : Nat) (AV.vec true (1 : Nat) b0bbban b0bbban fun (i0 : Nat) => AV.sc (Value.int IntKind.i64 (b0bbbaf i0)))
    AV.nil))))
    (AV.cons (1 : Nat) (AV.sc (Value.int IntKind.i64 b0a))
    (AV.cons (256 : Nat) (AV.ar (256 : Nat) (1 : Nat) fun (i0 : Nat) => AV.sc (Value.int IntKind.u8 (b0baf i0)))
    (AV.cons (1 : Nat)
    (AV.vec true (1 : Nat) b0bban b0bban fun (i0 : Nat) =>
    AV.vec true (1 : Nat) (b0bbafn i0) (b0bbafn i0) fun (i1 : Nat) => AV.sc (Value.int IntKind.i64 (b0bbaff i0 i1)))
    (AV.cons (1 : Nat) (AV.vec true (1 : Nat) b0bbban b0bbban fun (i0 : Nat) => AV.sc (Value.int IntKind.i64 (b0bbbaf i0)))
    AV.nil)))) ∧
    True) ∧
    L23_1 rulesn rulesfa rulesfbaa rulesfbabaf text (0 : Nat) (0 : Int) b0a b0baf b0bban b0bbafn b0bbaff b0bbban b0bbbaf (0 : Nat)
    (fun (i : Nat) => Int.ofNat (0 : Nat)) (fun (i : Nat) => Int.ofNat (0 : Nat)) (fun (i : Nat) => Int.ofNat (0 : Nat)) res)) from
    ⟨trivial, (And.elim (fun h1 k1 => ⟨(fun x2 => (fun h2 => (And.elim (fun h3 k3 => ⟨(And.elim (fun h4 k4 => ⟨h4, k4⟩) h3), ⟨trivial, ⟨trivial, ⟨trivial, ⟨trivial, ⟨trivial, ⟨trivial, (And.elim (fun h10 k10 => ⟨(fun x11 => (fun h11 => ⟨trivial, ⟨trivial, ⟨⟨trivial, ⟨trivial, trivial⟩⟩, ⟨⟨⟨⟨trivial, ⟨trivial, trivial⟩⟩, ⟨Sub.refl _, trivial⟩⟩, trivial⟩, ((fun h16 => ⟨h16, trivial⟩) h11)⟩⟩⟩⟩) (h10 x11)), (fun x11 => (fun h11 => ⟨trivial, ⟨trivial, ⟨⟨⟨trivial, ⟨Sub.refl _, ⟨trivial, ⟨Sub.refl _, ⟨trivial, ⟨Sub.refl _, ⟨trivial, ⟨Sub.refl _, ⟨trivial, ⟨Sub.refl _, ⟨trivial, ⟨Sub.refl _, trivial⟩⟩⟩⟩⟩⟩⟩⟩⟩⟩⟩⟩, ⟨⟨trivial, ⟨trivial, ⟨trivial, ⟨trivial, trivial⟩⟩⟩⟩, ⟨SubB.refl _, trivial⟩⟩⟩, h11⟩⟩⟩) (k10 x11))⟩) k3)⟩⟩⟩⟩⟩⟩⟩) h2)) (h1 x2)), (fun x2 => (fun h2 => ⟨trivial, ⟨trivial, ⟨trivial, (And.elim (fun h6 k6 => ⟨(fun x7 => (fun h7 => ⟨trivial, ⟨trivial, ⟨⟨trivial, ⟨trivial, trivial⟩⟩, ⟨⟨⟨⟨trivial, ⟨trivial, trivial⟩⟩, ⟨Sub.refl _, trivial⟩⟩, trivial⟩, ((fun h12 => ⟨h12, trivial⟩) h7)⟩⟩⟩⟩) (h6 x7)), (fun x7 => (fun h7 => ⟨trivial, ⟨trivial, ⟨⟨⟨trivial, ⟨Sub.refl _, ⟨trivial, ⟨Sub.refl _, ⟨trivial, ⟨Sub.refl _, ⟨trivial, ⟨Sub.refl _, trivial⟩⟩⟩⟩⟩⟩⟩⟩, ⟨⟨trivial, ⟨trivial, ⟨trivial, ⟨trivial, trivial⟩⟩⟩⟩, ⟨SubB.refl _, trivial⟩⟩⟩, h7⟩⟩⟩) (k6 x7))⟩) h2)⟩⟩⟩) (k1 x2))⟩) h)⟩)
theorem r23_1 (rulesn : Nat) (rulesfa : Nat → Int) (rulesfbaa : Nat → Int) (rulesfbabaf : Nat → Nat → Int) (text : ByteArray) (out_n : Nat) (at_ : Int) (b0a : Int) (b0baf : Nat → Int) (b0bban : Nat) (b0bbafn : Nat → Nat) (b0bbaff : Nat → Nat → Int) (b0bbban : Nat) (b0bbbaf : Nat → Int) (b1n : Nat) (b1fa : Nat → Int) (b1fba : Nat → Int) (b1fbba : Nat → Int) (res : AV)
    (h : (decide (at_ < (↑text.size : Int)) = true →
    ∃ (r : Int × Int × Int),
    Ok Proofs.Try.prog (64 : Nat)
    [AV.vec true (7 : Nat) rulesn rulesn fun (i : Nat) =>
    AV.cons (1 : Nat) (AV.sc (Value.int IntKind.i64 (rulesfa i)))
    (AV.cons (6 : Nat)
    (AV.cons (1 : Nat) (AV.sc (Value.int IntKind.i64 (rulesfbaa i)))
    (AV.cons (4 : Nat) (AV.ar (4 : Nat) (1 : Nat) fun (i_1 : Nat) => AV.sc (Value.int IntKind.u64 (rulesfbabaf i i_1)))
    (AV.cons (1 : Nat) AV.undef AV.nil)))
    AV.nil),
    AV.cons (1 : Nat) (AV.sc (Value.int IntKind.i64 b0a))
    (AV.cons (256 : Nat) (AV.ar (256 : Nat) (1 : Nat) fun (i : Nat) => AV.sc (Value.int IntKind.u8 (b0baf i)))
    (AV.cons (1 : Nat)
    (AV.vec true (1 : Nat) b0bban b0bban fun (i : Nat) =>
    AV.vec true (1 : Nat) (b0bbafn i) (b0bbafn i) fun (i_1 : Nat) => AV.sc (Value.int IntKind.i64 (b0bbaff i i_1)))
    (AV.cons (1 : Nat) (AV.vec true (1 : Nat) b0bbban b0bbban fun (i : Nat) => AV.sc (Value.int IntKind.i64 (b0bbbaf i))) AV.nil))),
    AV.sc (Value.string text), AV.sc (Value.int IntKind.i64 at_)]
    []
    (AV.cons (1 : Nat) (AV.sc (Value.int IntKind.i64 r.fst))
    (AV.cons (1 : Nat) (AV.sc (Value.int IntKind.i64 r.snd.fst)) (AV.cons (1 : Nat) (AV.sc (Value.int IntKind.i64 r.snd.snd)) AV.nil)))
    [] ∧
    (out_n ≤ b1n ∧ (0 : Nat) + (1 : Nat) ≤ (1 : Nat) ∧ (out_n + (1 : Nat)) * (24 : Nat) ≤ (140737488355328 : Nat) ∧ out_n + (1 : Nat) ≤ maxLen) ∧
    L23_1 rulesn rulesfa rulesfbaa rulesfbabaf text (out_n + (1 : Nat)) (IntKind.i64.wrap (at_ + r.snd.fst)) b0a b0baf b0bban b0bbafn b0bbaff b0bbban
    b0bbbaf (out_n + (1 : Nat)) (fun (i : Nat) => bif i.blt out_n then b1fa i else r.fst) (fun (i : Nat) => bif i.blt out_n then b1fba i else r.snd.fst)
    (fun (i : Nat) => bif i.blt out_n then b1fbba i else r.snd.snd) res) ∧
  (decide (at_ < (↑text.size : Int)) = false →
    ((0 : Nat) + out_n ≤ b1n ∧
    Sub
    (AV.cons (1 : Nat)
    (AV.vec false (3 : Nat) out_n (b1n - (0 : Nat)) fun (i : Nat) =>
    AV.cons (1 : Nat) (AV.sc (Value.int IntKind.i64 (b1fa (plus (0 : Nat) i))))
    (AV.cons (1 : Nat) (AV.sc (Value.int IntKind.i64 (b1fba (plus (0 : Nat) i))))
    (AV.cons (1 : Nat) (AV.sc (Value.int IntKind.i64 (b1fbba (plus (0 : Nat) i)))) AV.nil)))
    (AV.cons (1 : Nat) (AV.sc (Value.int IntKind.i64 (0 : Int))) AV.nil)).tup
    (AV.cons (1 : Nat)
    (AV.vec false (3 : Nat) out_n out_n fun (i : Nat) =>
    AV.cons (1 : Nat) (AV.sc (Value.int IntKind.i64 (b1fa (plus (0 : Nat) i))))
    (AV.cons (1 : Nat) (AV.sc (Value.int IntKind.i64 (b1fba (plus (0 : Nat) i))))
    (AV.cons (1 : Nat) (AV.sc (Value.int IntKind.i64 (b1fbba (plus (0 : Nat) i)))) AV.nil)))
    (AV.cons (1 : Nat) (AV.sc (Value.int IntKind.i64 (0 : Int))) AV.nil)).tup) ∧
    Sub
    (AV.cons (1 : Nat)
    (AV.vec false (3 : Nat) out_n out_n fun (i : Nat) =>
    AV.cons (1 : Nat) (AV.sc (Value.int IntKind.i64 (b1fa (plus (0 : Nat) i))))
    (AV.cons (1 : Nat) (AV.sc (Value.int IntKind.i64 (b1fba (plus (0 : Nat) i))))
    (AV.cons (1 : Nat) (AV.sc (Value.int IntKind.i64 (b1fbba (plus (0 : Nat) i)))) AV.nil)))
    (AV.cons (1 : Nat) (AV.sc (Value.int IntKind.i64 (0 : Int))) AV.nil)).tup
    res)) :
    L23_1 rulesn rulesfa rulesfbaa rulesfbabaf text out_n at_ b0a b0baf b0bban b0bbafn b0bbaff b0bbban b0bbbaf b1n b1fa b1fba b1fbba res :=
  rule Go.Am.Seat.tabOk 23 [] Go.Proofs.Try.f23 hf23 [1, 1, 1, 1, 1, 0, 1, 0, 0] (s23_1 rulesn rulesfa rulesfbaa rulesfbabaf text out_n at_ b0a b0baf b0bban b0bbafn b0bbaff b0bbban b0bbbaf b1n b1fa b1fba b1fbba) (m23_1 rulesn rulesfa rulesfbaa rulesfbabaf text out_n at_ b0a b0baf b0bban b0bbafn b0bbaff b0bbban b0bbbaf b1n b1fa b1fba b1fbba) res [] 400
    ((Orc.call [] []
    (fun (r64 : Int × Int × Int) =>
    AV.cons (1 : Nat) (AV.sc (Value.int IntKind.i64 r64.fst))
    (AV.cons (1 : Nat) (AV.sc (Value.int IntKind.i64 r64.snd.fst)) (AV.cons (1 : Nat) (AV.sc (Value.int IntKind.i64 r64.snd.snd)) AV.nil)))
    (fun (r64 : Int × Int × Int) => []) fun (r64 : Int × Int × Int) =>
    Orc.cut (nat_lit 5)
    (s23_1 rulesn rulesfa rulesfbaa rulesfbabaf text (out_n + (1 : Nat)) (IntKind.i64.wrap (at_ + r64.snd.fst)) b0a b0baf b0bban b0bbafn b0bbaff b0bbban
    b0bbbaf (out_n + (1 : Nat)) (fun (i : Nat) => bif i.blt out_n then b1fa i else r64.fst)
    (fun (i : Nat) => bif i.blt out_n then b1fba i else r64.snd.fst) fun (i : Nat) => bif i.blt out_n then b1fbba i else r64.snd.snd)
    (m23_1 rulesn rulesfa rulesfbaa rulesfbabaf text (out_n + (1 : Nat)) (IntKind.i64.wrap (at_ + r64.snd.fst)) b0a b0baf b0bban b0bbafn b0bbaff b0bbban
    b0bbbaf (out_n + (1 : Nat)) (fun (i : Nat) => bif i.blt out_n then b1fa i else r64.fst)
    (fun (i : Nat) => bif i.blt out_n then b1fba i else r64.snd.fst) fun (i : Nat) => bif i.blt out_n then b1fbba i else r64.snd.snd)
    [((1000 : Nat), some (1000 : Nat)), ((1001 : Nat), some (46 : Nat))]).br
  (Orc.fin
    (AV.cons (1 : Nat)
    (AV.vec false (3 : Nat) out_n out_n fun (i : Nat) =>
    AV.cons (1 : Nat) (AV.sc (Value.int IntKind.i64 (b1fa (plus (0 : Nat) i))))
    (AV.cons (1 : Nat) (AV.sc (Value.int IntKind.i64 (b1fba (plus (0 : Nat) i))))
    (AV.cons (1 : Nat) (AV.sc (Value.int IntKind.i64 (b1fbba (plus (0 : Nat) i)))) AV.nil)))
    (AV.cons (1 : Nat) (AV.sc (Value.int IntKind.i64 (0 : Int))) AV.nil)).tup
    [] [])) _ _ (by kernel_rfl) (by kernel_rfl) (show True ∧
  True ∧
    True ∧
    True ∧
    (decide (at_ < (↑text.size : Int)) = true →
    True ∧
    ((0 : Nat) = (0 : Nat) ∧ True) ∧
    True ∧
    True ∧
    ∃ (r : Int × Int × Int),
    ((True ∧ (True ∧ True ∧ True ∧ True ∧ True) ∧ True ∧ True ∧ True) ∧
    True ∧
    Ok Proofs.Try.prog (64 : Nat)
    [AV.vec true (7 : Nat) rulesn rulesn fun (i : Nat) =>
    AV.cons (1 : Nat) (AV.sc (Value.int IntKind.i64 (rulesfa i)))
    (AV.cons (6 : Nat)
    (AV.cons (1 : Nat) (AV.sc (Value.int IntKind.i64 (rulesfbaa i)))
    (AV.cons (4 : Nat) (AV.ar (4 : Nat) (1 : Nat) fun (i_1 : Nat) => AV.sc (Value.int IntKind.u64 (rulesfbabaf i i_1)))
    (AV.cons (1 : Nat) AV.undef AV.nil)))
    AV.nil),
    AV.cons (1 : Nat) (AV.sc (Value.int IntKind.i64 b0a))
    (AV.cons (256 : Nat) (AV.ar (256 : Nat) (1 : Nat) fun (i : Nat) => AV.sc (Value.int IntKind.u8 (b0baf i)))
    (AV.cons (1 : Nat)
    (AV.vec true (1 : Nat) b0bban b0bban fun (i : Nat) =>
    AV.vec true (1 : Nat) (b0bbafn i) (b0bbafn i) fun (i_1 : Nat) => AV.sc (Value.int IntKind.i64 (b0bbaff i i_1)))
    (AV.cons (1 : Nat) (AV.vec true (1 : Nat) b0bbban b0bbban fun (i : Nat) => AV.sc (Value.int IntKind.i64 (b0bbbaf i)))
    AV.nil))),
    AV.sc (Value.string text), AV.sc (Value.int IntKind.i64 at_)]
    []
    (AV.cons (1 : Nat) (AV.sc (Value.int IntKind.i64 r.fst))
    (AV.cons (1 : Nat) (AV.sc (Value.int IntKind.i64 r.snd.fst))
    (AV.cons (1 : Nat) (AV.sc (Value.int IntKind.i64 r.snd.snd)) AV.nil)))
    []) ∧
    True ∧
    ((0 : Nat) = (0 : Nat) ∧ True) ∧
    True ∧
    ((0 : Nat) = (0 : Nat) ∧ True) ∧
    (((True ∧ True ∧ True ∧ True) ∧ True) ∧ True) ∧
    (out_n ≤ b1n ∧
    ((0 : Nat) + (1 : Nat) ≤ (1 : Nat) ∧ (3 : Nat) = (3 : Nat)) ∧
    (out_n + (1 : Nat)) * (24 : Nat) ≤ (140737488355328 : Nat) ∧ out_n + (1 : Nat) ≤ maxLen) ∧
    True ∧
    True ∧
    True ∧
    ((1 : Nat) + (0 : Nat) = plus (0 : Nat) (1 : Nat) ∧ True) ∧
    True ∧
    True ∧
    ((True ∧
    Sub
    (AV.vec true (7 : Nat) rulesn rulesn fun (i0 : Nat) =>
    AV.cons (1 : Nat) (AV.sc (Value.int IntKind.i64 (rulesfa i0)))
    (AV.cons (6 : Nat)
    (AV.cons (1 : Nat) (AV.sc (Value.int IntKind.i64 (rulesfbaa i0)))
    (AV.cons (4 : Nat)
    (AV.ar (4 : Nat) (1 : Nat) fun (i1 : Nat) =>
    AV.sc (Value.int IntKind.u64 (rulesfbabaf i0 i1)))
    (AV.cons (1 : Nat) AV.undef AV.nil)))
    AV.nil))
    (AV.vec true (7 : Nat) rulesn rulesn fun (i0 : Nat) =>
    AV.cons (1 : Nat) (AV.sc (Value.int IntKind.i64 (rulesfa i0)))
    (AV.cons (6 : Nat)
    (AV.cons (1 : Nat) (AV.sc (Value.int IntKind.i64 (rulesfbaa i0)))
    (AV.cons (4 : Nat)
    (AV.ar (4 : Nat) (1 : Nat) fun (i1 : Nat) =>
    AV.sc (Value.int IntKind.u64 (rulesfbabaf i0 i1)))
    (AV.cons (1 : Nat) AV.undef AV.nil)))
    AV.nil)) ∧
    True ∧
    Sub (AV.sc (Value.string text)) (AV.sc (Value.string text)) ∧
    True ∧
    Sub (AV.pt (1000 : Nat) [] (0 : Nat)) (AV.pt (1000 : Nat) [] (0 : Nat)) ∧
    True ∧
    Sub (AV.rf (1001 : Nat) (3 : Nat) (0 : Nat) (out_n + (1 : Nat)))
    (AV.rf (1001 : Nat) (3 : Nat) (0 : Nat) (out_n + (1 : Nat))) ∧
    True ∧
    Sub (AV.sc (Value.int IntKind.i64 (IntKind.i64.wrap (at_ + r.snd.fst))))
    (AV.sc (Value.int IntKind.i64 (IntKind.i64.wrap (at_ + r.snd.fst)))) ∧
    True) ∧
    (True ∧ True ∧ True ∧ True ∧ True) ∧
    SubB
    (AV.cons (1 : Nat) (AV.sc (Value.int IntKind.i64 b0a))
    (AV.cons (256 : Nat)
    (AV.ar (256 : Nat) (1 : Nat) fun (i0 : Nat) => AV.sc (Value.int IntKind.u8 (b0baf i0)))
    (AV.cons (1 : Nat)
    (AV.vec true (1 : Nat) b0bban b0bban fun (i0 : Nat) =>
    AV.vec true (1 : Nat) (b0bbafn i0) (b0bbafn i0) fun (i1 : Nat) =>
    AV.sc (Value.int IntKind.i64 (b0bbaff i0 i1)))
    (AV.cons (1 : Nat)
    (AV.vec true (1 : Nat) b0bbban b0bbban fun (i0 : Nat) =>
    AV.sc (Value.int IntKind.i64 (b0bbbaf i0)))
    AV.nil))))
    (AV.cons (1 : Nat) (AV.sc (Value.int IntKind.i64 b0a))
    (AV.cons (256 : Nat)
    (AV.ar (256 : Nat) (1 : Nat) fun (i0 : Nat) => AV.sc (Value.int IntKind.u8 (b0baf i0)))
    (AV.cons (1 : Nat)
    (AV.vec true (1 : Nat) b0bban b0bban fun (i0 : Nat) =>
    AV.vec true (1 : Nat) (b0bbafn i0) (b0bbafn i0) fun (i1 : Nat) =>
    AV.sc (Value.int IntKind.i64 (b0bbaff i0 i1)))
    (AV.cons (1 : Nat)
    (AV.vec true (1 : Nat) b0bbban b0bbban fun (i0 : Nat) =>
    AV.sc (Value.int IntKind.i64 (b0bbbaf i0)))
    AV.nil)))) ∧
    True ∧
    SubB
    (AV.ar (out_n + (1 : Nat)) (3 : Nat) fun (i : Nat) =>
    AV.cons (1 : Nat) (AV.sc (Value.int IntKind.i64 (bif i.blt out_n then b1fa i else r.fst)))
    (AV.cons (1 : Nat)
    (AV.sc (Value.int IntKind.i64 (bif i.blt out_n then b1fba i else r.snd.fst)))
    (AV.cons (1 : Nat)
    (AV.sc (Value.int IntKind.i64 (bif i.blt out_n then b1fbba i else r.snd.snd))) AV.nil)))
    (AV.ar (out_n + (1 : Nat)) (3 : Nat) fun (i0 : Nat) =>
    AV.cons (1 : Nat) (AV.sc (Value.int IntKind.i64 (bif i0.blt out_n then b1fa i0 else r.fst)))
    (AV.cons (1 : Nat)
    (AV.sc (Value.int IntKind.i64 (bif i0.blt out_n then b1fba i0 else r.snd.fst)))
    (AV.cons (1 : Nat)
    (AV.sc (Value.int IntKind.i64 (bif i0.blt out_n then b1fbba i0 else r.snd.snd)))
    AV.nil))) ∧
    True) ∧
    L23_1 rulesn rulesfa rulesfbaa rulesfbabaf text (out_n + (1 : Nat)) (IntKind.i64.wrap (at_ + r.snd.fst)) b0a
    b0baf b0bban b0bbafn b0bbaff b0bbban b0bbbaf (out_n + (1 : Nat))
    (fun (i : Nat) => bif i.blt out_n then b1fa i else r.fst)
    (fun (i : Nat) => bif i.blt out_n then b1fba i else r.snd.fst)
    (fun (i : Nat) => bif i.blt out_n then b1fbba i else r.snd.snd) res) ∧
    (decide (at_ < (↑text.size : Int)) = false →
    True ∧
    True ∧
    True ∧
    (True ∧ True ∧ True) ∧
    ((((0 : Nat) + out_n ≤ b1n ∧ True ∧ True) ∧
    Sub
    (AV.cons (1 : Nat)
    (AV.vec false (3 : Nat) out_n (b1n - (0 : Nat)) fun (i : Nat) =>
    AV.cons (1 : Nat) (AV.sc (Value.int IntKind.i64 (b1fa (plus (0 : Nat) i))))
    (AV.cons (1 : Nat) (AV.sc (Value.int IntKind.i64 (b1fba (plus (0 : Nat) i))))
    (AV.cons (1 : Nat) (AV.sc (Value.int IntKind.i64 (b1fbba (plus (0 : Nat) i)))) AV.nil)))
    (AV.cons (1 : Nat) (AV.sc (Value.int IntKind.i64 (0 : Int))) AV.nil)).tup
    (AV.cons (1 : Nat)
    (AV.vec false (3 : Nat) out_n out_n fun (i : Nat) =>
    AV.cons (1 : Nat) (AV.sc (Value.int IntKind.i64 (b1fa (plus (0 : Nat) i))))
    (AV.cons (1 : Nat) (AV.sc (Value.int IntKind.i64 (b1fba (plus (0 : Nat) i))))
    (AV.cons (1 : Nat) (AV.sc (Value.int IntKind.i64 (b1fbba (plus (0 : Nat) i)))) AV.nil)))
    (AV.cons (1 : Nat) (AV.sc (Value.int IntKind.i64 (0 : Int))) AV.nil)).tup ∧
    True) ∧
    True) ∧
    Sub
    (AV.cons (1 : Nat)
    (AV.vec false (3 : Nat) out_n out_n fun (i : Nat) =>
    AV.cons (1 : Nat) (AV.sc (Value.int IntKind.i64 (b1fa (plus (0 : Nat) i))))
    (AV.cons (1 : Nat) (AV.sc (Value.int IntKind.i64 (b1fba (plus (0 : Nat) i))))
    (AV.cons (1 : Nat) (AV.sc (Value.int IntKind.i64 (b1fbba (plus (0 : Nat) i)))) AV.nil)))
    (AV.cons (1 : Nat) (AV.sc (Value.int IntKind.i64 (0 : Int))) AV.nil)).tup
    res ∧
    SubOut [] []) from
    ⟨trivial, ⟨trivial, ⟨trivial, ⟨trivial, (And.elim (fun h4 k4 => ⟨(fun x5 => (fun h5 => ⟨trivial, ⟨⟨rfl, trivial⟩, ⟨trivial, ⟨trivial, (Exists.elim h5 fun x10 h10 => ⟨x10, (And.elim (fun h11 k11 => ⟨⟨⟨trivial, ⟨⟨trivial, ⟨trivial, ⟨trivial, ⟨trivial, trivial⟩⟩⟩⟩, ⟨trivial, ⟨trivial, trivial⟩⟩⟩⟩, ⟨trivial, h11⟩⟩, ⟨trivial, ⟨⟨rfl, trivial⟩, ⟨trivial, ⟨⟨rfl, trivial⟩, ⟨⟨⟨⟨trivial, ⟨trivial, ⟨trivial, trivial⟩⟩⟩, trivial⟩, trivial⟩, (And.elim (fun h17 k17 => ⟨(And.elim (fun h18 k18 => ⟨h18, (And.elim (fun h19 k19 => ⟨((fun h20 => ⟨h20, rfl⟩) h19), (And.elim (fun h20 k20 => ⟨h20, k20⟩) k19)⟩) k18)⟩) h17), ⟨trivial, ⟨trivial, ⟨trivial, ⟨⟨rfl, trivial⟩, ⟨trivial, ⟨trivial, ⟨⟨⟨trivial, ⟨Sub.refl _, ⟨trivial, ⟨Sub.refl _, ⟨trivial, ⟨Sub.refl _, ⟨trivial, ⟨Sub.refl _, ⟨trivial, ⟨Sub.refl _, trivial⟩⟩⟩⟩⟩⟩⟩⟩⟩⟩, ⟨⟨trivial, ⟨trivial, ⟨trivial, ⟨trivial, trivial⟩⟩⟩⟩, ⟨SubB.refl _, ⟨trivial, ⟨SubB.refl _, trivial⟩⟩⟩⟩⟩, k17⟩⟩⟩⟩⟩⟩⟩⟩) k11)⟩⟩⟩⟩⟩⟩) h10)⟩)⟩⟩⟩⟩) (h4 x5)), (fun x5 => (fun h5 => ⟨trivial, ⟨trivial, ⟨trivial, ⟨⟨trivial, ⟨trivial, trivial⟩⟩, (And.elim (fun h10 k10 => ⟨((fun h11 => ⟨(And.elim (fun h12 k12 => ⟨((fun h13 => ⟨h13, ⟨trivial, trivial⟩⟩) h12), ((fun h13 => ⟨h13, trivial⟩) k12)⟩) h11), trivial⟩) h10), ((fun h11 => ⟨h11, trivial⟩) k10)⟩) h5)⟩⟩⟩⟩) (k4 x5))⟩) h)⟩⟩⟩⟩)
theorem hf25 : Go.Proofs.Try.prog.funcs[25]? = some Go.Proofs.Try.f25 := by kernel_rfl
abbrev s25_e (an : Nat) (afa : Nat → Int) (afba : Nat → Int) (afbba : Nat → Int) (bn : Nat) (bfa : Nat → Int) (bfba : Nat → Int) (bfbba : Nat → Int) : List (Nat × AV) := [(0, (.vec true 3 an an (fun i0 => (.cons 1 (.sc (.int .i64 (afa i0))) (.cons 1 (.sc (.int .i64 (afba i0))) (.cons 1 (.sc (.int .i64 (afbba i0))) .nil)))))), (1, (.vec true 3 bn bn (fun i0 => (.cons 1 (.sc (.int .i64 (bfa i0))) (.cons 1 (.sc (.int .i64 (bfba i0))) (.cons 1 (.sc (.int .i64 (bfbba i0))) .nil))))))]
abbrev m25_e (an : Nat) (afa : Nat → Int) (afba : Nat → Int) (afbba : Nat → Int) (bn : Nat) (bfa : Nat → Int) (bfba : Nat → Int) (bfbba : Nat → Int) : List (Nat × Nat × AV) := []
def L25_e (an : Nat) (afa : Nat → Int) (afba : Nat → Int) (afbba : Nat → Int) (bn : Nat) (bfa : Nat → Int) (bfba : Nat → Int) (bfbba : Nat → Int) (res : AV) : Prop := Goes ⟨Go.Proofs.Try.prog, 25, [], res, []⟩ (place Go.Proofs.Try.f25 []) (s25_e an afa afba afbba bn bfa bfba bfbba) (m25_e an afa afba afbba bn bfa bfba bfbba)
theorem a25_e (an : Nat) (afa : Nat → Int) (afba : Nat → Int) (afbba : Nat → Int) (bn : Nat) (bfa : Nat → Int) (bfba : Nat → Int) (bfbba : Nat → Int) (res : AV) (h : (∀ slot, fact (look .undef (s25_e an afa afba afbba bn bfa bfba bfbba) slot)) → L25_e an afa afba afbba bn bfa bfba bfbba res) : L25_e an afa afba afbba bn bfa bfba bfbba res :=
  assumeRule 25 [] Go.Proofs.Try.f25 hf25 [] (s25_e an afa afba afbba bn bfa bfba bfbba) (m25_e an afa afba afbba bn bfa bfba bfbba) res [] _ (by kernel_rfl) h
abbrev s25_0 (an : Nat) (afa : Nat → Int) (afba : Nat → Int) (afbba : Nat → Int) (bn : Nat) (bfa : Nat → Int) (bfba : Nat → Int) (bfbba : Nat → Int) (i : Int) : List (Nat × AV) := [(0, (.vec true 3 an an (fun i0 => (.cons 1 (.sc (.int .i64 (afa i0))) (.cons 1 (.sc (.int .i64 (afba i0))) (.cons 1 (.sc (.int .i64 (afbba i0))) .nil)))))), (1, (.vec true 3 bn bn (fun i0 => (.cons 1 (.sc (.int .i64 (bfa i0))) (.cons 1 (.sc (.int .i64 (bfba i0))) (.cons 1 (.sc (.int .i64 (bfbba i0))) .nil)))))), (5, (.sc (.int .i64 i)))]
abbrev m25_0 (an : Nat) (afa : Nat → Int) (afba : Nat → Int) (afbba : Nat → Int) (bn : Nat) (bfa : Nat → Int) (bfba : Nat → Int) (bfbba : Nat → Int) (i : Int) : List (Nat × Nat × AV) := []
def L25_0 (an : Nat) (afa : Nat → Int) (afba : Nat → Int) (afbba : Nat → Int) (bn : Nat) (bfa : Nat → Int) (bfba : Nat → Int) (bfbba : Nat → Int) (i : Int) (res : AV) : Prop := Goes ⟨Go.Proofs.Try.prog, 25, [], res, []⟩ (place Go.Proofs.Try.f25 [1, 1, 0, 1, 0, 0]) (s25_0 an afa afba afbba bn bfa bfba bfbba i) (m25_0 an afa afba afbba bn bfa bfba bfbba i)
theorem a25_0 (an : Nat) (afa : Nat → Int) (afba : Nat → Int) (afbba : Nat → Int) (bn : Nat) (bfa : Nat → Int) (bfba : Nat → Int) (bfbba : Nat → Int) (i : Int) (res : AV) (h : (∀ slot, fact (look .undef (s25_0 an afa afba afbba bn bfa bfba bfbba i) slot)) → L25_0 an afa afba afbba bn bfa bfba bfbba i res) : L25_0 an afa afba afbba bn bfa bfba bfbba i res :=
  assumeRule 25 [] Go.Proofs.Try.f25 hf25 [1, 1, 0, 1, 0, 0] (s25_0 an afa afba afbba bn bfa bfba bfbba i) (m25_0 an afa afba afbba bn bfa bfba bfbba i) res [] _ (by kernel_rfl) h
theorem o25 (an : Nat) (afa : Nat → Int) (afba : Nat → Int) (afbba : Nat → Int) (bn : Nat) (bfa : Nat → Int) (bfba : Nat → Int) (bfbba : Nat → Int) (res : AV) (hnew : newOnly res) (h : L25_e an afa afba afbba bn bfa bfba bfbba res) : Ok Go.Proofs.Try.prog 25 [(.vec true 3 an an (fun i0 => (.cons 1 (.sc (.int .i64 (afa i0))) (.cons 1 (.sc (.int .i64 (afba i0))) (.cons 1 (.sc (.int .i64 (afbba i0))) .nil))))), (.vec true 3 bn bn (fun i0 => (.cons 1 (.sc (.int .i64 (bfa i0))) (.cons 1 (.sc (.int .i64 (bfba i0))) (.cons 1 (.sc (.int .i64 (bfbba i0))) .nil)))))] [] res [] :=
  okRule2 25 Go.Proofs.Try.f25 hf25 [(.vec true 3 an an (fun i0 => (.cons 1 (.sc (.int .i64 (afa i0))) (.cons 1 (.sc (.int .i64 (afba i0))) (.cons 1 (.sc (.int .i64 (afbba i0))) .nil))))), (.vec true 3 bn bn (fun i0 => (.cons 1 (.sc (.int .i64 (bfa i0))) (.cons 1 (.sc (.int .i64 (bfba i0))) (.cons 1 (.sc (.int .i64 (bfbba i0))) .nil)))))] [] res [] [] rfl (by kernel_rfl) (by kernel_rfl) (by kernel_rfl) ⟨hnew, by simp⟩ (L25_e an afa afba afbba bn bfa bfba bfbba res) (by kernel_rfl) h
theorem r25_e (an : Nat) (afa : Nat → Int) (afba : Nat → Int) (afbba : Nat → Int) (bn : Nat) (bfa : Nat → Int) (bfba : Nat → Int) (bfbba : Nat → Int) (res : AV)
    (h : (((↑an : Int) != (↑bn : Int)) = true → Sub (AV.sc (Value.bool false)) res) ∧
  (((↑an : Int) != (↑bn : Int)) = false → L25_0 an afa afba afbba bn bfa bfba bfbba (0 : Int) res)) :
    L25_e an afa afba afbba bn bfa bfba bfbba res :=
  rule Go.Am.Seat.tabOk 25 [] Go.Proofs.Try.f25 hf25 [] (s25_e an afa afba afbba bn bfa bfba bfbba) (m25_e an afa afba afbba bn bfa bfba bfbba) res [] 400
    ((Orc.fin (AV.sc (Value.bool false)) [] []).br
  (Orc.cut (nat_lit 6) (s25_0 an afa afba afbba bn bfa bfba bfbba (0 : Int)) (m25_0 an afa afba afbba bn bfa bfba bfbba (0 : Int)) [])) _ _ (by kernel_rfl) (by kernel_rfl) (show True ∧
  True ∧
    True ∧
    True ∧
    True ∧
    True ∧
    (((↑an : Int) != (↑bn : Int)) = true →
    True ∧
    True ∧
    ((True ∧ Sub (AV.sc (Value.bool false)) (AV.sc (Value.bool false)) ∧ True) ∧ True) ∧ Sub (AV.sc (Value.bool false)) res ∧ SubOut [] []) ∧
    (((↑an : Int) != (↑bn : Int)) = false →
    True ∧
    ((True ∧
    Sub
    (AV.vec true (3 : Nat) an an fun (i0 : Nat) =>
    AV.cons (1 : Nat) (AV.sc (Value.int IntKind.i64 (afa i0)))
    (AV.cons (1 : Nat) (AV.sc (Value.int IntKind.i64 (afba i0)))
    (AV.cons (1 : Nat) (AV.sc (Value.int IntKind.i64 (afbba i0))) AV.nil)))
    (AV.vec true (3 : Nat) an an fun (i0 : Nat) =>
    AV.cons (1 : Nat) (AV.sc (Value.int IntKind.i64 (afa i0)))
    (AV.cons (1 : Nat) (AV.sc (Value.int IntKind.i64 (afba i0)))
    (AV.cons (1 : Nat) (AV.sc (Value.int IntKind.i64 (afbba i0))) AV.nil))) ∧
    True ∧
    Sub
    (AV.vec true (3 : Nat) bn bn fun (i0 : Nat) =>
    AV.cons (1 : Nat) (AV.sc (Value.int IntKind.i64 (bfa i0)))
    (AV.cons (1 : Nat) (AV.sc (Value.int IntKind.i64 (bfba i0)))
    (AV.cons (1 : Nat) (AV.sc (Value.int IntKind.i64 (bfbba i0))) AV.nil)))
    (AV.vec true (3 : Nat) bn bn fun (i0 : Nat) =>
    AV.cons (1 : Nat) (AV.sc (Value.int IntKind.i64 (bfa i0)))
    (AV.cons (1 : Nat) (AV.sc (Value.int IntKind.i64 (bfba i0)))
    (AV.cons (1 : Nat) (AV.sc (Value.int IntKind.i64 (bfbba i0))) AV.nil))) ∧
    True ∧ Sub (AV.sc (Value.int IntKind.i64 (0 : Int))) (AV.sc (Value.int IntKind.i64 (0 : Int))) ∧ True) ∧
    True) ∧
    L25_0 an afa afba afbba bn bfa bfba bfbba (0 : Int) res) from
    ⟨trivial, ⟨trivial, ⟨trivial, ⟨trivial, ⟨trivial, ⟨trivial, (And.elim (fun h6 k6 => ⟨(fun x7 => (fun h7 => ⟨trivial, ⟨trivial, ⟨⟨⟨trivial, ⟨Sub.refl _, trivial⟩⟩, trivial⟩, ((fun h11 => ⟨h11, trivial⟩) h7)⟩⟩⟩) (h6 x7)), (fun x7 => (fun h7 => ⟨trivial, ⟨⟨⟨trivial, ⟨Sub.refl _, ⟨trivial, ⟨Sub.refl _, ⟨trivial, ⟨Sub.refl _, trivial⟩⟩⟩⟩⟩⟩, trivial⟩, h7⟩⟩) (k6 x7))⟩) h)⟩⟩⟩⟩⟩⟩)
theorem r25_0 (an : Nat) (afa : Nat → Int) (afba : Nat → Int) (afbba : Nat → Int) (bn : Nat) (bfa : Nat → Int) (bfba : Nat → Int) (bfbba : Nat → Int) (i : Int) (res : AV)
    (h : (decide (i < (↑an : Int)) = true →
    ((0 : Int) ≤ i ∧ i < (↑an : Int)) ∧
    ((0 : Int) ≤ i ∧ i < (↑bn : Int)) ∧
    ((!cdec (afa i.toNat = bfa i.toNat ∧ afba i.toNat = bfba i.toNat ∧ afbba i.toNat = bfbba i.toNat ∧ True)) = true → Sub (AV.sc (Value.bool false)) res) ∧
    ((!cdec (afa i.toNat = bfa i.toNat ∧ afba i.toNat = bfba i.toNat ∧ afbba i.toNat = bfbba i.toNat ∧ True)) = false →
    L25_0 an afa afba afbba bn bfa bfba bfbba (IntKind.i64.wrap (i + (1 : Int))) res)) ∧
  (decide (i < (↑an : Int)) = false → Sub (AV.sc (Value.bool true)) res)) :
    L25_0 an afa afba afbba bn bfa bfba bfbba i res :=
  rule Go.Am.Seat.tabOk 25 [] Go.Proofs.Try.f25 hf25 [1, 1, 0, 1, 0, 0] (s25_0 an afa afba afbba bn bfa bfba bfbba i) (m25_0 an afa afba afbba bn bfa bfba bfbba i) res [] 400
    (((Orc.fin (AV.sc (Value.bool false)) [] []).br
    (Orc.cut (nat_lit 4) (s25_0 an afa afba afbba bn bfa bfba bfbba (IntKind.i64.wrap (i + (1 : Int))))
    (m25_0 an afa afba afbba bn bfa bfba bfbba (IntKind.i64.wrap (i + (1 : Int)))) [])).br
  (Orc.fin (AV.sc (Value.bool true)) [] [])) _ _ (by kernel_rfl) (by kernel_rfl) (show True ∧
  True ∧
    True ∧
    True ∧
    (decide (i < (↑an : Int)) = true →
    True ∧
    True ∧
    ((0 : Int) ≤ i ∧ i < (↑an : Int)) ∧
    True ∧
    True ∧
    True ∧
    ((0 : Int) ≤ i ∧ i < (↑bn : Int)) ∧
    True ∧
    ((True ∧ True) ∧ True ∧ (True ∧ True) ∧ True ∧ (True ∧ True) ∧ True ∧ True) ∧
    ((!cdec (afa i.toNat = bfa i.toNat ∧ afba i.toNat = bfba i.toNat ∧ afbba i.toNat = bfbba i.toNat ∧ True)) = true →
    True ∧
    True ∧
    ((True ∧ Sub (AV.sc (Value.bool false)) (AV.sc (Value.bool false)) ∧ True) ∧ True) ∧
    Sub (AV.sc (Value.bool false)) res ∧ SubOut [] []) ∧
    ((!cdec (afa i.toNat = bfa i.toNat ∧ afba i.toNat = bfba i.toNat ∧ afbba i.toNat = bfbba i.toNat ∧ True)) = false →
    True ∧
    True ∧
    True ∧
    ((True ∧
    Sub
    (AV.vec true (3 : Nat) an an fun (i0 : Nat) =>
    AV.cons (1 : Nat) (AV.sc (Value.int IntKind.i64 (afa i0)))
    (AV.cons (1 : Nat) (AV.sc (Value.int IntKind.i64 (afba i0)))
    (AV.cons (1 : Nat) (AV.sc (Value.int IntKind.i64 (afbba i0))) AV.nil)))
    (AV.vec true (3 : Nat) an an fun (i0 : Nat) =>
    AV.cons (1 : Nat) (AV.sc (Value.int IntKind.i64 (afa i0)))
    (AV.cons (1 : Nat) (AV.sc (Value.int IntKind.i64 (afba i0)))
    (AV.cons (1 : Nat) (AV.sc (Value.int IntKind.i64 (afbba i0))) AV.nil))) ∧
    True ∧
    Sub
    (AV.vec true (3 : Nat) bn bn fun (i0 : Nat) =>
    AV.cons (1 : Nat) (AV.sc (Value.int IntKind.i64 (bfa i0)))
    (AV.cons (1 : Nat) (AV.sc (Value.int IntKind.i64 (bfba i0)))
    (AV.cons (1 : Nat) (AV.sc (Value.int IntKind.i64 (bfbba i0))) AV.nil)))
    (AV.vec true (3 : Nat) bn bn fun (i0 : Nat) =>
    AV.cons (1 : Nat) (AV.sc (Value.int IntKind.i64 (bfa i0)))
    (AV.cons (1 : Nat) (AV.sc (Value.int IntKind.i64 (bfba i0)))
    (AV.cons (1 : Nat) (AV.sc (Value.int IntKind.i64 (bfbba i0))) AV.nil))) ∧
    True ∧
    Sub (AV.sc (Value.int IntKind.i64 (IntKind.i64.wrap (i + (1 : Int)))))
    (AV.sc (Value.int IntKind.i64 (IntKind.i64.wrap (i + (1 : Int))))) ∧
    True) ∧
    True) ∧
    L25_0 an afa afba afbba bn bfa bfba bfbba (IntKind.i64.wrap (i + (1 : Int))) res)) ∧
    (decide (i < (↑an : Int)) = false →
    True ∧ True ∧ ((True ∧ Sub (AV.sc (Value.bool true)) (AV.sc (Value.bool true)) ∧ True) ∧ True) ∧ Sub (AV.sc (Value.bool true)) res ∧ SubOut [] []) from
    ⟨trivial, ⟨trivial, ⟨trivial, ⟨trivial, (And.elim (fun h4 k4 => ⟨(fun x5 => (fun h5 => ⟨trivial, ⟨trivial, (And.elim (fun h8 k8 => ⟨(And.elim (fun h9 k9 => ⟨h9, k9⟩) h8), ⟨trivial, ⟨trivial, ⟨trivial, (And.elim (fun h12 k12 => ⟨(And.elim (fun h13 k13 => ⟨h13, k13⟩) h12), ⟨trivial, ⟨⟨⟨trivial, trivial⟩, ⟨trivial, ⟨⟨trivial, trivial⟩, ⟨trivial, ⟨⟨trivial, trivial⟩, ⟨trivial, trivial⟩⟩⟩⟩⟩⟩, (And.elim (fun h15 k15 => ⟨(fun x16 => (fun h16 => ⟨trivial, ⟨trivial, ⟨⟨⟨trivial, ⟨Sub.refl _, trivial⟩⟩, trivial⟩, ((fun h20 => ⟨h20, trivial⟩) h16)⟩⟩⟩) (h15 x16)), (fun x16 => (fun h16 => ⟨trivial, ⟨trivial, ⟨trivial, ⟨⟨⟨trivial, ⟨Sub.refl _, ⟨trivial, ⟨Sub.refl _, ⟨trivial, ⟨Sub.refl _, trivial⟩⟩⟩⟩⟩⟩, trivial⟩, h16⟩⟩⟩⟩) (k15 x16))⟩) k12)⟩⟩⟩) k8)⟩⟩⟩⟩) h5)⟩⟩) (h4 x5)), (fun x5 => (fun h5 => ⟨trivial, ⟨trivial, ⟨⟨⟨trivial, ⟨Sub.refl _, trivial⟩⟩, trivial⟩, ((fun h9 => ⟨h9, trivial⟩) h5)⟩⟩⟩) (k4 x5))⟩) h)⟩⟩⟩⟩)
theorem hf27 : Go.Proofs.Try.prog.funcs[27]? = some Go.Proofs.Try.f27 := by kernel_rfl
abbrev s27_e : List (Nat × AV) := []
abbrev m27_e : List (Nat × Nat × AV) := []
def L27_e (res : AV) : Prop := Goes ⟨Go.Proofs.Try.prog, 27, [], res, []⟩ (place Go.Proofs.Try.f27 []) (s27_e ) (m27_e )
theorem a27_e (res : AV) (h : (∀ slot, fact (look .undef (s27_e ) slot)) → L27_e  res) : L27_e  res :=
  assumeRule 27 [] Go.Proofs.Try.f27 hf27 [] (s27_e ) (m27_e ) res [] _ (by kernel_rfl) h
theorem o27 (res : AV) (hnew : newOnly res) (h : L27_e  res) : Ok Go.Proofs.Try.prog 27 [] [] res [] :=
  okRule2 27 Go.Proofs.Try.f27 hf27 [] [] res [] [] rfl (by kernel_rfl) (by kernel_rfl) (by kernel_rfl) ⟨hnew, by simp⟩ (L27_e  res) (by kernel_rfl) h
theorem r27_e (res : AV)
    (h : ∃ (r : Nat × (Nat → Int) × (Nat → Int) × (Nat → Nat → Int) × Int × (Nat → Int) × Nat × (Nat → Nat) × (Nat → Nat → Int) × Nat × (Nat → Int)),
  Ok Proofs.Try.prog (68 : Nat) [] []
    (AV.cons (1 : Nat)
    (AV.vec false (7 : Nat) r.fst r.fst fun (i0 : Nat) =>
    AV.cons (1 : Nat) (AV.sc (Value.int IntKind.i64 (r.snd.fst i0)))
    (AV.cons (6 : Nat)
    (AV.cons (1 : Nat) (AV.sc (Value.int IntKind.i64 (r.snd.snd.fst i0)))
    (AV.cons (4 : Nat) (AV.ar (4 : Nat) (1 : Nat) fun (i1 : Nat) => AV.sc (Value.int IntKind.u64 (r.snd.snd.snd.fst i0 i1)))
    (AV.cons (1 : Nat) AV.undef AV.nil)))
    AV.nil))
    (AV.cons (1 : Nat)
    (AV.cons (1 : Nat) (AV.sc (Value.int IntKind.i64 r.snd.snd.snd.snd.fst))
    (AV.cons (256 : Nat) (AV.ar (256 : Nat) (1 : Nat) fun (i0 : Nat) => AV.sc (Value.int IntKind.u8 (r.snd.snd.snd.snd.snd.fst i0)))
    (AV.cons (1 : Nat)
    (AV.vec false (1 : Nat) r.snd.snd.snd.snd.snd.snd.fst r.snd.snd.snd.snd.snd.snd.fst fun (i0 : Nat) =>
    AV.vec false (1 : Nat) (r.snd.snd.snd.snd.snd.snd.snd.fst i0) (r.snd.snd.snd.snd.snd.snd.snd.fst i0) fun (i1 : Nat) =>
    AV.sc (Value.int IntKind.i64 (r.snd.snd.snd.snd.snd.snd.snd.snd.fst i0 i1)))
    (AV.cons (1 : Nat)
    (AV.vec false (1 : Nat) r.snd.snd.snd.snd.snd.snd.snd.snd.snd.fst r.snd.snd.snd.snd.snd.snd.snd.snd.snd.fst fun (i0 : Nat) =>
    AV.sc (Value.int IntKind.i64 (r.snd.snd.snd.snd.snd.snd.snd.snd.snd.snd i0)))
    AV.nil))))
    AV.nil)).tup
    [] ∧
    ∃ (r_1 : Nat × (Nat → Int) × (Nat → Int) × (Nat → Int) × Int),
    Ok Proofs.Try.prog (23 : Nat)
    [AV.vec true (7 : Nat) r.fst r.fst fun (i : Nat) =>
    AV.cons (1 : Nat) (AV.sc (Value.int IntKind.i64 (r.snd.fst i)))
    (AV.cons (6 : Nat)
    (AV.cons (1 : Nat) (AV.sc (Value.int IntKind.i64 (r.snd.snd.fst i)))
    (AV.cons (4 : Nat) (AV.ar (4 : Nat) (1 : Nat) fun (i_1 : Nat) => AV.sc (Value.int IntKind.u64 (r.snd.snd.snd.fst i i_1)))
    (AV.cons (1 : Nat) AV.undef AV.nil)))
    AV.nil),
    AV.cons (1 : Nat) (AV.sc (Value.int IntKind.i64 r.snd.snd.snd.snd.fst))
    (AV.cons (256 : Nat) (AV.ar (256 : Nat) (1 : Nat) fun (i : Nat) => AV.sc (Value.int IntKind.u8 (r.snd.snd.snd.snd.snd.fst i)))
    (AV.cons (1 : Nat)
    (AV.vec true (1 : Nat) r.snd.snd.snd.snd.snd.snd.fst r.snd.snd.snd.snd.snd.snd.fst fun (i : Nat) =>
    AV.vec true (1 : Nat) (r.snd.snd.snd.snd.snd.snd.snd.fst i) (r.snd.snd.snd.snd.snd.snd.snd.fst i) fun (i_1 : Nat) =>
    AV.sc (Value.int IntKind.i64 (r.snd.snd.snd.snd.snd.snd.snd.snd.fst i i_1)))
    (AV.cons (1 : Nat)
    (AV.vec true (1 : Nat) r.snd.snd.snd.snd.snd.snd.snd.snd.snd.fst r.snd.snd.snd.snd.snd.snd.snd.snd.snd.fst fun (i : Nat) =>
    AV.sc (Value.int IntKind.i64 (r.snd.snd.snd.snd.snd.snd.snd.snd.snd.snd i)))
    AV.nil))),
    AV.sc (Value.string (ByteArray.mk #[(97 : UInt8), (97 : UInt8), (98 : UInt8), (99 : UInt8)]))]
    []
    (AV.cons (1 : Nat)
    (AV.vec false (3 : Nat) r_1.fst r_1.fst fun (i0 : Nat) =>
    AV.cons (1 : Nat) (AV.sc (Value.int IntKind.i64 (r_1.snd.fst i0)))
    (AV.cons (1 : Nat) (AV.sc (Value.int IntKind.i64 (r_1.snd.snd.fst i0)))
    (AV.cons (1 : Nat) (AV.sc (Value.int IntKind.i64 (r_1.snd.snd.snd.fst i0))) AV.nil)))
    (AV.cons (1 : Nat) (AV.sc (Value.int IntKind.i64 r_1.snd.snd.snd.snd)) AV.nil)).tup
    [] ∧
    ((0 : Int) ≤ (0 : Int) ∧ (0 : Int) ≤ (1 : Int) ∧ (1 : Int) ≤ (↑r.fst : Int)) ∧
    ∃ (r_2 : Nat × (Nat → Int) × (Nat → Int) × (Nat → Int) × Int),
    Ok Proofs.Try.prog (23 : Nat)
    [AV.vec true (7 : Nat) ((1 : Int) - (0 : Int)).toNat (r.fst - Int.toNat (0 : Int)) fun (i : Nat) =>
    AV.cons (1 : Nat) (AV.sc (Value.int IntKind.i64 (r.snd.fst (plus (Int.toNat (0 : Int)) i))))
    (AV.cons (6 : Nat)
    (AV.cons (1 : Nat) (AV.sc (Value.int IntKind.i64 (r.snd.snd.fst (plus (Int.toNat (0 : Int)) i))))
    (AV.cons (4 : Nat)
    (AV.ar (4 : Nat) (1 : Nat) fun (i_1 : Nat) => AV.sc (Value.int IntKind.u64 (r.snd.snd.snd.fst (plus (Int.toNat (0 : Int)) i) i_1)))
    (AV.cons (1 : Nat) AV.undef AV.nil)))
    AV.nil),
    AV.cons (1 : Nat) (AV.sc (Value.int IntKind.i64 r.snd.snd.snd.snd.fst))
    (AV.cons (256 : Nat) (AV.ar (256 : Nat) (1 : Nat) fun (i : Nat) => AV.sc (Value.int IntKind.u8 (r.snd.snd.snd.snd.snd.fst i)))
    (AV.cons (1 : Nat)
    (AV.vec true (1 : Nat) r.snd.snd.snd.snd.snd.snd.fst r.snd.snd.snd.snd.snd.snd.fst fun (i : Nat) =>
    AV.vec true (1 : Nat) (r.snd.snd.snd.snd.snd.snd.snd.fst i) (r.snd.snd.snd.snd.snd.snd.snd.fst i) fun (i_1 : Nat) =>
    AV.sc (Value.int IntKind.i64 (r.snd.snd.snd.snd.snd.snd.snd.snd.fst i i_1)))
    (AV.cons (1 : Nat)
    (AV.vec true (1 : Nat) r.snd.snd.snd.snd.snd.snd.snd.snd.snd.fst r.snd.snd.snd.snd.snd.snd.snd.snd.snd.fst fun (i : Nat) =>
    AV.sc (Value.int IntKind.i64 (r.snd.snd.snd.snd.snd.snd.snd.snd.snd.snd i)))
    AV.nil))),
    AV.sc (Value.string (ByteArray.mk #[(97 : UInt8), (97 : UInt8), (98 : UInt8)]))]
    []
    (AV.cons (1 : Nat)
    (AV.vec false (3 : Nat) r_2.fst r_2.fst fun (i0 : Nat) =>
    AV.cons (1 : Nat) (AV.sc (Value.int IntKind.i64 (r_2.snd.fst i0)))
    (AV.cons (1 : Nat) (AV.sc (Value.int IntKind.i64 (r_2.snd.snd.fst i0)))
    (AV.cons (1 : Nat) (AV.sc (Value.int IntKind.i64 (r_2.snd.snd.snd.fst i0))) AV.nil)))
    (AV.cons (1 : Nat) (AV.sc (Value.int IntKind.i64 r_2.snd.snd.snd.snd)) AV.nil)).tup
    [] ∧
    ((r_1.snd.snd.snd.snd == (0 : Int)) = true →
    ∃ (r : Bool),
    ((0 : Nat) + (3 : Nat) ≤ (3 : Nat) ∧
    Ok Proofs.Try.prog (25 : Nat)
    [AV.vec true (3 : Nat) r_1.fst r_1.fst fun (i : Nat) =>
    AV.cons (1 : Nat) (AV.sc (Value.int IntKind.i64 (r_1.snd.fst i)))
    (AV.cons (1 : Nat) (AV.sc (Value.int IntKind.i64 (r_1.snd.snd.fst i)))
    (AV.cons (1 : Nat) (AV.sc (Value.int IntKind.i64 (r_1.snd.snd.snd.fst i))) AV.nil)),
    AV.vec true (3 : Nat) (3 : Nat) (3 : Nat) fun (i : Nat) =>
    AV.cons (1 : Nat)
    (AV.sc
    (Value.int IntKind.i64
    (bif (plus (0 : Nat) i).beq (2 : Nat) then (23 : Int)
    else
    bif (plus (0 : Nat) i).beq (1 : Nat) then (80 : Int)
    else bif (plus (0 : Nat) i).beq (0 : Nat) then (70 : Int) else (0 : Int))))
    (AV.cons (1 : Nat)
    (AV.sc
    (Value.int IntKind.i64
    (bif (plus (0 : Nat) i).beq (2 : Nat) then (1 : Int)
    else
    bif (plus (0 : Nat) i).beq (1 : Nat) then (1 : Int)
    else bif (plus (0 : Nat) i).beq (0 : Nat) then (2 : Int) else (0 : Int))))
    (AV.cons (1 : Nat)
    (AV.sc
    (Value.int IntKind.i64
    (bif (plus (0 : Nat) i).beq (2 : Nat) then (1 : Int)
    else
    bif (plus (0 : Nat) i).beq (1 : Nat) then (1 : Int)
    else bif (plus (0 : Nat) i).beq (0 : Nat) then (3 : Int) else (0 : Int))))
    AV.nil))]
    [] (AV.sc (Value.bool r)) []) ∧
    (r = true → Sub (AV.sc (Value.bool (r_2.snd.snd.snd.snd == (2 : Int)))) res) ∧ (r = !true → Sub (AV.sc (Value.bool false)) res)) ∧
    ((r_1.snd.snd.snd.snd == (0 : Int)) = !true → Sub (AV.sc (Value.bool false)) res)) :
    L27_e  res :=
  rule Go.Am.Seat.tabOk 27 [] Go.Proofs.Try.f27 hf27 [] (s27_e ) (m27_e ) res [] 400
    (Orc.call [] []
  (fun (r68 : Nat × (Nat → Int) × (Nat → Int) × (Nat → Nat → Int) × Int × (Nat → Int) × Nat × (Nat → Nat) × (Nat → Nat → Int) × Nat × (Nat → Int)) =>
    (AV.cons (1 : Nat)
    (AV.vec false (7 : Nat) r68.fst r68.fst fun (i0 : Nat) =>
    AV.cons (1 : Nat) (AV.sc (Value.int IntKind.i64 (r68.snd.fst i0)))
    (AV.cons (6 : Nat)
    (AV.cons (1 : Nat) (AV.sc (Value.int IntKind.i64 (r68.snd.snd.fst i0)))
    (AV.cons (4 : Nat) (AV.ar (4 : Nat) (1 : Nat) fun (i1 : Nat) => AV.sc (Value.int IntKind.u64 (r68.snd.snd.snd.fst i0 i1)))
    (AV.cons (1 : Nat) AV.undef AV.nil)))
    AV.nil))
    (AV.cons (1 : Nat)
    (AV.cons (1 : Nat) (AV.sc (Value.int IntKind.i64 r68.snd.snd.snd.snd.fst))
    (AV.cons (256 : Nat) (AV.ar (256 : Nat) (1 : Nat) fun (i0 : Nat) => AV.sc (Value.int IntKind.u8 (r68.snd.snd.snd.snd.snd.fst i0)))
    (AV.cons (1 : Nat)
    (AV.vec false (1 : Nat) r68.snd.snd.snd.snd.snd.snd.fst r68.snd.snd.snd.snd.snd.snd.fst fun (i0 : Nat) =>
    AV.vec false (1 : Nat) (r68.snd.snd.snd.snd.snd.snd.snd.fst i0) (r68.snd.snd.snd.snd.snd.snd.snd.fst i0) fun (i1 : Nat) =>
    AV.sc (Value.int IntKind.i64 (r68.snd.snd.snd.snd.snd.snd.snd.snd.fst i0 i1)))
    (AV.cons (1 : Nat)
    (AV.vec false (1 : Nat) r68.snd.snd.snd.snd.snd.snd.snd.snd.snd.fst r68.snd.snd.snd.snd.snd.snd.snd.snd.snd.fst fun (i0 : Nat) =>
    AV.sc (Value.int IntKind.i64 (r68.snd.snd.snd.snd.snd.snd.snd.snd.snd.snd i0)))
    AV.nil))))
    AV.nil)).tup)
  (fun (r68 : Nat × (Nat → Int) × (Nat → Int) × (Nat → Nat → Int) × Int × (Nat → Int) × Nat × (Nat → Nat) × (Nat → Nat → Int) × Nat × (Nat → Int)) => [])
  fun (r68 : Nat × (Nat → Int) × (Nat → Int) × (Nat → Nat → Int) × Int × (Nat → Int) × Nat × (Nat → Nat) × (Nat → Nat → Int) × Nat × (Nat → Int)) =>
  Orc.call [] []
    (fun (r23 : Nat × (Nat → Int) × (Nat → Int) × (Nat → Int) × Int) =>
    (AV.cons (1 : Nat)
    (AV.vec false (3 : Nat) r23.fst r23.fst fun (i0 : Nat) =>
    AV.cons (1 : Nat) (AV.sc (Value.int IntKind.i64 (r23.snd.fst i0)))
    (AV.cons (1 : Nat) (AV.sc (Value.int IntKind.i64 (r23.snd.snd.fst i0)))
    (AV.cons (1 : Nat) (AV.sc (Value.int IntKind.i64 (r23.snd.snd.snd.fst i0))) AV.nil)))
    (AV.cons (1 : Nat) (AV.sc (Value.int IntKind.i64 r23.snd.snd.snd.snd)) AV.nil)).tup)
    (fun (r23 : Nat × (Nat → Int) × (Nat → Int) × (Nat → Int) × Int) => []) fun (r23 : Nat × (Nat → Int) × (Nat → Int) × (Nat → Int) × Int) =>
    Orc.call [] []
    (fun (r23 : Nat × (Nat → Int) × (Nat → Int) × (Nat → Int) × Int) =>
    (AV.cons (1 : Nat)
    (AV.vec false (3 : Nat) r23.fst r23.fst fun (i0 : Nat) =>
    AV.cons (1 : Nat) (AV.sc (Value.int IntKind.i64 (r23.snd.fst i0)))
    (AV.cons (1 : Nat) (AV.sc (Value.int IntKind.i64 (r23.snd.snd.fst i0)))
    (AV.cons (1 : Nat) (AV.sc (Value.int IntKind.i64 (r23.snd.snd.snd.fst i0))) AV.nil)))
    (AV.cons (1 : Nat) (AV.sc (Value.int IntKind.i64 r23.snd.snd.snd.snd)) AV.nil)).tup)
    (fun (r23 : Nat × (Nat → Int) × (Nat → Int) × (Nat → Int) × Int) => []) fun (r23 : Nat × (Nat → Int) × (Nat → Int) × (Nat → Int) × Int) =>
    (Orc.call [] [] (fun (r25 : Bool) => AV.sc (Value.bool r25)) (fun (r25 : Bool) => []) fun (r25 : Bool) =>
    (Orc.fin (AV.sc (Value.bool (bif true then r23.snd.snd.snd.snd == (2 : Int) else false))) [] []).yes.br
    (Orc.fin (AV.sc (Value.bool false)) [] []).no).yes.yes.yes.yes.yes.br
    (Orc.fin (AV.sc (Value.bool false)) [] []).no.no.no.no.no.no.no) _ _ (by kernel_rfl) (by kernel_rfl) (show True ∧
  ∃ (r : Nat × (Nat → Int) × (Nat → Int) × (Nat → Nat → Int) × Int × (Nat → Int) × Nat × (Nat → Nat) × (Nat → Nat → Int) × Nat × (Nat → Int)),
    (True ∧
    True ∧
    Ok Proofs.Try.prog (68 : Nat) [] []
    (AV.cons (1 : Nat)
    (AV.vec false (7 : Nat) r.fst r.fst fun (i0 : Nat) =>
    AV.cons (1 : Nat) (AV.sc (Value.int IntKind.i64 (r.snd.fst i0)))
    (AV.cons (6 : Nat)
    (AV.cons (1 : Nat) (AV.sc (Value.int IntKind.i64 (r.snd.snd.fst i0)))
    (AV.cons (4 : Nat) (AV.ar (4 : Nat) (1 : Nat) fun (i1 : Nat) => AV.sc (Value.int IntKind.u64 (r.snd.snd.snd.fst i0 i1)))
    (AV.cons (1 : Nat) AV.undef AV.nil)))
    AV.nil))
    (AV.cons (1 : Nat)
    (AV.cons (1 : Nat) (AV.sc (Value.int IntKind.i64 r.snd.snd.snd.snd.fst))
    (AV.cons (256 : Nat) (AV.ar (256 : Nat) (1 : Nat) fun (i0 : Nat) => AV.sc (Value.int IntKind.u8 (r.snd.snd.snd.snd.snd.fst i0)))
    (AV.cons (1 : Nat)
    (AV.vec false (1 : Nat) r.snd.snd.snd.snd.snd.snd.fst r.snd.snd.snd.snd.snd.snd.fst fun (i0 : Nat) =>
    AV.vec false (1 : Nat) (r.snd.snd.snd.snd.snd.snd.snd.fst i0) (r.snd.snd.snd.snd.snd.snd.snd.fst i0) fun (i1 : Nat) =>
    AV.sc (Value.int IntKind.i64 (r.snd.snd.snd.snd.snd.snd.snd.snd.fst i0 i1)))
    (AV.cons (1 : Nat)
    (AV.vec false (1 : Nat) r.snd.snd.snd.snd.snd.snd.snd.snd.snd.fst r.snd.snd.snd.snd.snd.snd.snd.snd.snd.fst fun (i0 : Nat) =>
    AV.sc (Value.int IntKind.i64 (r.snd.snd.snd.snd.snd.snd.snd.snd.snd.snd i0)))
    AV.nil))))
    AV.nil)).tup
    []) ∧
    True ∧
    True ∧
    True ∧
    True ∧
    True ∧
    ((0 : Nat) = (0 : Nat) ∧ True) ∧
    True ∧
    ((0 : Nat) = (0 : Nat) ∧ True) ∧
    ∃ (r_1 : Nat × (Nat → Int) × (Nat → Int) × (Nat → Int) × Int),
    ((True ∧ (True ∧ True ∧ True ∧ True ∧ True) ∧ True ∧ True) ∧
    True ∧
    Ok Proofs.Try.prog (23 : Nat)
    [AV.vec true (7 : Nat) r.fst r.fst fun (i : Nat) =>
    AV.cons (1 : Nat) (AV.sc (Value.int IntKind.i64 (r.snd.fst i)))
    (AV.cons (6 : Nat)
    (AV.cons (1 : Nat) (AV.sc (Value.int IntKind.i64 (r.snd.snd.fst i)))
    (AV.cons (4 : Nat)
    (AV.ar (4 : Nat) (1 : Nat) fun (i_1 : Nat) => AV.sc (Value.int IntKind.u64 (r.snd.snd.snd.fst i i_1)))
    (AV.cons (1 : Nat) AV.undef AV.nil)))
    AV.nil),
    AV.cons (1 : Nat) (AV.sc (Value.int IntKind.i64 r.snd.snd.snd.snd.fst))
    (AV.cons (256 : Nat)
    (AV.ar (256 : Nat) (1 : Nat) fun (i : Nat) => AV.sc (Value.int IntKind.u8 (r.snd.snd.snd.snd.snd.fst i)))
    (AV.cons (1 : Nat)
    (AV.vec true (1 : Nat) r.snd.snd.snd.snd.snd.snd.fst r.snd.snd.snd.snd.snd.snd.fst fun (i : Nat) =>
    AV.vec true (1 : Nat) (r.snd.snd.snd.snd.snd.snd.snd.fst i) (r.snd.snd.snd.snd.snd.snd.snd.fst i) fun (i_1 : Nat) =>
    AV.sc (Value.int IntKind.i64 (r.snd.snd.snd.snd.snd.snd.snd.snd.fst i i_1)))
    (AV.cons (1 : Nat)
    (AV.vec true (1 : Nat) r.snd.snd.snd.snd.snd.snd.snd.snd.snd.fst r.snd.snd.snd.snd.snd.snd.snd.snd.snd.fst
    fun (i : Nat) => AV.sc (Value.int IntKind.i64 (r.snd.snd.snd.snd.snd.snd.snd.snd.snd.snd i)))
    AV.nil))),
    AV.sc (Value.string (ByteArray.mk #[(97 : UInt8), (97 : UInt8), (98 : UInt8), (99 : UInt8)]))]
    []
    (AV.cons (1 : Nat)
    (AV.vec false (3 : Nat) r_1.fst r_1.fst fun (i0 : Nat) =>
    AV.cons (1 : Nat) (AV.sc (Value.int IntKind.i64 (r_1.snd.fst i0)))
    (AV.cons (1 : Nat) (AV.sc (Value.int IntKind.i64 (r_1.snd.snd.fst i0)))
    (AV.cons (1 : Nat) (AV.sc (Value.int IntKind.i64 (r_1.snd.snd.snd.fst i0))) AV.nil)))
    (AV.cons (1 : Nat) (AV.sc (Value.int IntKind.i64 r_1.snd.snd.snd.snd)) AV.nil)).tup
    []) ∧
    True ∧
    True ∧
    True ∧
    True ∧
    True ∧
    True ∧
    ((0 : Int) ≤ (0 : Int) ∧ (0 : Int) ≤ (1 : Int) ∧ (1 : Int) ≤ (↑r.fst : Int)) ∧
    ((0 : Nat) = (0 : Nat) ∧ True) ∧
    ∃ (r_2 : Nat × (Nat → Int) × (Nat → Int) × (Nat → Int) × Int),
    ((True ∧ (True ∧ True ∧ True ∧ True ∧ True) ∧ True ∧ True) ∧
    True ∧
    Ok Proofs.Try.prog (23 : Nat)
    [AV.vec true (7 : Nat) ((1 : Int) - (0 : Int)).toNat (r.fst - Int.toNat (0 : Int)) fun (i : Nat) =>
    AV.cons (1 : Nat) (AV.sc (Value.int IntKind.i64 (r.snd.fst (plus (Int.toNat (0 : Int)) i))))
    (AV.cons (6 : Nat)
    (AV.cons (1 : Nat) (AV.sc (Value.int IntKind.i64 (r.snd.snd.fst (plus (Int.toNat (0 : Int)) i))))
    (AV.cons (4 : Nat)
    (AV.ar (4 : Nat) (1 : Nat) fun (i_1 : Nat) =>
    AV.sc (Value.int IntKind.u64 (r.snd.snd.snd.fst (plus (Int.toNat (0 : Int)) i) i_1)))
    (AV.cons (1 : Nat) AV.undef AV.nil)))
    AV.nil),
    AV.cons (1 : Nat) (AV.sc (Value.int IntKind.i64 r.snd.snd.snd.snd.fst))
    (AV.cons (256 : Nat)
    (AV.ar (256 : Nat) (1 : Nat) fun (i : Nat) =>
    AV.sc (Value.int IntKind.u8 (r.snd.snd.snd.snd.snd.fst i)))
    (AV.cons (1 : Nat)
    (AV.vec true (1 : Nat) r.snd.snd.snd.snd.snd.snd.fst r.snd.snd.snd.snd.snd.snd.fst fun (i : Nat) =>
    AV.vec true (1 : Nat) (r.snd.snd.snd.snd.snd.snd.snd.fst i) (r.snd.snd.snd.snd.snd.snd.snd.fst i)
    fun (i_1 : Nat) => AV.sc (Value.int IntKind.i64 (r.snd.snd.snd.snd.snd.snd.snd.snd.fst i i_1)))
    (AV.cons (1 : Nat)
    (AV.vec true (1 : Nat) r.snd.snd.snd.snd.snd.snd.snd.snd.snd.fst
    r.snd.snd.snd.snd.snd.snd.snd.snd.snd.fst fun (i : Nat) =>
    AV.sc (Value.int IntKind.i64 (r.snd.snd.snd.snd.snd.snd.snd.snd.snd.snd i)))
    AV.nil))),
    AV.sc (Value.string (ByteArray.mk #[(97 : UInt8), (97 : UInt8), (98 : UInt8)]))]
    []
    (AV.cons (1 : Nat)
    (AV.vec false (3 : Nat) r_2.fst r_2.fst fun (i0 : Nat) =>
    AV.cons (1 : Nat) (AV.sc (Value.int IntKind.i64 (r_2.snd.fst i0)))
    (AV.cons (1 : Nat) (AV.sc (Value.int IntKind.i64 (r_2.snd.snd.fst i0)))
    (AV.cons (1 : Nat) (AV.sc (Value.int IntKind.i64 (r_2.snd.snd.snd.fst i0))) AV.nil)))
    (AV.cons (1 : Nat) (AV.sc (Value.int IntKind.i64 r_2.snd.snd.snd.snd)) AV.nil)).tup
    []) ∧
    True ∧
    True ∧
    True ∧
    True ∧
    True ∧
    True ∧
    True ∧
    True ∧
    ((r_1.snd.snd.snd.snd == (0 : Int)) = true →
    True ∧
    true = true ∧
    True ∧
    true = true ∧
    True ∧
    true = true ∧
    True ∧
    true = true ∧
    (((True ∧ True ∧ True ∧ True) ∧
    (True ∧ True ∧ True ∧ True) ∧ (True ∧ True ∧ True ∧ True) ∧ True) ∧
    True) ∧
    true = true ∧
    ∃ (r : Bool),
    ((True ∧ (0 : Nat) + (3 : Nat) ≤ (3 : Nat) ∧ True) ∧
    True ∧
    Ok Proofs.Try.prog (25 : Nat)
    [AV.vec true (3 : Nat) r_1.fst r_1.fst fun (i : Nat) =>
    AV.cons (1 : Nat)
    (AV.sc (Value.int IntKind.i64 (r_1.snd.fst i)))
    (AV.cons (1 : Nat)
    (AV.sc (Value.int IntKind.i64 (r_1.snd.snd.fst i)))
    (AV.cons (1 : Nat)
    (AV.sc
    (Value.int IntKind.i64 (r_1.snd.snd.snd.fst i)))
    AV.nil)),
    AV.vec true (3 : Nat) (3 : Nat) (3 : Nat) fun (i : Nat) =>
    AV.cons (1 : Nat)
    (AV.sc
    (Value.int IntKind.i64
    (bif (plus (0 : Nat) i).beq (2 : Nat) then (23 : Int)
    else
    bif (plus (0 : Nat) i).beq (1 : Nat) then (80 : Int)
    else
    bif (plus (0 : Nat) i).beq (0 : Nat) then
    (70 : Int)
    else (0 : Int))))
    (AV.cons (1 : Nat)
    (AV.sc
    (Value.int IntKind.i64
    (bif (plus (0 : Nat) i).beq (2 : Nat) then (1 : Int)
    else
    bif (plus (0 : Nat) i).beq (1 : Nat) then
    (1 : Int)
    else
    bif (plus (0 : Nat) i).beq (0 : Nat) then
    (2 : Int)
    else (0 : Int))))
    (AV.cons (1 : Nat)
    (AV.sc
    (Value.int IntKind.i64
    (bif (plus (0 : Nat) i).beq (2 : Nat) then
    (1 : Int)
    else
    bif (plus (0 : Nat) i).beq (1 : Nat) then
    (1 : Int)
    else
    bif (plus (0 : Nat) i).beq (0 : Nat) then
    (3 : Int)
    else (0 : Int))))
    AV.nil))]
    [] (AV.sc (Value.bool r)) []) ∧
    True ∧
    True ∧
    (r = true →
    True ∧
    true = true ∧
    True ∧
    True ∧
    True ∧
    True ∧
    ((True ∧
    Sub
    (AV.sc
    (Value.bool
    (r_2.snd.snd.snd.snd == (2 : Int))))
    (AV.sc
    (Value.bool
    (r_2.snd.snd.snd.snd ==
    (2 : Int)))) ∧
    True) ∧
    True) ∧
    Sub
    (AV.sc
    (Value.bool
    (r_2.snd.snd.snd.snd == (2 : Int))))
    res ∧
    SubOut [] []) ∧
    (r = !true →
    true = true ∧
    (!true) = !true ∧
    true = true ∧
    True ∧
    True ∧
    True ∧
    ((True ∧
    Sub (AV.sc (Value.bool false))
    (AV.sc (Value.bool false)) ∧
    True) ∧
    True) ∧
    Sub (AV.sc (Value.bool false)) res ∧
    SubOut [] [])) ∧
    ((r_1.snd.snd.snd.snd == (0 : Int)) = !true →
    true = true ∧
    (!true) = !true ∧
    true = true ∧
    (!true) = !true ∧
    true = true ∧
    (!true) = !true ∧
    true = true ∧
    (!true) = !true ∧
    true = true ∧
    (!true) = !true ∧
    true = true ∧
    True ∧
    True ∧
    false = !true ∧
    true = true ∧
    (!true) = !true ∧
    true = true ∧
    True ∧
    True ∧
    True ∧
    ((True ∧
    Sub (AV.sc (Value.bool false))
    (AV.sc (Value.bool false)) ∧
    True) ∧
    True) ∧
    Sub (AV.sc (Value.bool false)) res ∧ SubOut [] []) from
    ⟨trivial, (Exists.elim h fun x1 h1 => ⟨x1, (And.elim (fun h2 k2 => ⟨⟨trivial, ⟨trivial, h2⟩⟩, ⟨trivial, ⟨trivial, ⟨trivial, ⟨trivial, ⟨trivial, ⟨⟨rfl, trivial⟩, ⟨trivial, ⟨⟨rfl, trivial⟩, (Exists.elim k2 fun x11 h11 => ⟨x11, (And.elim (fun h12 k12 => ⟨⟨⟨trivial, ⟨⟨trivial, ⟨trivial, ⟨trivial, ⟨trivial, trivial⟩⟩⟩⟩, ⟨trivial, trivial⟩⟩⟩, ⟨trivial, h12⟩⟩, ⟨trivial, ⟨trivial, ⟨trivial, ⟨trivial, ⟨trivial, ⟨trivial, (And.elim (fun h19 k19 => ⟨(And.elim (fun h20 k20 => ⟨h20, (And.elim (fun h21 k21 => ⟨h21, k21⟩) k20)⟩) h19), ⟨⟨rfl, trivial⟩, (Exists.elim k19 fun x21 h21 => ⟨x21, (And.elim (fun h22 k22 => ⟨⟨⟨trivial, ⟨⟨trivial, ⟨trivial, ⟨trivial, ⟨trivial, trivial⟩⟩⟩⟩, ⟨trivial, trivial⟩⟩⟩, ⟨trivial, h22⟩⟩, ⟨trivial, ⟨trivial, ⟨trivial, ⟨trivial, ⟨trivial, ⟨trivial, ⟨trivial, ⟨trivial, (And.elim (fun h31 k31 => ⟨(fun x32 => (fun h32 => ⟨trivial, ⟨rfl, ⟨trivial, ⟨rfl, ⟨trivial, ⟨rfl, ⟨trivial, ⟨rfl, ⟨⟨⟨⟨trivial, ⟨trivial, ⟨trivial, trivial⟩⟩⟩, ⟨⟨trivial, ⟨trivial, ⟨trivial, trivial⟩⟩⟩, ⟨⟨trivial, ⟨trivial, ⟨trivial, trivial⟩⟩⟩, trivial⟩⟩⟩, trivial⟩, ⟨rfl, (Exists.elim h32 fun x43 h43 => ⟨x43, (And.elim (fun h44 k44 => ⟨(And.elim (fun h45 k45 => ⟨⟨trivial, ((fun h47 => ⟨h47, trivial⟩) h45)⟩, ⟨trivial, k45⟩⟩) h44), ⟨trivial, ⟨trivial, (And.elim (fun h47 k47 => ⟨(fun x48 => (fun h48 => ⟨trivial, ⟨rfl, ⟨trivial, ⟨trivial, ⟨trivial, ⟨trivial, ⟨⟨⟨trivial, ⟨Sub.refl _, trivial⟩⟩, trivial⟩, ((fun h56 => ⟨h56, trivial⟩) h48)⟩⟩⟩⟩⟩⟩⟩) (h47 x48)), (fun x48 => (fun h48 => ⟨rfl, ⟨rfl, ⟨rfl, ⟨trivial, ⟨trivial, ⟨trivial, ⟨⟨⟨trivial, ⟨Sub.refl _, trivial⟩⟩, trivial⟩, ((fun h56 => ⟨h56, trivial⟩) h48)⟩⟩⟩⟩⟩⟩⟩) (k47 x48))⟩) k44)⟩⟩⟩) h43)⟩)⟩⟩⟩⟩⟩⟩⟩⟩⟩⟩) (h31 x32)), (fun x32 => (fun h32 => ⟨rfl, ⟨rfl, ⟨rfl, ⟨rfl, ⟨rfl, ⟨rfl, ⟨rfl, ⟨rfl, ⟨rfl, ⟨rfl, ⟨rfl, ⟨trivial, ⟨trivial, ⟨rfl, ⟨rfl, ⟨rfl, ⟨rfl, ⟨trivial, ⟨trivial, ⟨trivial, ⟨⟨⟨trivial, ⟨Sub.refl _, trivial⟩⟩, trivial⟩, ((fun h54 => ⟨h54, trivial⟩) h32)⟩⟩⟩⟩⟩⟩⟩⟩⟩⟩⟩⟩⟩⟩⟩⟩⟩⟩⟩⟩⟩) (k31 x32))⟩) k22)⟩⟩⟩⟩⟩⟩⟩⟩⟩) h21)⟩)⟩⟩) k12)⟩⟩⟩⟩⟩⟩⟩) h11)⟩)⟩⟩⟩⟩⟩⟩⟩⟩⟩) h1)⟩)⟩)
theorem hf28 : Go.Proofs.Try.prog.funcs[28]? = some Go.Proofs.Try.f28 := by kernel_rfl
abbrev s28_e (rulesn : Nat) (rulesfa : Nat → Int) (rulesfbaa : Nat → Int) (rulesfbabaf : Nat → Nat → Int) (da : Int) (dbaf : Nat → Int) (dbban : Nat) (dbbafn : Nat → Nat) (dbbaff : Nat → Nat → Int) (dbbban : Nat) (dbbbaf : Nat → Int) (text : ByteArray) : List (Nat × AV) := [(0, (.vec true 7 rulesn rulesn (fun i0 => (.cons 1 (.sc (.int .i64 (rulesfa i0))) (.cons 6 (.cons 1 (.sc (.int .i64 (rulesfbaa i0))) (.cons 4 (.ar 4 1 (fun i1 => (.sc (.int .u64 (rulesfbabaf i0 i1))))) (.cons 1 .undef .nil))) .nil))))), (1, (.cons 1 (.sc (.int .i64 da)) (.cons 256 (.ar 256 1 (fun i0 => (.sc (.int .u8 (dbaf i0))))) (.cons 1 (.vec true 1 dbban dbban (fun i0 => (.vec true 1 (dbbafn i0) (dbbafn i0) (fun i1 => (.sc (.int .i64 (dbbaff i0 i1))))))) (.cons 1 (.vec true 1 dbbban dbbban (fun i0 => (.sc (.int .i64 (dbbbaf i0))))) .nil))))), (2, (.sc (.string text)))]
abbrev m28_e (rulesn : Nat) (rulesfa : Nat → Int) (rulesfbaa : Nat → Int) (rulesfbabaf : Nat → Nat → Int) (da : Int) (dbaf : Nat → Int) (dbban : Nat) (dbbafn : Nat → Nat) (dbbaff : Nat → Nat → Int) (dbbban : Nat) (dbbbaf : Nat → Int) (text : ByteArray) : List (Nat × Nat × AV) := []
def L28_e (rulesn : Nat) (rulesfa : Nat → Int) (rulesfbaa : Nat → Int) (rulesfbabaf : Nat → Nat → Int) (da : Int) (dbaf : Nat → Int) (dbban : Nat) (dbbafn : Nat → Nat) (dbbaff : Nat → Nat → Int) (dbbban : Nat) (dbbbaf : Nat → Int) (text : ByteArray) (res : AV) : Prop := Goes ⟨Go.Proofs.Try.prog, 28, [], res, []⟩ (place Go.Proofs.Try.f28 []) (s28_e rulesn rulesfa rulesfbaa rulesfbabaf da dbaf dbban dbbafn dbbaff dbbban dbbbaf text) (m28_e rulesn rulesfa rulesfbaa rulesfbabaf da dbaf dbban dbbafn dbbaff dbbban dbbbaf text)
theorem a28_e (rulesn : Nat) (rulesfa : Nat → Int) (rulesfbaa : Nat → Int) (rulesfbabaf : Nat → Nat → Int) (da : Int) (dbaf : Nat → Int) (dbban : Nat) (dbbafn : Nat → Nat) (dbbaff : Nat → Nat → Int) (dbbban : Nat) (dbbbaf : Nat → Int) (text : ByteArray) (res : AV) (h : (∀ slot, fact (look .undef (s28_e rulesn rulesfa rulesfbaa rulesfbabaf da dbaf dbban dbbafn dbbaff dbbban dbbbaf text) slot)) → L28_e rulesn rulesfa rulesfbaa rulesfbabaf da dbaf dbban dbbafn dbbaff dbbban dbbbaf text res) : L28_e rulesn rulesfa rulesfbaa rulesfbabaf da dbaf dbban dbbafn dbbaff dbbban dbbbaf text res :=
  assumeRule 28 [] Go.Proofs.Try.f28 hf28 [] (s28_e rulesn rulesfa rulesfbaa rulesfbabaf da dbaf dbban dbbafn dbbaff dbbban dbbbaf text) (m28_e rulesn rulesfa rulesfbaa rulesfbabaf da dbaf dbban dbbafn dbbaff dbbban dbbbaf text) res [] _ (by kernel_rfl) h
theorem o28 (rulesn : Nat) (rulesfa : Nat → Int) (rulesfbaa : Nat → Int) (rulesfbabaf : Nat → Nat → Int) (da : Int) (dbaf : Nat → Int) (dbban : Nat) (dbbafn : Nat → Nat) (dbbaff : Nat → Nat → Int) (dbbban : Nat) (dbbbaf : Nat → Int) (text : ByteArray) (res : AV) (hnew : newOnly res) (h : L28_e rulesn rulesfa rulesfbaa rulesfbabaf da dbaf dbban dbbafn dbbaff dbbban dbbbaf text res) : Ok Go.Proofs.Try.prog 28 [(.vec true 7 rulesn rulesn (fun i0 => (.cons 1 (.sc (.int .i64 (rulesfa i0))) (.cons 6 (.cons 1 (.sc (.int .i64 (rulesfbaa i0))) (.cons 4 (.ar 4 1 (fun i1 => (.sc (.int .u64 (rulesfbabaf i0 i1))))) (.cons 1 .undef .nil))) .nil)))), (.cons 1 (.sc (.int .i64 da)) (.cons 256 (.ar 256 1 (fun i0 => (.sc (.int .u8 (dbaf i0))))) (.cons 1 (.vec true 1 dbban dbban (fun i0 => (.vec true 1 (dbbafn i0) (dbbafn i0) (fun i1 => (.sc (.int .i64 (dbbaff i0 i1))))))) (.cons 1 (.vec true 1 dbbban dbbban (fun i0 => (.sc (.int .i64 (dbbbaf i0))))) .nil)))), (.sc (.string text))] [] res [] :=
  okRule2 28 Go.Proofs.Try.f28 hf28 [(.vec true 7 rulesn rulesn (fun i0 => (.cons 1 (.sc (.int .i64 (rulesfa i0))) (.cons 6 (.cons 1 (.sc (.int .i64 (rulesfbaa i0))) (.cons 4 (.ar 4 1 (fun i1 => (.sc (.int .u64 (rulesfbabaf i0 i1))))) (.cons 1 .undef .nil))) .nil)))), (.cons 1 (.sc (.int .i64 da)) (.cons 256 (.ar 256 1 (fun i0 => (.sc (.int .u8 (dbaf i0))))) (.cons 1 (.vec true 1 dbban dbban (fun i0 => (.vec true 1 (dbbafn i0) (dbbafn i0) (fun i1 => (.sc (.int .i64 (dbbaff i0 i1))))))) (.cons 1 (.vec true 1 dbbban dbbban (fun i0 => (.sc (.int .i64 (dbbbaf i0))))) .nil)))), (.sc (.string text))] [] res [] [] rfl (by kernel_rfl) (by kernel_rfl) (by kernel_rfl) ⟨hnew, by simp⟩ (L28_e rulesn rulesfa rulesfbaa rulesfbabaf da dbaf dbban dbbafn dbbaff dbbban dbbbaf text res) (by kernel_rfl) h
theorem r28_e (rulesn : Nat) (rulesfa : Nat → Int) (rulesfbaa : Nat → Int) (rulesfbabaf : Nat → Nat → Int) (da : Int) (dbaf : Nat → Int) (dbban : Nat) (dbbafn : Nat → Nat) (dbbaff : Nat → Nat → Int) (dbbban : Nat) (dbbbaf : Nat → Int) (text : ByteArray) (res : AV)
    (h : (decide ((↑text.size : Int) ≤ (300 : Int)) = true →
    ∃ (r : Bool),
    Ok Proofs.Try.prog (15 : Nat)
    [AV.cons (1 : Nat) (AV.sc (Value.int IntKind.i64 da))
    (AV.cons (256 : Nat) (AV.ar (256 : Nat) (1 : Nat) fun (i : Nat) => AV.sc (Value.int IntKind.u8 (dbaf i)))
    (AV.cons (1 : Nat)
    (AV.vec true (1 : Nat) dbban dbban fun (i : Nat) =>
    AV.vec true (1 : Nat) (dbbafn i) (dbbafn i) fun (i_1 : Nat) => AV.sc (Value.int IntKind.i64 (dbbaff i i_1)))
    (AV.cons (1 : Nat) (AV.vec true (1 : Nat) dbbban dbbban fun (i : Nat) => AV.sc (Value.int IntKind.i64 (dbbbaf i))) AV.nil))),
    AV.sc (Value.int IntKind.i64 (5000 : Int))]
    [] (AV.sc (Value.bool r)) [] ∧
    ((!r) = true → Sub (AV.sc (Value.bool (decide ((↑rulesn : Int) ≤ (1000 : Int))))) res) ∧ ((!r) = !true → Sub (AV.sc (Value.bool false)) res)) ∧
  (decide ((↑text.size : Int) ≤ (300 : Int)) = !true → Sub (AV.sc (Value.bool false)) res)) :
    L28_e rulesn rulesfa rulesfbaa rulesfbabaf da dbaf dbban dbbafn dbbaff dbbban dbbbaf text res :=
  rule Go.Am.Seat.tabOk 28 [] Go.Proofs.Try.f28 hf28 [] (s28_e rulesn rulesfa rulesfbaa rulesfbabaf da dbaf dbban dbbafn dbbaff dbbban dbbbaf text) (m28_e rulesn rulesfa rulesfbaa rulesfbabaf da dbaf dbban dbbafn dbbaff dbbban dbbbaf text) res [] 400
    ((Orc.call [] [] (fun (r15 : Bool) => AV.sc (Value.bool r15)) (fun (r15 : Bool) => []) fun (r15 : Bool) =>
    ((Orc.fin (AV.sc (Value.bool (bif true then decide ((↑rulesn : Int) ≤ (1000 : Int)) else false))) [] []).yes.yes.br
    (Orc.fin (AV.sc (Value.bool false)) [] []).no.no).yes).yes.br
  (Orc.fin (AV.sc (Value.bool false)) [] []).no.no.no.no.no) _ _ (by kernel_rfl) (by kernel_rfl) (show True ∧
  True ∧
    True ∧
    True ∧
    True ∧
    True ∧
    (decide ((↑text.size : Int) ≤ (300 : Int)) = true →
    ((0 : Nat) = (0 : Nat) ∧ True) ∧
    true = true ∧
    ∃ (r : Bool),
    (((True ∧ True ∧ True ∧ True ∧ True) ∧ True ∧ True) ∧
    True ∧
    Ok Proofs.Try.prog (15 : Nat)
    [AV.cons (1 : Nat) (AV.sc (Value.int IntKind.i64 da))
    (AV.cons (256 : Nat) (AV.ar (256 : Nat) (1 : Nat) fun (i : Nat) => AV.sc (Value.int IntKind.u8 (dbaf i)))
    (AV.cons (1 : Nat)
    (AV.vec true (1 : Nat) dbban dbban fun (i : Nat) =>
    AV.vec true (1 : Nat) (dbbafn i) (dbbafn i) fun (i_1 : Nat) => AV.sc (Value.int IntKind.i64 (dbbaff i i_1)))
    (AV.cons (1 : Nat) (AV.vec true (1 : Nat) dbbban dbbban fun (i : Nat) => AV.sc (Value.int IntKind.i64 (dbbbaf i)))
    AV.nil))),
    AV.sc (Value.int IntKind.i64 (5000 : Int))]
    [] (AV.sc (Value.bool r)) []) ∧
    true = true ∧
    True ∧
    True ∧
    True ∧
    ((!r) = true →
    True ∧
    true = true ∧
    True ∧
    true = true ∧
    True ∧
    True ∧
    True ∧
    True ∧
    ((True ∧
    Sub (AV.sc (Value.bool (decide ((↑rulesn : Int) ≤ (1000 : Int)))))
    (AV.sc (Value.bool (decide ((↑rulesn : Int) ≤ (1000 : Int))))) ∧
    True) ∧
    True) ∧
    Sub (AV.sc (Value.bool (decide ((↑rulesn : Int) ≤ (1000 : Int))))) res ∧ SubOut [] []) ∧
    ((!r) = !true →
    true = true ∧
    (!true) = !true ∧
    true = true ∧
    (!true) = !true ∧
    true = true ∧
    True ∧
    True ∧
    True ∧
    ((True ∧ Sub (AV.sc (Value.bool false)) (AV.sc (Value.bool false)) ∧ True) ∧ True) ∧
    Sub (AV.sc (Value.bool false)) res ∧ SubOut [] [])) ∧
    (decide ((↑text.size : Int) ≤ (300 : Int)) = !true →
    true = true ∧
    (!true) = !true ∧
    true = true ∧
    (!true) = !true ∧
    true = true ∧
    True ∧
    True ∧
    false = !true ∧
    true = true ∧
    (!true) = !true ∧
    true = true ∧
    (!true) = !true ∧
    true = true ∧
    True ∧
    True ∧
    True ∧
    ((True ∧ Sub (AV.sc (Value.bool false)) (AV.sc (Value.bool false)) ∧ True) ∧ True) ∧
    Sub (AV.sc (Value.bool false)) res ∧ SubOut [] []) from
    ⟨trivial, ⟨trivial, ⟨trivial, ⟨trivial, ⟨trivial, ⟨trivial, (And.elim (fun h6 k6 => ⟨(fun x7 => (fun h7 => ⟨⟨rfl, trivial⟩, ⟨rfl, (Exists.elim h7 fun x10 h10 => ⟨x10, (And.elim (fun h11 k11 => ⟨⟨⟨⟨trivial, ⟨trivial, ⟨trivial, ⟨trivial, trivial⟩⟩⟩⟩, ⟨trivial, trivial⟩⟩, ⟨trivial, h11⟩⟩, ⟨rfl, ⟨trivial, ⟨trivial, ⟨trivial, (And.elim (fun h16 k16 => ⟨(fun x17 => (fun h17 => ⟨trivial, ⟨rfl, ⟨trivial, ⟨rfl, ⟨trivial, ⟨trivial, ⟨trivial, ⟨trivial, ⟨⟨⟨trivial, ⟨Sub.refl _, trivial⟩⟩, trivial⟩, ((fun h27 => ⟨h27, trivial⟩) h17)⟩⟩⟩⟩⟩⟩⟩⟩⟩) (h16 x17)), (fun x17 => (fun h17 => ⟨rfl, ⟨rfl, ⟨rfl, ⟨rfl, ⟨rfl, ⟨trivial, ⟨trivial, ⟨trivial, ⟨⟨⟨trivial, ⟨Sub.refl _, trivial⟩⟩, trivial⟩, ((fun h27 => ⟨h27, trivial⟩) h17)⟩⟩⟩⟩⟩⟩⟩⟩⟩) (k16 x17))⟩) k11)⟩⟩⟩⟩⟩) h10)⟩)⟩⟩) (h6 x7)), (fun x7 => (fun h7 => ⟨rfl, ⟨rfl, ⟨rfl, ⟨rfl, ⟨rfl, ⟨trivial, ⟨trivial, ⟨rfl, ⟨rfl, ⟨rfl, ⟨rfl, ⟨rfl, ⟨rfl, ⟨trivial, ⟨trivial, ⟨trivial, ⟨⟨⟨trivial, ⟨Sub.refl _, trivial⟩⟩, trivial⟩, ((fun h25 => ⟨h25, trivial⟩) h7)⟩⟩⟩⟩⟩⟩⟩⟩⟩⟩⟩⟩⟩⟩⟩⟩⟩) (k6 x7))⟩) h)⟩⟩⟩⟩⟩⟩)
theorem hf53 : Go.Proofs.Try.prog.funcs[53]? = some Go.Proofs.Try.f53 := by kernel_rfl
abbrev s53_e (ln : Nat) (lf : Nat → Int) : List (Nat × AV) := [(0, (.vec true 1 ln ln (fun i0 => (.sc (.int .i64 (lf i0))))))]
abbrev m53_e (ln : Nat) (lf : Nat → Int) : List (Nat × Nat × AV) := []
def L53_e (ln : Nat) (lf : Nat → Int) (res : AV) : Prop := Goes ⟨Go.Proofs.Try.prog, 53, [], res, []⟩ (place Go.Proofs.Try.f53 []) (s53_e ln lf) (m53_e ln lf)
theorem a53_e (ln : Nat) (lf : Nat → Int) (res : AV) (h : (∀ slot, fact (look .undef (s53_e ln lf) slot)) → L53_e ln lf res) : L53_e ln lf res :=
  assumeRule 53 [] Go.Proofs.Try.f53 hf53 [] (s53_e ln lf) (m53_e ln lf) res [] _ (by kernel_rfl) h
abbrev s53_0 (ln : Nat) (lf : Nat → Int) (out_n : Nat) (i : Int) (b0n : Nat) (b0f : Nat → Int) : List (Nat × AV) := [(0, (.vec true 1 ln ln (fun i0 => (.sc (.int .i64 (lf i0)))))), (3, (.rf 1000 1 0 out_n)), (4, (.sc (.int .i64 i)))]
abbrev m53_0 (ln : Nat) (lf : Nat → Int) (out_n : Nat) (i : Int) (b0n : Nat) (b0f : Nat → Int) : List (Nat × Nat × AV) := [(1000, 3, (.ar b0n 1 (fun i0 => (.sc (.int .i64 (b0f i0))))))]
def L53_0 (ln : Nat) (lf : Nat → Int) (out_n : Nat) (i : Int) (b0n : Nat) (b0f : Nat → Int) (res : AV) : Prop := Goes ⟨Go.Proofs.Try.prog, 53, [], res, []⟩ (place Go.Proofs.Try.f53 [1, 1, 0, 1, 0, 0]) (s53_0 ln lf out_n i b0n b0f) (m53_0 ln lf out_n i b0n b0f)
theorem a53_0 (ln : Nat) (lf : Nat → Int) (out_n : Nat) (i : Int) (b0n : Nat) (b0f : Nat → Int) (res : AV) (h : (∀ slot, fact (look .undef (s53_0 ln lf out_n i b0n b0f) slot)) → L53_0 ln lf out_n i b0n b0f res) : L53_0 ln lf out_n i b0n b0f res :=
  assumeRule 53 [] Go.Proofs.Try.f53 hf53 [1, 1, 0, 1, 0, 0] (s53_0 ln lf out_n i b0n b0f) (m53_0 ln lf out_n i b0n b0f) res [] _ (by kernel_rfl) h
theorem o53 (ln : Nat) (lf : Nat → Int) (res : AV) (hnew : newOnly res) (h : L53_e ln lf res) : Ok Go.Proofs.Try.prog 53 [(.vec true 1 ln ln (fun i0 => (.sc (.int .i64 (lf i0)))))] [] res [] :=
  okRule2 53 Go.Proofs.Try.f53 hf53 [(.vec true 1 ln ln (fun i0 => (.sc (.int .i64 (lf i0)))))] [] res [] [] rfl (by kernel_rfl) (by kernel_rfl) (by kernel_rfl) ⟨hnew, by simp⟩ (L53_e ln lf res) (by kernel_rfl) h
theorem r53_e (ln : Nat) (lf : Nat → Int) (res : AV)
    (h : ((0 : Nat) ≤ (0 : Nat) ∧ ((0 : Nat) + ln) * (8 : Nat) ≤ (140737488355328 : Nat) ∧ (0 : Nat) + ln ≤ maxLen) ∧
  L53_0 ln lf ((0 : Nat) + ln) (0 : Int) ((0 : Nat) + ln) (fun (i : Nat) => lf (i - (0 : Nat))) res) :
    L53_e ln lf res :=
  rule Go.Am.Seat.tabOk 53 [] Go.Proofs.Try.f53 hf53 [] (s53_e ln lf) (m53_e ln lf) res [] 400
    (Orc.cut (nat_lit 9) (s53_0 ln lf ((0 : Nat) + ln) (0 : Int) ((0 : Nat) + ln) fun (i : Nat) => bif i.blt (0 : Nat) then (0 : Int) else lf (i - (0 : Nat)))
  (m53_0 ln lf ((0 : Nat) + ln) (0 : Int) ((0 : Nat) + ln) fun (i : Nat) => bif i.blt (0 : Nat) then (0 : Int) else lf (i - (0 : Nat)))
  [((1000 : Nat), some (7 : Nat))]) _ _ (by kernel_rfl) (by kernel_rfl) (show True ∧
  (True ∧ True) ∧
    True ∧
    ((0 : Nat) ≤ (0 : Nat) ∧ True ∧ ((0 : Nat) + ln) * (8 : Nat) ≤ (140737488355328 : Nat) ∧ (0 : Nat) + ln ≤ maxLen) ∧
    True ∧
    True ∧
    ((True ∧
    Sub (AV.vec true (1 : Nat) ln ln fun (i0 : Nat) => AV.sc (Value.int IntKind.i64 (lf i0)))
    (AV.vec true (1 : Nat) ln ln fun (i0 : Nat) => AV.sc (Value.int IntKind.i64 (lf i0))) ∧
    True ∧
    Sub (AV.rf (1000 : Nat) (1 : Nat) (0 : Nat) ((0 : Nat) + ln)) (AV.rf (1000 : Nat) (1 : Nat) (0 : Nat) ((0 : Nat) + ln)) ∧
    True ∧ Sub (AV.sc (Value.int IntKind.i64 (0 : Int))) (AV.sc (Value.int IntKind.i64 (0 : Int))) ∧ True) ∧
    True ∧
    SubB (AV.ar ((0 : Nat) + ln) (1 : Nat) fun (i : Nat) => AV.sc (Value.int IntKind.i64 (lf (i - (0 : Nat)))))
    (AV.ar ((0 : Nat) + ln) (1 : Nat) fun (i0 : Nat) => AV.sc (Value.int IntKind.i64 (lf (i0 - (0 : Nat))))) ∧
    True) ∧
    L53_0 ln lf ((0 : Nat) + ln) (0 : Int) ((0 : Nat) + ln) (fun (i : Nat) => lf (i - (0 : Nat))) res from
    ⟨trivial, ⟨⟨trivial, trivial⟩, ⟨trivial, (And.elim (fun h3 k3 => ⟨(And.elim (fun h4 k4 => ⟨h4, ⟨trivial, (And.elim (fun h6 k6 => ⟨h6, k6⟩) k4)⟩⟩) h3), ⟨trivial, ⟨trivial, ⟨⟨⟨trivial, ⟨Sub.refl _, ⟨trivial, ⟨Sub.refl _, ⟨trivial, ⟨Sub.refl _, trivial⟩⟩⟩⟩⟩⟩, ⟨trivial, ⟨SubB.refl _, trivial⟩⟩⟩, k3⟩⟩⟩⟩) h)⟩⟩⟩)
theorem r53_0 (ln : Nat) (lf : Nat → Int) (out_n : Nat) (i : Int) (b0n : Nat) (b0f : Nat → Int) (res : AV)
    (h : (decide (i < (3 : Int)) = true →
    (out_n ≤ b0n ∧ (0 : Nat) + (1 : Nat) ≤ (1 : Nat) ∧ (out_n + (1 : Nat)) * (8 : Nat) ≤ (140737488355328 : Nat) ∧ out_n + (1 : Nat) ≤ maxLen) ∧
    L53_0 ln lf (out_n + (1 : Nat)) (IntKind.i64.wrap (i + (1 : Int))) (out_n + (1 : Nat))
    (fun (i_1 : Nat) => bif i_1.blt out_n then b0f i_1 else IntKind.i64.wrap ((-7000 : Int) - i)) res) ∧
  (decide (i < (3 : Int)) = false →
    ((0 : Int) ≤ (0 : Int) ∧ (0 : Int) ≤ (↑ln : Int) ∧ (0 : Nat) + (↑ln : Int).toNat ≤ b0n ∧ ((0 : Int) = (0 : Int) ∨ (0 : Nat) + Int.toNat (0 : Int) < b0n)) ∧
    plus (0 : Nat) (Int.toNat (0 : Int)) + ((↑ln : Int) - (0 : Int)).toNat ≤ b0n ∧
    Sub
    (AV.vec false (1 : Nat) ((↑ln : Int) - (0 : Int)).toNat (b0n - plus (0 : Nat) (Int.toNat (0 : Int))) fun (i : Nat) =>
    AV.sc (Value.int IntKind.i64 (b0f (plus (plus (0 : Nat) (Int.toNat (0 : Int))) i))))
    res)) :
    L53_0 ln lf out_n i b0n b0f res :=
  rule Go.Am.Seat.tabOk 53 [] Go.Proofs.Try.f53 hf53 [1, 1, 0, 1, 0, 0] (s53_0 ln lf out_n i b0n b0f) (m53_0 ln lf out_n i b0n b0f) res [] 400
    ((Orc.cut (nat_lit 7)
    (s53_0 ln lf (out_n + (1 : Nat)) (IntKind.i64.wrap (i + (1 : Int))) (out_n + (1 : Nat)) fun (i_1 : Nat) =>
    bif i_1.blt out_n then b0f i_1 else IntKind.i64.wrap ((-7000 : Int) - i))
    (m53_0 ln lf (out_n + (1 : Nat)) (IntKind.i64.wrap (i + (1 : Int))) (out_n + (1 : Nat)) fun (i_1 : Nat) =>
    bif i_1.blt out_n then b0f i_1 else IntKind.i64.wrap ((-7000 : Int) - i))
    [((1000 : Nat), some (16 : Nat))]).br
  (Orc.fin
    (AV.vec false (1 : Nat) ((IntKind.i64, (↑ln : Int)).snd - (0 : Int)).toNat (b0n - plus (0 : Nat) (Int.toNat (0 : Int))) fun (i : Nat) =>
    AV.sc (Value.int IntKind.i64 (b0f (plus (plus (0 : Nat) (Int.toNat (0 : Int))) i))))
    [] [])) _ _ (by kernel_rfl) (by kernel_rfl) (show True ∧
  True ∧
    (decide (i < (3 : Int)) = true →
    True ∧
    True ∧
    True ∧
    ((True ∧ True) ∧ True) ∧
    (out_n ≤ b0n ∧
    ((0 : Nat) + (1 : Nat) ≤ (1 : Nat) ∧ (1 : Nat) = (1 : Nat)) ∧
    (out_n + (1 : Nat)) * (8 : Nat) ≤ (140737488355328 : Nat) ∧ out_n + (1 : Nat) ≤ maxLen) ∧
    True ∧
    True ∧
    True ∧
    True ∧
    ((True ∧
    Sub (AV.vec true (1 : Nat) ln ln fun (i0 : Nat) => AV.sc (Value.int IntKind.i64 (lf i0)))
    (AV.vec true (1 : Nat) ln ln fun (i0 : Nat) => AV.sc (Value.int IntKind.i64 (lf i0))) ∧
    True ∧
    Sub (AV.rf (1000 : Nat) (1 : Nat) (0 : Nat) (out_n + (1 : Nat)))
    (AV.rf (1000 : Nat) (1 : Nat) (0 : Nat) (out_n + (1 : Nat))) ∧
    True ∧
    Sub (AV.sc (Value.int IntKind.i64 (IntKind.i64.wrap (i + (1 : Int)))))
    (AV.sc (Value.int IntKind.i64 (IntKind.i64.wrap (i + (1 : Int))))) ∧
    True) ∧
    True ∧
    SubB
    (AV.ar (out_n + (1 : Nat)) (1 : Nat) fun (i_1 : Nat) =>
    AV.sc (Value.int IntKind.i64 (bif i_1.blt out_n then b0f i_1 else IntKind.i64.wrap ((-7000 : Int) - i))))
    (AV.ar (out_n + (1 : Nat)) (1 : Nat) fun (i0 : Nat) =>
    AV.sc (Value.int IntKind.i64 (bif i0.blt out_n then b0f i0 else IntKind.i64.wrap ((-7000 : Int) - i)))) ∧
    True) ∧
    L53_0 ln lf (out_n + (1 : Nat)) (IntKind.i64.wrap (i + (1 : Int))) (out_n + (1 : Nat))
    (fun (i_1 : Nat) => bif i_1.blt out_n then b0f i_1 else IntKind.i64.wrap ((-7000 : Int) - i)) res) ∧
    (decide (i < (3 : Int)) = false →
    True ∧
    True ∧
    True ∧
    ((0 : Int) ≤ (0 : Int) ∧
    (0 : Int) ≤ (↑ln : Int) ∧ (0 : Nat) + (↑ln : Int).toNat ≤ b0n ∧ ((0 : Int) = (0 : Int) ∨ (0 : Nat) + Int.toNat (0 : Int) < b0n)) ∧
    True ∧
    True ∧
    ((plus (0 : Nat) (Int.toNat (0 : Int)) + ((↑ln : Int) - (0 : Int)).toNat ≤ b0n ∧
    Sub
    (AV.vec false (1 : Nat) ((↑ln : Int) - (0 : Int)).toNat (b0n - plus (0 : Nat) (Int.toNat (0 : Int))) fun (i : Nat) =>
    AV.sc (Value.int IntKind.i64 (b0f (plus (plus (0 : Nat) (Int.toNat (0 : Int))) i))))
    (AV.vec false (1 : Nat) ((↑ln : Int) - (0 : Int)).toNat (b0n - plus (0 : Nat) (Int.toNat (0 : Int))) fun (i : Nat) =>
    AV.sc (Value.int IntKind.i64 (b0f (plus (plus (0 : Nat) (Int.toNat (0 : Int))) i)))) ∧
    True) ∧
    True) ∧
    Sub
    (AV.vec false (1 : Nat) ((↑ln : Int) - (0 : Int)).toNat (b0n - plus (0 : Nat) (Int.toNat (0 : Int))) fun (i : Nat) =>
    AV.sc (Value.int IntKind.i64 (b0f (plus (plus (0 : Nat) (Int.toNat (0 : Int))) i))))
    res ∧
    SubOut [] []) from
    ⟨trivial, ⟨trivial, (And.elim (fun h2 k2 => ⟨(fun x3 => (fun h3 => ⟨trivial, ⟨trivial, ⟨trivial, ⟨⟨⟨trivial, trivial⟩, trivial⟩, (And.elim (fun h8 k8 => ⟨(And.elim (fun h9 k9 => ⟨h9, (And.elim (fun h10 k10 => ⟨((fun h11 => ⟨h11, rfl⟩) h10), (And.elim (fun h11 k11 => ⟨h11, k11⟩) k10)⟩) k9)⟩) h8), ⟨trivial, ⟨trivial, ⟨trivial, ⟨trivial, ⟨⟨⟨trivial, ⟨Sub.refl _, ⟨trivial, ⟨Sub.refl _, ⟨trivial, ⟨Sub.refl _, trivial⟩⟩⟩⟩⟩⟩, ⟨trivial, ⟨SubB.refl _, trivial⟩⟩⟩, k8⟩⟩⟩⟩⟩⟩) h3)⟩⟩⟩⟩) (h2 x3)), (fun x3 => (fun h3 => ⟨trivial, ⟨trivial, ⟨trivial, (And.elim (fun h7 k7 => ⟨(And.elim (fun h8 k8 => ⟨h8, (And.elim (fun h9 k9 => ⟨h9, (And.elim (fun h10 k10 => ⟨h10, k10⟩) k9)⟩) k8)⟩) h7), ⟨trivial, ⟨trivial, (And.elim (fun h10 k10 => ⟨((fun h11 => ⟨((fun h12 => ⟨h12, ⟨Sub.refl _, trivial⟩⟩) h11), trivial⟩) h10), ((fun h11 => ⟨h11, trivial⟩) k10)⟩) k7)⟩⟩⟩) h3)⟩⟩⟩) (k2 x3))⟩) h)⟩⟩)
theorem hf54 : Go.Proofs.Try.prog.funcs[54]? = some Go.Proofs.Try.f54 := by kernel_rfl
abbrev s54_e (da : Int) (dbaf : Nat → Int) (dbban : Nat) (dbbafn : Nat → Nat) (dbbaff : Nat → Nat → Int) (dbbban : Nat) (dbbbaf : Nat → Int) : List (Nat × AV) := [(0, (.cons 1 (.sc (.int .i64 da)) (.cons 256 (.ar 256 1 (fun i0 => (.sc (.int .u8 (dbaf i0))))) (.cons 1 (.vec true 1 dbban dbban (fun i0 => (.vec true 1 (dbbafn i0) (dbbafn i0) (fun i1 => (.sc (.int .i64 (dbbaff i0 i1))))))) (.cons 1 (.vec true 1 dbbban dbbban (fun i0 => (.sc (.int .i64 (dbbbaf i0))))) .nil)))))]
abbrev m54_e (da : Int) (dbaf : Nat → Int) (dbban : Nat) (dbbafn : Nat → Nat) (dbbaff : Nat → Nat → Int) (dbbban : Nat) (dbbbaf : Nat → Int) : List (Nat × Nat × AV) := []
def L54_e (da : Int) (dbaf : Nat → Int) (dbban : Nat) (dbbafn : Nat → Nat) (dbbaff : Nat → Nat → Int) (dbbban : Nat) (dbbbaf : Nat → Int) (res : AV) : Prop := Goes ⟨Go.Proofs.Try.prog, 54, [], res, []⟩ (place Go.Proofs.Try.f54 []) (s54_e da dbaf dbban dbbafn dbbaff dbbban dbbbaf) (m54_e da dbaf dbban dbbafn dbbaff dbbban dbbbaf)
theorem a54_e (da : Int) (dbaf : Nat → Int) (dbban : Nat) (dbbafn : Nat → Nat) (dbbaff : Nat → Nat → Int) (dbbban : Nat) (dbbbaf : Nat → Int) (res : AV) (h : (∀ slot, fact (look .undef (s54_e da dbaf dbban dbbafn dbbaff dbbban dbbbaf) slot)) → L54_e da dbaf dbban dbbafn dbbaff dbbban dbbbaf res) : L54_e da dbaf dbban dbbafn dbbaff dbbban dbbbaf res :=
  assumeRule 54 [] Go.Proofs.Try.f54 hf54 [] (s54_e da dbaf dbban dbbafn dbbaff dbbban dbbbaf) (m54_e da dbaf dbban dbbafn dbbaff dbbban dbbbaf) res [] _ (by kernel_rfl) h
abbrev s54_0 (da : Int) (dbaf : Nat → Int) (dbban : Nat) (dbbafn : Nat → Nat) (dbbaff : Nat → Nat → Int) (dbbban : Nat) (dbbbaf : Nat → Int) (k : Int) (m : Int) : List (Nat × AV) := [(1, (.ip false (.cons 1 (.sc (.int .i64 da)) (.cons 256 (.ar 256 1 (fun i0 => (.sc (.int .u8 (dbaf i0))))) (.cons 1 (.vec true 1 dbban dbban (fun i0 => (.vec true 1 (dbbafn i0) (dbbafn i0) (fun i1 => (.sc (.int .i64 (dbbaff i0 i1))))))) (.cons 1 (.vec true 1 dbbban dbbban (fun i0 => (.sc (.int .i64 (dbbbaf i0))))) .nil)))))), (3, (.sc (.int .i64 k))), (4, (.sc (.int .i64 m)))]
abbrev m54_0 (da : Int) (dbaf : Nat → Int) (dbban : Nat) (dbbafn : Nat → Nat) (dbbaff : Nat → Nat → Int) (dbbban : Nat) (dbbbaf : Nat → Int) (k : Int) (m : Int) : List (Nat × Nat × AV) := []
def L54_0 (da : Int) (dbaf : Nat → Int) (dbban : Nat) (dbbafn : Nat → Nat) (dbbaff : Nat → Nat → Int) (dbbban : Nat) (dbbbaf : Nat → Int) (k : Int) (m : Int) (res : AV) : Prop := Goes ⟨Go.Proofs.Try.prog, 54, [], res, []⟩ (place Go.Proofs.Try.f54 [1, 1, 1, 1, 1]) (s54_0 da dbaf dbban dbbafn dbbaff dbbban dbbbaf k m) (m54_0 da dbaf dbban dbbafn dbbaff dbbban dbbbaf k m)
theorem a54_0 (da : Int) (dbaf : Nat → Int) (dbban : Nat) (dbbafn : Nat → Nat) (dbbaff : Nat → Nat → Int) (dbbban : Nat) (dbbbaf : Nat → Int) (k : Int) (m : Int) (res : AV) (h : (∀ slot, fact (look .undef (s54_0 da dbaf dbban dbbafn dbbaff dbbban dbbbaf k m) slot)) → L54_0 da dbaf dbban dbbafn dbbaff dbbban dbbbaf k m res) : L54_0 da dbaf dbban dbbafn dbbaff dbbban dbbbaf k m res :=
  assumeRule 54 [] Go.Proofs.Try.f54 hf54 [1, 1, 1, 1, 1] (s54_0 da dbaf dbban dbbafn dbbaff dbbban dbbbaf k m) (m54_0 da dbaf dbban dbbafn dbbaff dbbban dbbbaf k m) res [] _ (by kernel_rfl) h
abbrev s54_1 (da : Int) (dbaf : Nat → Int) (dbban : Nat) (dbbafn : Nat → Nat) (dbbaff : Nat → Nat → Int) (dbbban : Nat) (dbbbaf : Nat → Int) (k : Int) (m : Int) (t52n : Nat) (t52fn : Nat → Nat) (t52ff : Nat → Nat → Int) (t53 : Int) (t54 : Int) : List (Nat × AV) := [(1, (.ip false (.cons 1 (.sc (.int .i64 da)) (.cons 256 (.ar 256 1 (fun i0 => (.sc (.int .u8 (dbaf i0))))) (.cons 1 (.vec true 1 dbban dbban (fun i0 => (.vec true 1 (dbbafn i0) (dbbafn i0) (fun i1 => (.sc (.int .i64 (dbbaff i0 i1))))))) (.cons 1 (.vec true 1 dbbban dbbban (fun i0 => (.sc (.int .i64 (dbbbaf i0))))) .nil)))))), (3, (.sc (.int .i64 k))), (4, (.sc (.int .i64 m))), (52, (.vec true 1 t52n t52n (fun i0 => (.vec true 1 (t52fn i0) (t52fn i0) (fun i1 => (.sc (.int .i64 (t52ff i0 i1)))))))), (53, (.sc (.int .i64 t53))), (54, (.sc (.int .i64 t54)))]
abbrev m54_1 (da : Int) (dbaf : Nat → Int) (dbban : Nat) (dbbafn : Nat → Nat) (dbbaff : Nat → Nat → Int) (dbbban : Nat) (dbbbaf : Nat → Int) (k : Int) (m : Int) (t52n : Nat) (t52fn : Nat → Nat) (t52ff : Nat → Nat → Int) (t53 : Int) (t54 : Int) : List (Nat × Nat × AV) := []
def L54_1 (da : Int) (dbaf : Nat → Int) (dbban : Nat) (dbbafn : Nat → Nat) (dbbaff : Nat → Nat → Int) (dbbban : Nat) (dbbbaf : Nat → Int) (k : Int) (m : Int) (t52n : Nat) (t52fn : Nat → Nat) (t52ff : Nat → Nat → Int) (t53 : Int) (t54 : Int) (res : AV) : Prop := Goes ⟨Go.Proofs.Try.prog, 54, [], res, []⟩ (place Go.Proofs.Try.f54 [1, 1, 1, 1, 1, 1, 0, 1, 0, 0]) (s54_1 da dbaf dbban dbbafn dbbaff dbbban dbbbaf k m t52n t52fn t52ff t53 t54) (m54_1 da dbaf dbban dbbafn dbbaff dbbban dbbbaf k m t52n t52fn t52ff t53 t54)
theorem a54_1 (da : Int) (dbaf : Nat → Int) (dbban : Nat) (dbbafn : Nat → Nat) (dbbaff : Nat → Nat → Int) (dbbban : Nat) (dbbbaf : Nat → Int) (k : Int) (m : Int) (t52n : Nat) (t52fn : Nat → Nat) (t52ff : Nat → Nat → Int) (t53 : Int) (t54 : Int) (res : AV) (h : (∀ slot, fact (look .undef (s54_1 da dbaf dbban dbbafn dbbaff dbbban dbbbaf k m t52n t52fn t52ff t53 t54) slot)) → L54_1 da dbaf dbban dbbafn dbbaff dbbban dbbbaf k m t52n t52fn t52ff t53 t54 res) : L54_1 da dbaf dbban dbbafn dbbaff dbbban dbbbaf k m t52n t52fn t52ff t53 t54 res :=
  assumeRule 54 [] Go.Proofs.Try.f54 hf54 [1, 1, 1, 1, 1, 1, 0, 1, 0, 0] (s54_1 da dbaf dbban dbbafn dbbaff dbbban dbbbaf k m t52n t52fn t52ff t53 t54) (m54_1 da dbaf dbban dbbafn dbbaff dbbban dbbbaf k m t52n t52fn t52ff t53 t54) res [] _ (by kernel_rfl) h
theorem o54 (da : Int) (dbaf : Nat → Int) (dbban : Nat) (dbbafn : Nat → Nat) (dbbaff : Nat → Nat → Int) (dbbban : Nat) (dbbbaf : Nat → Int) (res : AV) (hnew : newOnly res) (h : L54_e da dbaf dbban dbbafn dbbaff dbbban dbbbaf res) : Ok Go.Proofs.Try.prog 54 [(.cons 1 (.sc (.int .i64 da)) (.cons 256 (.ar 256 1 (fun i0 => (.sc (.int .u8 (dbaf i0))))) (.cons 1 (.vec true 1 dbban dbban (fun i0 => (.vec true 1 (dbbafn i0) (dbbafn i0) (fun i1 => (.sc (.int .i64 (dbbaff i0 i1))))))) (.cons 1 (.vec true 1 dbbban dbbban (fun i0 => (.sc (.int .i64 (dbbbaf i0))))) .nil))))] [] res [] :=
  okRule2 54 Go.Proofs.Try.f54 hf54 [(.cons 1 (.sc (.int .i64 da)) (.cons 256 (.ar 256 1 (fun i0 => (.sc (.int .u8 (dbaf i0))))) (.cons 1 (.vec true 1 dbban dbban (fun i0 => (.vec true 1 (dbbafn i0) (dbbafn i0) (fun i1 => (.sc (.int .i64 (dbbaff i0 i1))))))) (.cons 1 (.vec true 1 dbbban dbbban (fun i0 => (.sc (.int .i64 (dbbbaf i0))))) .nil))))] [] res [] [] rfl (by kernel_rfl) (by kernel_rfl) (by kernel_rfl) ⟨hnew, by simp⟩ (L54_e da dbaf dbban dbbafn dbbaff dbbban dbbbaf res) (by kernel_rfl) h
theorem r54_e (da : Int) (dbaf : Nat → Int) (dbban : Nat) (dbbafn : Nat → Nat) (dbbaff : Nat → Nat → Int) (dbbban : Nat) (dbbbaf : Nat → Int) (res : AV)
    (h : (decide
    ((if true = true then if (↑dbbban : Int) > (↑dbban : Int) then (↑dbbban : Int) else (↑dbban : Int)
    else if (↑dbbban : Int) < (↑dbban : Int) then (↑dbbban : Int) else (↑dbban : Int)) >
    (2048 : Int)) =
    true →
    Sub (AV.sc (Value.int IntKind.i64 (3 : Int))) res) ∧
  (decide
    ((if true = true then if (↑dbbban : Int) > (↑dbban : Int) then (↑dbbban : Int) else (↑dbban : Int)
    else if (↑dbbban : Int) < (↑dbban : Int) then (↑dbbban : Int) else (↑dbban : Int)) >
    (2048 : Int)) =
    false →
    (((↑dbban : Int) == (0 : Int)) = false →
    (((↑dbbban : Int) != (↑dbban : Int)) = false →
    (decide (da < (0 : Int)) = false →
    (decide (da ≥ (↑dbban : Int)) = true → Sub (AV.sc (Value.int IntKind.i64 (2 : Int))) res) ∧
    (decide (da ≥ (↑dbban : Int)) = false →
    ((0 : Int) ≤ (0 : Int) ∧ (0 : Int) < (↑dbban : Int)) ∧
    L54_0 da dbaf dbban dbbafn dbbaff dbbban dbbbaf (↑dbban : Int) (↑(dbbafn (Int.toNat (0 : Int))) : Int) res)) ∧
    (decide (da < (0 : Int)) = !false → Sub (AV.sc (Value.int IntKind.i64 (2 : Int))) res)) ∧
    (((↑dbbban : Int) != (↑dbban : Int)) = !false → Sub (AV.sc (Value.int IntKind.i64 (2 : Int))) res)) ∧
    (((↑dbban : Int) == (0 : Int)) = !false → Sub (AV.sc (Value.int IntKind.i64 (2 : Int))) res))) :
    L54_e da dbaf dbban dbbafn dbbaff dbbban dbbbaf res :=
  rule Go.Am.Seat.tabOk 54 [] Go.Proofs.Try.f54 hf54 [] (s54_e da dbaf dbban dbbafn dbbaff dbbban dbbbaf) (m54_e da dbaf dbban dbbafn dbbaff dbbban dbbbaf) res [] 400
    ((Orc.fin (AV.sc (Value.int IntKind.i64 (3 : Int))) [] []).br
  (((((Orc.fin (AV.sc (Value.int IntKind.i64 (2 : Int))) [] []).br
    (Orc.cut (nat_lit 3) (s54_0 da dbaf dbban dbbafn dbbaff dbbban dbbbaf (↑dbban : Int) (↑(dbbafn (Int.toNat (0 : Int))) : Int))
    (m54_0 da dbaf dbban dbbafn dbbaff dbbban dbbbaf (↑dbban : Int) (↑(dbbafn (Int.toNat (0 : Int))) : Int)) [])).yes.yes.yes.br
    (Orc.fin (AV.sc (Value.int IntKind.i64 (2 : Int))) [] []).yes.no.no.no).yes.yes.br
    (Orc.fin (AV.sc (Value.int IntKind.i64 (2 : Int))) [] []).yes.no.no.no.no.no.no).yes.yes.yes.yes.br
    (Orc.fin (AV.sc (Value.int IntKind.i64 (2 : Int))) [] []).yes.no.no.no.no.no.no.no.no.no.no.no)) _ _ (by kernel_rfl) (by kernel_rfl) (show True ∧
  True ∧
    True ∧
    ((1 : Nat) + ((256 : Nat) + (0 : Nat)) = plus (0 : Nat) (257 : Nat) ∧ True) ∧
    True ∧
    True ∧
    True ∧
    True ∧
    ((1 : Nat) + ((256 : Nat) + ((1 : Nat) + (0 : Nat))) = plus (0 : Nat) (258 : Nat) ∧ True) ∧
    True ∧
    True ∧
    True ∧
    (decide
    ((if true = true then if (↑dbbban : Int) > (↑dbban : Int) then (↑dbbban : Int) else (↑dbban : Int)
    else if (↑dbbban : Int) < (↑dbban : Int) then (↑dbbban : Int) else (↑dbban : Int)) >
    (2048 : Int)) =
    true →
    True ∧
    True ∧
    ((True ∧ Sub (AV.sc (Value.int IntKind.i64 (3 : Int))) (AV.sc (Value.int IntKind.i64 (3 : Int))) ∧ True) ∧ True) ∧
    Sub (AV.sc (Value.int IntKind.i64 (3 : Int))) res ∧ SubOut [] []) ∧
    (decide
    ((if true = true then if (↑dbbban : Int) > (↑dbban : Int) then (↑dbbban : Int) else (↑dbban : Int)
    else if (↑dbbban : Int) < (↑dbban : Int) then (↑dbbban : Int) else (↑dbban : Int)) >
    (2048 : Int)) =
    false →
    True ∧
    True ∧
    True ∧
    (((↑dbban : Int) == (0 : Int)) = false →
    True ∧
    false = false ∧
    ((1 : Nat) + ((256 : Nat) + ((1 : Nat) + (0 : Nat))) = plus (0 : Nat) (258 : Nat) ∧ True) ∧
    false = false ∧
    True ∧
    false = false ∧
    True ∧
    false = false ∧
    True ∧
    True ∧
    True ∧
    (((↑dbbban : Int) != (↑dbban : Int)) = false →
    True ∧
    false = false ∧
    ((0 : Nat) = plus (0 : Nat) (0 : Nat) ∧ True) ∧
    false = false ∧
    True ∧
    True ∧
    True ∧
    (decide (da < (0 : Int)) = false →
    True ∧
    false = false ∧
    ((0 : Nat) = plus (0 : Nat) (0 : Nat) ∧ True) ∧
    false = false ∧
    True ∧
    false = false ∧
    True ∧
    True ∧
    (decide (da ≥ (↑dbban : Int)) = true →
    True ∧
    True ∧
    ((True ∧
    Sub (AV.sc (Value.int IntKind.i64 (2 : Int)))
    (AV.sc (Value.int IntKind.i64 (2 : Int))) ∧
    True) ∧
    True) ∧
    Sub (AV.sc (Value.int IntKind.i64 (2 : Int))) res ∧
    SubOut [] []) ∧
    (decide (da ≥ (↑dbban : Int)) = false →
    True ∧
    ((1 : Nat) + ((256 : Nat) + (0 : Nat)) =
    plus (0 : Nat) (257 : Nat) ∧
    True) ∧
    ((0 : Int) ≤ (0 : Int) ∧ (0 : Int) < (↑dbban : Int)) ∧
    True ∧
    True ∧
    True ∧
    ((((0 : Nat) = (0 : Nat) ∧ True) ∧
    Sub
    (AV.ip false
    (AV.cons (1 : Nat)
    (AV.sc
    (Value.int IntKind.i64 da))
    (AV.cons (256 : Nat)
    (AV.ar (256 : Nat) (1 : Nat)
    fun (i0 : Nat) =>
    AV.sc
    (Value.int IntKind.u8
    (dbaf i0)))
    (AV.cons (1 : Nat)
    (AV.vec true (1 : Nat) dbban
    dbban fun (i0 : Nat) =>
    AV.vec true (1 : Nat)
    (dbbafn i0) (dbbafn i0)
    fun (i1 : Nat) =>
    AV.sc
    (Value.int IntKind.i64
    (dbbaff i0 i1)))
    (AV.cons (1 : Nat)
    (AV.vec true (1 : Nat)
    dbbban dbbban
    fun (i0 : Nat) =>
    AV.sc
    (Value.int IntKind.i64
    (dbbbaf i0)))
    AV.nil)))))
    (AV.ip false
    (AV.cons (1 : Nat)
    (AV.sc
    (Value.int IntKind.i64 da))
    (AV.cons (256 : Nat)
    (AV.ar (256 : Nat) (1 : Nat)
    fun (i0 : Nat) =>
    AV.sc
    (Value.int IntKind.u8
    (dbaf i0)))
    (AV.cons (1 : Nat)
    (AV.vec true (1 : Nat) dbban
    dbban fun (i0 : Nat) =>
    AV.vec true (1 : Nat)
    (dbbafn i0) (dbbafn i0)
    fun (i1 : Nat) =>
    AV.sc
    (Value.int IntKind.i64
    (dbbaff i0 i1)))
    (AV.cons (1 : Nat)
    (AV.vec true (1 : Nat)
    dbbban dbbban
    fun (i0 : Nat) =>
    AV.sc
    (Value.int IntKind.i64
    (dbbbaf i0)))
    AV.nil))))) ∧
    True ∧
    Sub
    (AV.sc
    (Value.int IntKind.i64
    (↑dbban : Int)))
    (AV.sc
    (Value.int IntKind.i64
    (↑dbban : Int))) ∧
    True ∧
    Sub
    (AV.sc
    (Value.int IntKind.i64
    (↑(dbbafn
    (Int.toNat
    (0 : Int))) :
    Int)))
    (AV.sc
    (Value.int IntKind.i64
    (↑(dbbafn
    (Int.toNat
    (0 : Int))) :
    Int))) ∧
    True) ∧
    True) ∧
    L54_0 da dbaf dbban dbbafn dbbaff dbbban
    dbbbaf (↑dbban : Int)
    (↑(dbbafn (Int.toNat (0 : Int))) : Int)
    res)) ∧
    (decide (da < (0 : Int)) = !false →
    true = true ∧
    (!false) = !false ∧
    true = true ∧
    (!false) = !false ∧
    true = true ∧
    (!false) = !false ∧
    true = true ∧
    True ∧
    true = true ∧
    True ∧
    True ∧
    ((True ∧
    Sub (AV.sc (Value.int IntKind.i64 (2 : Int)))
    (AV.sc (Value.int IntKind.i64 (2 : Int))) ∧
    True) ∧
    True) ∧
    Sub (AV.sc (Value.int IntKind.i64 (2 : Int))) res ∧
    SubOut [] [])) ∧
    (((↑dbbban : Int) != (↑dbban : Int)) = !false →
    true = true ∧
    (!false) = !false ∧
    true = true ∧
    (!false) = !false ∧
    true = true ∧
    True ∧
    True ∧
    true = !false ∧
    true = true ∧
    (!false) = !false ∧
    true = true ∧
    (!false) = !false ∧
    true = true ∧
    (!false) = !false ∧
    true = true ∧
    True ∧
    true = true ∧
    True ∧
    True ∧
    ((True ∧
    Sub (AV.sc (Value.int IntKind.i64 (2 : Int)))
    (AV.sc (Value.int IntKind.i64 (2 : Int))) ∧
    True) ∧
    True) ∧
    Sub (AV.sc (Value.int IntKind.i64 (2 : Int))) res ∧
    SubOut [] [])) ∧
    (((↑dbban : Int) == (0 : Int)) = !false →
    true = true ∧
    (!false) = !false ∧
    true = true ∧
    (!false) = !false ∧
    true = true ∧
    (!false) = !false ∧
    true = true ∧
    (!false) = !false ∧
    true = true ∧
    True ∧
    True ∧
    true = !false ∧
    true = true ∧
    (!false) = !false ∧
    true = true ∧
    (!false) = !false ∧
    true = true ∧
    True ∧
    True ∧
    true = !false ∧
    true = true ∧
    (!false) = !false ∧
    true = true ∧
    (!false) = !false ∧
    true = true ∧
    (!false) = !false ∧
    true = true ∧
    True ∧
    true = true ∧
    True ∧
    True ∧
    ((True ∧
    Sub (AV.sc (Value.int IntKind.i64 (2 : Int)))
    (AV.sc (Value.int IntKind.i64 (2 : Int))) ∧
    True) ∧
    True) ∧
    Sub (AV.sc (Value.int IntKind.i64 (2 : Int))) res ∧
    SubOut [] [])) from
    ⟨trivial, ⟨trivial, ⟨trivial, ⟨⟨rfl, trivial⟩, ⟨trivial, ⟨trivial, ⟨trivial, ⟨trivial, ⟨⟨rfl, trivial⟩, ⟨trivial, ⟨trivial, ⟨trivial, (And.elim (fun h12 k12 => ⟨(fun x13 => (fun h13 => ⟨trivial, ⟨trivial, ⟨⟨⟨trivial, ⟨Sub.refl _, trivial⟩⟩, trivial⟩, ((fun h17 => ⟨h17, trivial⟩) h13)⟩⟩⟩) (h12 x13)), (fun x13 => (fun h13 => ⟨trivial, ⟨trivial, ⟨trivial, (And.elim (fun h17 k17 => ⟨(fun x18 => (fun h18 => ⟨trivial, ⟨rfl, ⟨⟨rfl, trivial⟩, ⟨rfl, ⟨trivial, ⟨rfl, ⟨trivial, ⟨rfl, ⟨trivial, ⟨trivial, ⟨trivial, (And.elim (fun h30 k30 => ⟨(fun x31 => (fun h31 => ⟨trivial, ⟨rfl, ⟨⟨rfl, trivial⟩, ⟨rfl, ⟨trivial, ⟨trivial, ⟨trivial, (And.elim (fun h39 k39 => ⟨(fun x40 => (fun h40 => ⟨trivial, ⟨rfl, ⟨⟨rfl, trivial⟩, ⟨rfl, ⟨trivial, ⟨rfl, ⟨trivial, ⟨trivial, (And.elim (fun h49 k49 => ⟨(fun x50 => (fun h50 => ⟨trivial, ⟨trivial, ⟨⟨⟨trivial, ⟨Sub.refl _, trivial⟩⟩, trivial⟩, ((fun h54 => ⟨h54, trivial⟩) h50)⟩⟩⟩) (h49 x50)), (fun x50 => (fun h50 => ⟨trivial, ⟨⟨rfl, trivial⟩, (And.elim (fun h53 k53 => ⟨(And.elim (fun h54 k54 => ⟨h54, k54⟩) h53), ⟨trivial, ⟨trivial, ⟨trivial, ⟨⟨⟨⟨rfl, trivial⟩, ⟨Sub.refl _, ⟨trivial, ⟨Sub.refl _, ⟨trivial, ⟨Sub.refl _, trivial⟩⟩⟩⟩⟩⟩, trivial⟩, k53⟩⟩⟩⟩⟩) h50)⟩⟩) (k49 x50))⟩) h40)⟩⟩⟩⟩⟩⟩⟩⟩) (h39 x40)), (fun x40 => (fun h40 => ⟨rfl, ⟨rfl, ⟨rfl, ⟨rfl, ⟨rfl, ⟨rfl, ⟨rfl, ⟨trivial, ⟨rfl, ⟨trivial, ⟨trivial, ⟨⟨⟨trivial, ⟨Sub.refl _, trivial⟩⟩, trivial⟩, ((fun h53 => ⟨h53, trivial⟩) h40)⟩⟩⟩⟩⟩⟩⟩⟩⟩⟩⟩⟩) (k39 x40))⟩) h31)⟩⟩⟩⟩⟩⟩⟩) (h30 x31)), (fun x31 => (fun h31 => ⟨rfl, ⟨rfl, ⟨rfl, ⟨rfl, ⟨rfl, ⟨trivial, ⟨trivial, ⟨rfl, ⟨rfl, ⟨rfl, ⟨rfl, ⟨rfl, ⟨rfl, ⟨rfl, ⟨rfl, ⟨trivial, ⟨rfl, ⟨trivial, ⟨trivial, ⟨⟨⟨trivial, ⟨Sub.refl _, trivial⟩⟩, trivial⟩, ((fun h52 => ⟨h52, trivial⟩) h31)⟩⟩⟩⟩⟩⟩⟩⟩⟩⟩⟩⟩⟩⟩⟩⟩⟩⟩⟩⟩) (k30 x31))⟩) h18)⟩⟩⟩⟩⟩⟩⟩⟩⟩⟩⟩) (h17 x18)), (fun x18 => (fun h18 => ⟨rfl, ⟨rfl, ⟨rfl, ⟨rfl, ⟨rfl, ⟨rfl, ⟨rfl, ⟨rfl, ⟨rfl, ⟨trivial, ⟨trivial, ⟨rfl, ⟨rfl, ⟨rfl, ⟨rfl, ⟨rfl, ⟨rfl, ⟨trivial, ⟨trivial, ⟨rfl, ⟨rfl, ⟨rfl, ⟨rfl, ⟨rfl, ⟨rfl, ⟨rfl, ⟨rfl, ⟨trivial, ⟨rfl, ⟨trivial, ⟨trivial, ⟨⟨⟨trivial, ⟨Sub.refl _, trivial⟩⟩, trivial⟩, ((fun h51 => ⟨h51, trivial⟩) h18)⟩⟩⟩⟩⟩⟩⟩⟩⟩⟩⟩⟩⟩⟩⟩⟩⟩⟩⟩⟩⟩⟩⟩⟩⟩⟩⟩⟩⟩⟩⟩⟩) (k17 x18))⟩) h13)⟩⟩⟩) (k12 x13))⟩) h)⟩⟩⟩⟩⟩⟩⟩⟩⟩⟩⟩⟩)
theorem r54_0 (da : Int) (dbaf : Nat → Int) (dbban : Nat) (dbbafn : Nat → Nat) (dbbaff : Nat → Nat → Int) (dbbban : Nat) (dbbbaf : Nat → Int) (k : Int) (m : Int) (res : AV)
    (h : (decide (m > (256 : Int)) = false →
    (256 : Nat) ≤ maxLen ∧
    ∃ (r : Int),
    Ok Proofs.Try.prog (90 : Nat) [AV.vec true (1 : Nat) (256 : Nat) (256 : Nat) fun (i : Nat) => AV.sc (Value.int IntKind.u8 (dbaf i))] []
    (AV.sc (Value.int IntKind.u8 r)) [] ∧
    (decide (m ≤ IntKind.i64.wrap r) = true → Sub (AV.sc (Value.int IntKind.i64 (2 : Int))) res) ∧
    (decide (m ≤ IntKind.i64.wrap r) = false → L54_1 da dbaf dbban dbbafn dbbaff dbbban dbbbaf k m dbban dbbafn dbbaff (↑dbban : Int) (0 : Int) res)) ∧
  (decide (m > (256 : Int)) = !false → Sub (AV.sc (Value.int IntKind.i64 (2 : Int))) res)) :
    L54_0 da dbaf dbban dbbafn dbbaff dbbban dbbbaf k m res :=
  rule Go.Am.Seat.tabOk 54 [] Go.Proofs.Try.f54 hf54 [1, 1, 1, 1, 1] (s54_0 da dbaf dbban dbbafn dbbaff dbbban dbbbaf k m) (m54_0 da dbaf dbban dbbafn dbbaff dbbban dbbbaf k m) res [] 400
    ((Orc.call [] [] (fun (r90 : Int) => AV.sc (Value.int IntKind.u8 r90)) (fun (r90 : Int) => []) fun (r90 : Int) =>
    ((Orc.fin (AV.sc (Value.int IntKind.i64 (2 : Int))) [] []).br
    (Orc.cut (nat_lit 6) (s54_1 da dbaf dbban dbbafn dbbaff dbbban dbbbaf k m dbban dbbafn dbbaff (↑dbban : Int) (0 : Int))
    (m54_1 da dbaf dbban dbbafn dbbaff dbbban dbbbaf k m dbban dbbafn dbbaff (↑dbban : Int) (0 : Int)) [])).yes.yes).yes.yes.yes.br
  (Orc.fin (AV.sc (Value.int IntKind.i64 (2 : Int))) [] []).yes.no.no.no.no.no) _ _ (by kernel_rfl) (by kernel_rfl) (show True ∧
  True ∧
    True ∧
    (decide (m > (256 : Int)) = false →
    True ∧
    false = false ∧
    True ∧
    false = false ∧
    (256 : Nat) ≤ maxLen ∧
    false = false ∧
    ∃ (r : Int),
    ((True ∧ True) ∧
    True ∧
    Ok Proofs.Try.prog (90 : Nat)
    [AV.vec true (1 : Nat) (256 : Nat) (256 : Nat) fun (i : Nat) => AV.sc (Value.int IntKind.u8 (dbaf i))] []
    (AV.sc (Value.int IntKind.u8 r)) []) ∧
    false = false ∧
    True ∧
    false = false ∧
    True ∧
    True ∧
    (decide (m ≤ IntKind.i64.wrap r) = true →
    True ∧
    True ∧
    ((True ∧ Sub (AV.sc (Value.int IntKind.i64 (2 : Int))) (AV.sc (Value.int IntKind.i64 (2 : Int))) ∧ True) ∧ True) ∧
    Sub (AV.sc (Value.int IntKind.i64 (2 : Int))) res ∧ SubOut [] []) ∧
    (decide (m ≤ IntKind.i64.wrap r) = false →
    True ∧
    True ∧
    True ∧
    True ∧
    ((True ∧
    Sub
    (AV.ip false
    (AV.cons (1 : Nat) (AV.sc (Value.int IntKind.i64 da))
    (AV.cons (256 : Nat)
    (AV.ar (256 : Nat) (1 : Nat) fun (i0 : Nat) => AV.sc (Value.int IntKind.u8 (dbaf i0)))
    (AV.cons (1 : Nat)
    (AV.vec true (1 : Nat) dbban dbban fun (i0 : Nat) =>
    AV.vec true (1 : Nat) (dbbafn i0) (dbbafn i0) fun (i1 : Nat) =>
    AV.sc (Value.int IntKind.i64 (dbbaff i0 i1)))
    (AV.cons (1 : Nat)
    (AV.vec true (1 : Nat) dbbban dbbban fun (i0 : Nat) =>
    AV.sc (Value.int IntKind.i64 (dbbbaf i0)))
    AV.nil)))))
    (AV.ip false
    (AV.cons (1 : Nat) (AV.sc (Value.int IntKind.i64 da))
    (AV.cons (256 : Nat)
    (AV.ar (256 : Nat) (1 : Nat) fun (i0 : Nat) => AV.sc (Value.int IntKind.u8 (dbaf i0)))
    (AV.cons (1 : Nat)
    (AV.vec true (1 : Nat) dbban dbban fun (i0 : Nat) =>
    AV.vec true (1 : Nat) (dbbafn i0) (dbbafn i0) fun (i1 : Nat) =>
    AV.sc (Value.int IntKind.i64 (dbbaff i0 i1)))
    (AV.cons (1 : Nat)
    (AV.vec true (1 : Nat) dbbban dbbban fun (i0 : Nat) =>
    AV.sc (Value.int IntKind.i64 (dbbbaf i0)))
    AV.nil))))) ∧
    True ∧
    Sub (AV.sc (Value.int IntKind.i64 k)) (AV.sc (Value.int IntKind.i64 k)) ∧
    True ∧
    Sub (AV.sc (Value.int IntKind.i64 m)) (AV.sc (Value.int IntKind.i64 m)) ∧
    True ∧
    Sub
    (AV.vec true (1 : Nat) dbban dbban fun (i0 : Nat) =>
    AV.vec true (1 : Nat) (dbbafn i0) (dbbafn i0) fun (i1 : Nat) =>
    AV.sc (Value.int IntKind.i64 (dbbaff i0 i1)))
    (AV.vec true (1 : Nat) dbban dbban fun (i0 : Nat) =>
    AV.vec true (1 : Nat) (dbbafn i0) (dbbafn i0) fun (i1 : Nat) =>
    AV.sc (Value.int IntKind.i64 (dbbaff i0 i1))) ∧
    True ∧
    Sub (AV.sc (Value.int IntKind.i64 (↑dbban : Int)))
    (AV.sc (Value.int IntKind.i64 (↑dbban : Int))) ∧
    True ∧
    Sub (AV.sc (Value.int IntKind.i64 (0 : Int)))
    (AV.sc (Value.int IntKind.i64 (0 : Int))) ∧
    True) ∧
    True) ∧
    L54_1 da dbaf dbban dbbafn dbbaff dbbban dbbbaf k m dbban dbbafn dbbaff (↑dbban : Int) (0 : Int) res)) ∧
    (decide (m > (256 : Int)) = !false →
    true = true ∧
    (!false) = !false ∧
    true = true ∧
    (!false) = !false ∧
    true = true ∧
    (!false) = !false ∧
    true = true ∧
    (!false) = !false ∧
    true = true ∧
    (!false) = !false ∧
    true = true ∧
    True ∧
    true = true ∧
    True ∧
    True ∧
    ((True ∧ Sub (AV.sc (Value.int IntKind.i64 (2 : Int))) (AV.sc (Value.int IntKind.i64 (2 : Int))) ∧ True) ∧ True) ∧
    Sub (AV.sc (Value.int IntKind.i64 (2 : Int))) res ∧ SubOut [] []) from
    ⟨trivial, ⟨trivial, ⟨trivial, (And.elim (fun h3 k3 => ⟨(fun x4 => (fun h4 => ⟨trivial, ⟨rfl, ⟨trivial, ⟨rfl, (And.elim (fun h9 k9 => ⟨h9, ⟨rfl, (Exists.elim k9 fun x11 h11 => ⟨x11, (And.elim (fun h12 k12 => ⟨⟨⟨trivial, trivial⟩, ⟨trivial, h12⟩⟩, ⟨rfl, ⟨trivial, ⟨rfl, ⟨trivial, ⟨trivial, (And.elim (fun h18 k18 => ⟨(fun x19 => (fun h19 => ⟨trivial, ⟨trivial, ⟨⟨⟨trivial, ⟨Sub.refl _, trivial⟩⟩, trivial⟩, ((fun h23 => ⟨h23, trivial⟩) h19)⟩⟩⟩) (h18 x19)), (fun x19 => (fun h19 => ⟨trivial, ⟨trivial, ⟨trivial, ⟨trivial, ⟨⟨⟨trivial, ⟨Sub.refl _, ⟨trivial, ⟨Sub.refl _, ⟨trivial, ⟨Sub.refl _, ⟨trivial, ⟨Sub.refl _, ⟨trivial, ⟨Sub.refl _, ⟨trivial, ⟨Sub.refl _, trivial⟩⟩⟩⟩⟩⟩⟩⟩⟩⟩⟩⟩, trivial⟩, h19⟩⟩⟩⟩⟩) (k18 x19))⟩) k12)⟩⟩⟩⟩⟩⟩) h11)⟩)⟩⟩) h4)⟩⟩⟩⟩) (h3 x4)), (fun x4 => (fun h4 => ⟨rfl, ⟨rfl, ⟨rfl, ⟨rfl, ⟨rfl, ⟨rfl, ⟨rfl, ⟨rfl, ⟨rfl, ⟨rfl, ⟨rfl, ⟨trivial, ⟨rfl, ⟨trivial, ⟨trivial, ⟨⟨⟨trivial, ⟨Sub.refl _, trivial⟩⟩, trivial⟩, ((fun h21 => ⟨h21, trivial⟩) h4)⟩⟩⟩⟩⟩⟩⟩⟩⟩⟩⟩⟩⟩⟩⟩⟩) (k3 x4))⟩) h)⟩⟩⟩)
theorem r54_1 (da : Int) (dbaf : Nat → Int) (dbban : Nat) (dbbafn : Nat → Nat) (dbbaff : Nat → Nat → Int) (dbbban : Nat) (dbbbaf : Nat → Int) (k : Int) (m : Int) (t52n : Nat) (t52fn : Nat → Nat) (t52ff : Nat → Nat → Int) (t53 : Int) (t54 : Int) (res : AV)
    (h : (decide (t54 < t53) = true →
    ((0 : Int) ≤ t54 ∧ t54 < (↑t52n : Int)) ∧
    (((↑(t52fn t54.toNat) : Int) != m) = false →
    ∃ (r : Int),
    Ok Proofs.Try.prog (91 : Nat)
    [AV.vec true (1 : Nat) (t52fn t54.toNat) (t52fn t54.toNat) fun (i : Nat) => AV.sc (Value.int IntKind.i64 (t52ff t54.toNat i))] []
    (AV.sc (Value.int IntKind.i64 r)) [] ∧
    (decide (r ≥ k) = false →
    ((0 : Int) ≤ t54 ∧ t54 < (↑dbbban : Int)) ∧
    (decide (dbbbaf t54.toNat ≥ (48 : Int)) = true → Sub (AV.sc (Value.int IntKind.i64 (2 : Int))) res) ∧
    (decide (dbbbaf t54.toNat ≥ (48 : Int)) = false →
    L54_1 da dbaf dbban dbbafn dbbaff dbbban dbbbaf k m t52n t52fn t52ff t53 (IntKind.i64.wrap (t54 + (1 : Int))) res)) ∧
    (decide (r ≥ k) = !false → Sub (AV.sc (Value.int IntKind.i64 (2 : Int))) res)) ∧
    (((↑(t52fn t54.toNat) : Int) != m) = !false → Sub (AV.sc (Value.int IntKind.i64 (2 : Int))) res)) ∧
  (decide (t54 < t53) = false → Sub (AV.sc (Value.int IntKind.i64 (0 : Int))) res)) :
    L54_1 da dbaf dbban dbbafn dbbaff dbbban dbbbaf k m t52n t52fn t52ff t53 t54 res :=
  rule Go.Am.Seat.tabOk 54 [] Go.Proofs.Try.f54 hf54 [1, 1, 1, 1, 1, 1, 0, 1, 0, 0] (s54_1 da dbaf dbban dbbafn dbbaff dbbban dbbbaf k m t52n t52fn t52ff t53 t54) (m54_1 da dbaf dbban dbbafn dbbaff dbbban dbbbaf k m t52n t52fn t52ff t53 t54) res [] 400
    (((Orc.call [] [] (fun (r91 : Int) => AV.sc (Value.int IntKind.i64 r91)) (fun (r91 : Int) => []) fun (r91 : Int) =>
    (((Orc.fin (AV.sc (Value.int IntKind.i64 (2 : Int))) [] []).br
    (Orc.cut (nat_lit 4)
    (s54_1 da dbaf dbban dbbafn dbbaff dbbban dbbbaf k m t52n t52fn t52ff t53 (IntKind.i64.wrap (t54 + (1 : Int))))
    (m54_1 da dbaf dbban dbbafn dbbaff dbbban dbbbaf k m t52n t52fn t52ff t53 (IntKind.i64.wrap (t54 + (1 : Int))))
    [])).yes.yes.yes.yes.yes.br
    (Orc.fin (AV.sc (Value.int IntKind.i64 (2 : Int))) [] []).yes.no.no.no.no.no).yes.yes).yes.br
    (Orc.fin (AV.sc (Value.int IntKind.i64 (2 : Int))) [] []).yes.no.no.no.no.no.no.no.no.no).br
  (Orc.fin (AV.sc (Value.int IntKind.i64 (0 : Int))) [] [])) _ _ (by kernel_rfl) (by kernel_rfl) (show True ∧
  (decide (t54 < t53) = true →
    True ∧
    ((0 : Int) ≤ t54 ∧ t54 < (↑t52n : Int)) ∧
    True ∧
    True ∧
    True ∧
    True ∧
    True ∧
    True ∧
    True ∧
    True ∧
    (((↑(t52fn t54.toNat) : Int) != m) = false →
    True ∧
    false = false ∧
    ∃ (r : Int),
    ((True ∧ True) ∧
    True ∧
    Ok Proofs.Try.prog (91 : Nat)
    [AV.vec true (1 : Nat) (t52fn t54.toNat) (t52fn t54.toNat) fun (i : Nat) =>
    AV.sc (Value.int IntKind.i64 (t52ff t54.toNat i))]
    [] (AV.sc (Value.int IntKind.i64 r)) []) ∧
    false = false ∧
    True ∧
    false = false ∧
    True ∧
    True ∧
    True ∧
    (decide (r ≥ k) = false →
    True ∧
    false = false ∧
    True ∧
    false = false ∧
    True ∧
    false = false ∧
    ((0 : Int) ≤ t54 ∧ t54 < (↑dbbban : Int)) ∧
    false = false ∧
    True ∧
    false = false ∧
    True ∧
    True ∧
    (decide (dbbbaf t54.toNat ≥ (48 : Int)) = true →
    True ∧
    True ∧
    ((True ∧
    Sub (AV.sc (Value.int IntKind.i64 (2 : Int)))
    (AV.sc (Value.int IntKind.i64 (2 : Int))) ∧
    True) ∧
    True) ∧
    Sub (AV.sc (Value.int IntKind.i64 (2 : Int))) res ∧ SubOut [] []) ∧
    (decide (dbbbaf t54.toNat ≥ (48 : Int)) = false →
    True ∧
    True ∧
    ((True ∧
    Sub
    (AV.ip false
    (AV.cons (1 : Nat) (AV.sc (Value.int IntKind.i64 da))
    (AV.cons (256 : Nat)
    (AV.ar (256 : Nat) (1 : Nat) fun (i0 : Nat) =>
    AV.sc (Value.int IntKind.u8 (dbaf i0)))
    (AV.cons (1 : Nat)
    (AV.vec true (1 : Nat) dbban dbban fun (i0 : Nat) =>
    AV.vec true (1 : Nat) (dbbafn i0) (dbbafn i0)
    fun (i1 : Nat) =>
    AV.sc (Value.int IntKind.i64 (dbbaff i0 i1)))
    (AV.cons (1 : Nat)
    (AV.vec true (1 : Nat) dbbban dbbban fun (i0 : Nat) =>
    AV.sc (Value.int IntKind.i64 (dbbbaf i0)))
    AV.nil)))))
    (AV.ip false
    (AV.cons (1 : Nat) (AV.sc (Value.int IntKind.i64 da))
    (AV.cons (256 : Nat)
    (AV.ar (256 : Nat) (1 : Nat) fun (i0 : Nat) =>
    AV.sc (Value.int IntKind.u8 (dbaf i0)))
    (AV.cons (1 : Nat)
    (AV.vec true (1 : Nat) dbban dbban fun (i0 : Nat) =>
    AV.vec true (1 : Nat) (dbbafn i0) (dbbafn i0)
    fun (i1 : Nat) =>
    AV.sc (Value.int IntKind.i64 (dbbaff i0 i1)))
    (AV.cons (1 : Nat)
    (AV.vec true (1 : Nat) dbbban dbbban fun (i0 : Nat) =>
    AV.sc (Value.int IntKind.i64 (dbbbaf i0)))
    AV.nil))))) ∧
    True ∧
    Sub (AV.sc (Value.int IntKind.i64 k))
    (AV.sc (Value.int IntKind.i64 k)) ∧
    True ∧
    Sub (AV.sc (Value.int IntKind.i64 m))
    (AV.sc (Value.int IntKind.i64 m)) ∧
    True ∧
    Sub
    (AV.vec true (1 : Nat) t52n t52n fun (i0 : Nat) =>
    AV.vec true (1 : Nat) (t52fn i0) (t52fn i0)
    fun (i1 : Nat) =>
    AV.sc (Value.int IntKind.i64 (t52ff i0 i1)))
    (AV.vec true (1 : Nat) t52n t52n fun (i0 : Nat) =>
    AV.vec true (1 : Nat) (t52fn i0) (t52fn i0)
    fun (i1 : Nat) =>
    AV.sc (Value.int IntKind.i64 (t52ff i0 i1))) ∧
    True ∧
    Sub (AV.sc (Value.int IntKind.i64 t53))
    (AV.sc (Value.int IntKind.i64 t53)) ∧
    True ∧
    Sub
    (AV.sc
    (Value.int IntKind.i64
    (IntKind.i64.wrap (t54 + (1 : Int)))))
    (AV.sc
    (Value.int IntKind.i64
    (IntKind.i64.wrap (t54 + (1 : Int))))) ∧
    True) ∧
    True) ∧
    L54_1 da dbaf dbban dbbafn dbbaff dbbban dbbbaf k m t52n t52fn t52ff t53
    (IntKind.i64.wrap (t54 + (1 : Int))) res)) ∧
    (decide (r ≥ k) = !false →
    true = true ∧
    (!false) = !false ∧
    true = true ∧
    (!false) = !false ∧
    true = true ∧
    (!false) = !false ∧
    true = true ∧
    (!false) = !false ∧
    true = true ∧
    (!false) = !false ∧
    true = true ∧
    True ∧
    true = true ∧
    True ∧
    True ∧
    ((True ∧
    Sub (AV.sc (Value.int IntKind.i64 (2 : Int)))
    (AV.sc (Value.int IntKind.i64 (2 : Int))) ∧
    True) ∧
    True) ∧
    Sub (AV.sc (Value.int IntKind.i64 (2 : Int))) res ∧ SubOut [] [])) ∧
    (((↑(t52fn t54.toNat) : Int) != m) = !false →
    true = true ∧
    (!false) = !false ∧
    true = true ∧
    (!false) = !false ∧
    true = true ∧
    (!false) = !false ∧
    true = true ∧
    True ∧
    True ∧
    true = !false ∧
    true = true ∧
    (!false) = !false ∧
    true = true ∧
    (!false) = !false ∧
    true = true ∧
    (!false) = !false ∧
    true = true ∧
    (!false) = !false ∧
    true = true ∧
    (!false) = !false ∧
    true = true ∧
    True ∧
    true = true ∧
    True ∧
    True ∧
    ((True ∧
    Sub (AV.sc (Value.int IntKind.i64 (2 : Int)))
    (AV.sc (Value.int IntKind.i64 (2 : Int))) ∧
    True) ∧
    True) ∧
    Sub (AV.sc (Value.int IntKind.i64 (2 : Int))) res ∧ SubOut [] [])) ∧
    (decide (t54 < t53) = false →
    True ∧
    True ∧
    ((True ∧ Sub (AV.sc (Value.int IntKind.i64 (0 : Int))) (AV.sc (Value.int IntKind.i64 (0 : Int))) ∧ True) ∧ True) ∧
    Sub (AV.sc (Value.int IntKind.i64 (0 : Int))) res ∧ SubOut [] []) from
    ⟨trivial, (And.elim (fun h1 k1 => ⟨(fun x2 => (fun h2 => ⟨trivial, (And.elim (fun h4 k4 => ⟨(And.elim (fun h5 k5 => ⟨h5, k5⟩) h4), ⟨trivial, ⟨trivial, ⟨trivial, ⟨trivial, ⟨trivial, ⟨trivial, ⟨trivial, ⟨trivial, (And.elim (fun h13 k13 => ⟨(fun x14 => (fun h14 => ⟨trivial, ⟨rfl, (Exists.elim h14 fun x17 h17 => ⟨x17, (And.elim (fun h18 k18 => ⟨⟨⟨trivial, trivial⟩, ⟨trivial, h18⟩⟩, ⟨rfl, ⟨trivial, ⟨rfl, ⟨trivial, ⟨trivial, ⟨trivial, (And.elim (fun h25 k25 => ⟨(fun x26 => (fun h26 => ⟨trivial, ⟨rfl, ⟨trivial, ⟨rfl, ⟨trivial, ⟨rfl, (And.elim (fun h33 k33 => ⟨(And.elim (fun h34 k34 => ⟨h34, k34⟩) h33), ⟨rfl, ⟨trivial, ⟨rfl, ⟨trivial, ⟨trivial, (And.elim (fun h39 k39 => ⟨(fun x40 => (fun h40 => ⟨trivial, ⟨trivial, ⟨⟨⟨trivial, ⟨Sub.refl _, trivial⟩⟩, trivial⟩, ((fun h44 => ⟨h44, trivial⟩) h40)⟩⟩⟩) (h39 x40)), (fun x40 => (fun h40 => ⟨trivial, ⟨trivial, ⟨⟨⟨trivial, ⟨Sub.refl _, ⟨trivial, ⟨Sub.refl _, ⟨trivial, ⟨Sub.refl _, ⟨trivial, ⟨Sub.refl _, ⟨trivial, ⟨Sub.refl _, ⟨trivial, ⟨Sub.refl _, trivial⟩⟩⟩⟩⟩⟩⟩⟩⟩⟩⟩⟩, trivial⟩, h40⟩⟩⟩) (k39 x40))⟩) k33)⟩⟩⟩⟩⟩⟩) h26)⟩⟩⟩⟩⟩⟩) (h25 x26)), (fun x26 => (fun h26 => ⟨rfl, ⟨rfl, ⟨rfl, ⟨rfl, ⟨rfl, ⟨rfl, ⟨rfl, ⟨rfl, ⟨rfl, ⟨rfl, ⟨rfl, ⟨trivial, ⟨rfl, ⟨trivial, ⟨trivial, ⟨⟨⟨trivial, ⟨Sub.refl _, trivial⟩⟩, trivial⟩, ((fun h43 => ⟨h43, trivial⟩) h26)⟩⟩⟩⟩⟩⟩⟩⟩⟩⟩⟩⟩⟩⟩⟩⟩) (k25 x26))⟩) k18)⟩⟩⟩⟩⟩⟩⟩) h17)⟩)⟩⟩) (h13 x14)), (fun x14 => (fun h14 => ⟨rfl, ⟨rfl, ⟨rfl, ⟨rfl, ⟨rfl, ⟨rfl, ⟨rfl, ⟨trivial, ⟨trivial, ⟨rfl, ⟨rfl, ⟨rfl, ⟨rfl, ⟨rfl, ⟨rfl, ⟨rfl, ⟨rfl, ⟨rfl, ⟨rfl, ⟨rfl, ⟨rfl, ⟨trivial, ⟨rfl, ⟨trivial, ⟨trivial, ⟨⟨⟨trivial, ⟨Sub.refl _, trivial⟩⟩, trivial⟩, ((fun h41 => ⟨h41, trivial⟩) h14)⟩⟩⟩⟩⟩⟩⟩⟩⟩⟩⟩⟩⟩⟩⟩⟩⟩⟩⟩⟩⟩⟩⟩⟩⟩⟩) (k13 x14))⟩) k4)⟩⟩⟩⟩⟩⟩⟩⟩⟩) h2)⟩) (h1 x2)), (fun x2 => (fun h2 => ⟨trivial, ⟨trivial, ⟨⟨⟨trivial, ⟨Sub.refl _, trivial⟩⟩, trivial⟩, ((fun h6 => ⟨h6, trivial⟩) h2)⟩⟩⟩) (k1 x2))⟩) h)⟩)
theorem hf55 : Go.Proofs.Try.prog.funcs[55]? = some Go.Proofs.Try.f55 := by kernel_rfl
abbrev s55_e (da : Int) (dbaf : Nat → Int) (dbban : Nat) (dbbafn : Nat → Nat) (dbbaff : Nat → Nat → Int) (dbbban : Nat) (dbbbaf : Nat → Int) (text : ByteArray) (at_ : Int) : List (Nat × AV) := [(0, (.cons 1 (.sc (.int .i64 da)) (.cons 256 (.ar 256 1 (fun i0 => (.sc (.int .u8 (dbaf i0))))) (.cons 1 (.vec true 1 dbban dbban (fun i0 => (.vec true 1 (dbbafn i0) (dbbafn i0) (fun i1 => (.sc (.int .i64 (dbbaff i0 i1))))))) (.cons 1 (.vec true 1 dbbban dbbban (fun i0 => (.sc (.int .i64 (dbbbaf i0))))) .nil))))), (1, (.sc (.string text))), (2, (.sc (.int .i64 at_)))]
abbrev m55_e (da : Int) (dbaf : Nat → Int) (dbban : Nat) (dbbafn : Nat → Nat) (dbbaff : Nat → Nat → Int) (dbbban : Nat) (dbbbaf : Nat → Int) (text : ByteArray) (at_ : Int) : List (Nat × Nat × AV) := []
def L55_e (da : Int) (dbaf : Nat → Int) (dbban : Nat) (dbbafn : Nat → Nat) (dbbaff : Nat → Nat → Int) (dbbban : Nat) (dbbbaf : Nat → Int) (text : ByteArray) (at_ : Int) (res : AV) : Prop := Goes ⟨Go.Proofs.Try.prog, 55, [], res, []⟩ (place Go.Proofs.Try.f55 []) (s55_e da dbaf dbban dbbafn dbbaff dbbban dbbbaf text at_) (m55_e da dbaf dbban dbbafn dbbaff dbbban dbbbaf text at_)
theorem a55_e (da : Int) (dbaf : Nat → Int) (dbban : Nat) (dbbafn : Nat → Nat) (dbbaff : Nat → Nat → Int) (dbbban : Nat) (dbbbaf : Nat → Int) (text : ByteArray) (at_ : Int) (res : AV) (h : (∀ slot, fact (look .undef (s55_e da dbaf dbban dbbafn dbbaff dbbban dbbbaf text at_) slot)) → L55_e da dbaf dbban dbbafn dbbaff dbbban dbbbaf text at_ res) : L55_e da dbaf dbban dbbafn dbbaff dbbban dbbbaf text at_ res :=
  assumeRule 55 [] Go.Proofs.Try.f55 hf55 [] (s55_e da dbaf dbban dbbafn dbbaff dbbban dbbbaf text at_) (m55_e da dbaf dbban dbbafn dbbaff dbbban dbbbaf text at_) res [] _ (by kernel_rfl) h
abbrev s55_0 (text : ByteArray) (at_ : Int) (s : Int) (i : Int) (b0a : Int) (b0baf : Nat → Int) (b0bban : Nat) (b0bbafn : Nat → Nat) (b0bbaff : Nat → Nat → Int) (b0bbban : Nat) (b0bbbaf : Nat → Int) (b1a : Int) (b1ba : Int) (b1bba : Int) (b2a : Int) (b2ba : Int) (b2bba : Int) : List (Nat × AV) := [(1, (.sc (.string text))), (2, (.sc (.int .i64 at_))), (3, (.pt 1000 [] 0)), (6, (.pt 1001 [] 0)), (7, (.pt 1002 [] 0)), (8, (.sc (.int .i64 s))), (9, (.sc (.int .i64 i)))]
abbrev m55_0 (text : ByteArray) (at_ : Int) (s : Int) (i : Int) (b0a : Int) (b0baf : Nat → Int) (b0bban : Nat) (b0bbafn : Nat → Nat) (b0bbaff : Nat → Nat → Int) (b0bbban : Nat) (b0bbbaf : Nat → Int) (b1a : Int) (b1ba : Int) (b1bba : Int) (b2a : Int) (b2ba : Int) (b2bba : Int) : List (Nat × Nat × AV) := [(1000, 26, (.cons 1 (.sc (.int .i64 b0a)) (.cons 256 (.ar 256 1 (fun i0 => (.sc (.int .u8 (b0baf i0))))) (.cons 1 (.vec true 1 b0bban b0bban (fun i0 => (.vec true 1 (b0bbafn i0) (b0bbafn i0) (fun i1 => (.sc (.int .i64 (b0bbaff i0 i1))))))) (.cons 1 (.vec true 1 b0bbban b0bbban (fun i0 => (.sc (.int .i64 (b0bbbaf i0))))) .nil))))), (1001, 30, (.cons 1 (.sc (.int .i64 b1a)) (.cons 1 (.sc (.int .i64 b1ba)) (.cons 1 (.sc (.int .i64 b1bba)) .nil)))), (1002, 30, (.cons 1 (.sc (.int .i64 b2a)) (.cons 1 (.sc (.int .i64 b2ba)) (.cons 1 (.sc (.int .i64 b2bba)) .nil))))]
def L55_0 (text : ByteArray) (at_ : Int) (s : Int) (i : Int) (b0a : Int) (b0baf : Nat → Int) (b0bban : Nat) (b0bbafn : Nat → Nat) (b0bbaff : Nat → Nat → Int) (b0bbban : Nat) (b0bbbaf : Nat → Int) (b1a : Int) (b1ba : Int) (b1bba : Int) (b2a : Int) (b2ba : Int) (b2bba : Int) (res : AV) : Prop := Goes ⟨Go.Proofs.Try.prog, 55, [], res, []⟩ (place Go.Proofs.Try.f55 [1, 0, 1, 1, 1]) (s55_0 text at_ s i b0a b0baf b0bban b0bbafn b0bbaff b0bbban b0bbbaf b1a b1ba b1bba b2a b2ba b2bba) (m55_0 text at_ s i b0a b0baf b0bban b0bbafn b0bbaff b0bbban b0bbbaf b1a b1ba b1bba b2a b2ba b2bba)
theorem a55_0 (text : ByteArray) (at_ : Int) (s : Int) (i : Int) (b0a : Int) (b0baf : Nat → Int) (b0bban : Nat) (b0bbafn : Nat → Nat) (b0bbaff : Nat → Nat → Int) (b0bbban : Nat) (b0bbbaf : Nat → Int) (b1a : Int) (b1ba : Int) (b1bba : Int) (b2a : Int) (b2ba : Int) (b2bba : Int) (res : AV) (h : (∀ slot, fact (look .undef (s55_0 text at_ s i b0a b0baf b0bban b0bbafn b0bbaff b0bbban b0bbbaf b1a b1ba b1bba b2a b2ba b2bba) slot)) → L55_0 text at_ s i b0a b0baf b0bban b0bbafn b0bbaff b0bbban b0bbbaf b1a b1ba b1bba b2a b2ba b2bba res) : L55_0 text at_ s i b0a b0baf b0bban b0bbafn b0bbaff b0bbban b0bbbaf b1a b1ba b1bba b2a b2ba b2bba res :=
  assumeRule 55 [] Go.Proofs.Try.f55 hf55 [1, 0, 1, 1, 1] (s55_0 text at_ s i b0a b0baf b0bban b0bbafn b0bbaff b0bbban b0bbbaf b1a b1ba b1bba b2a b2ba b2bba) (m55_0 text at_ s i b0a b0baf b0bban b0bbafn b0bbaff b0bbban b0bbbaf b1a b1ba b1bba b2a b2ba b2bba) res [] _ (by kernel_rfl) h
abbrev s55_1 (text : ByteArray) (at_ : Int) (s : Int) (i : Int) (b0a : Int) (b0baf : Nat → Int) (b0bban : Nat) (b0bbafn : Nat → Nat) (b0bbaff : Nat → Nat → Int) (b0bbban : Nat) (b0bbbaf : Nat → Int) (b1a : Int) (b1ba : Int) (b1bba : Int) (b2a : Int) (b2ba : Int) (b2bba : Int) : List (Nat × AV) := [(1, (.sc (.string text))), (2, (.sc (.int .i64 at_))), (3, (.pt 1000 [] 0)), (6, (.pt 1001 [] 0)), (7, (.pt 1002 [] 0)), (8, (.sc (.int .i64 s))), (9, (.sc (.int .i64 i)))]
abbrev m55_1 (text : ByteArray) (at_ : Int) (s : Int) (i : Int) (b0a : Int) (b0baf : Nat → Int) (b0bban : Nat) (b0bbafn : Nat → Nat) (b0bbaff : Nat → Nat → Int) (b0bbban : Nat) (b0bbbaf : Nat → Int) (b1a : Int) (b1ba : Int) (b1bba : Int) (b2a : Int) (b2ba : Int) (b2bba : Int) : List (Nat × Nat × AV) := [(1000, 26, (.cons 1 (.sc (.int .i64 b0a)) (.cons 256 (.ar 256 1 (fun i0 => (.sc (.int .u8 (b0baf i0))))) (.cons 1 (.vec true 1 b0bban b0bban (fun i0 => (.vec true 1 (b0bbafn i0) (b0bbafn i0) (fun i1 => (.sc (.int .i64 (b0bbaff i0 i1))))))) (.cons 1 (.vec true 1 b0bbban b0bbban (fun i0 => (.sc (.int .i64 (b0bbbaf i0))))) .nil))))), (1001, 30, (.cons 1 (.sc (.int .i64 b1a)) (.cons 1 (.sc (.int .i64 b1ba)) (.cons 1 (.sc (.int .i64 b1bba)) .nil)))), (1002, 30, (.cons 1 (.sc (.int .i64 b2a)) (.cons 1 (.sc (.int .i64 b2ba)) (.cons 1 (.sc (.int .i64 b2bba)) .nil))))]
def L55_1 (text : ByteArray) (at_ : Int) (s : Int) (i : Int) (b0a : Int) (b0baf : Nat → Int) (b0bban : Nat) (b0bbafn : Nat → Nat) (b0bbaff : Nat → Nat → Int) (b0bbban : Nat) (b0bbbaf : Nat → Int) (b1a : Int) (b1ba : Int) (b1bba : Int) (b2a : Int) (b2ba : Int) (b2bba : Int) (res : AV) : Prop := Goes ⟨Go.Proofs.Try.prog, 55, [], res, []⟩ (place Go.Proofs.Try.f55 [1, 0, 1, 1, 1, 1, 1, 1, 1]) (s55_1 text at_ s i b0a b0baf b0bban b0bbafn b0bbaff b0bbban b0bbbaf b1a b1ba b1bba b2a b2ba b2bba) (m55_1 text at_ s i b0a b0baf b0bban b0bbafn b0bbaff b0bbban b0bbbaf b1a b1ba b1bba b2a b2ba b2bba)
theorem a55_1 (text : ByteArray) (at_ : Int) (s : Int) (i : Int) (b0a : Int) (b0baf : Nat → Int) (b0bban : Nat) (b0bbafn : Nat → Nat) (b0bbaff : Nat → Nat → Int) (b0bbban : Nat) (b0bbbaf : Nat → Int) (b1a : Int) (b1ba : Int) (b1bba : Int) (b2a : Int) (b2ba : Int) (b2bba : Int) (res : AV) (h : (∀ slot, fact (look .undef (s55_1 text at_ s i b0a b0baf b0bban b0bbafn b0bbaff b0bbban b0bbbaf b1a b1ba b1bba b2a b2ba b2bba) slot)) → L55_1 text at_ s i b0a b0baf b0bban b0bbafn b0bbaff b0bbban b0bbbaf b1a b1ba b1bba b2a b2ba b2bba res) : L55_1 text at_ s i b0a b0baf b0bban b0bbafn b0bbaff b0bbban b0bbbaf b1a b1ba b1bba b2a b2ba b2bba res :=
  assumeRule 55 [] Go.Proofs.Try.f55 hf55 [1, 0, 1, 1, 1, 1, 1, 1, 1] (s55_1 text at_ s i b0a b0baf b0bban b0bbafn b0bbaff b0bbban b0bbbaf b1a b1ba b1bba b2a b2ba b2bba) (m55_1 text at_ s i b0a b0baf b0bban b0bbafn b0bbaff b0bbban b0bbbaf b1a b1ba b1bba b2a b2ba b2bba) res [] _ (by kernel_rfl) h
abbrev s55_2 (at_ : Int) (i : Int) (b0a : Int) (b0ba : Int) (b0bba : Int) (b1a : Int) (b1ba : Int) (b1bba : Int) : List (Nat × AV) := [(2, (.sc (.int .i64 at_))), (6, (.pt 1000 [] 0)), (7, (.pt 1001 [] 0)), (9, (.sc (.int .i64 i)))]
abbrev m55_2 (at_ : Int) (i : Int) (b0a : Int) (b0ba : Int) (b0bba : Int) (b1a : Int) (b1ba : Int) (b1bba : Int) : List (Nat × Nat × AV) := [(1000, 30, (.cons 1 (.sc (.int .i64 b0a)) (.cons 1 (.sc (.int .i64 b0ba)) (.cons 1 (.sc (.int .i64 b0bba)) .nil)))), (1001, 30, (.cons 1 (.sc (.int .i64 b1a)) (.cons 1 (.sc (.int .i64 b1ba)) (.cons 1 (.sc (.int .i64 b1bba)) .nil))))]
def L55_2 (at_ : Int) (i : Int) (b0a : Int) (b0ba : Int) (b0bba : Int) (b1a : Int) (b1ba : Int) (b1bba : Int) (res : AV) : Prop := Goes ⟨Go.Proofs.Try.prog, 55, [], res, []⟩ (place Go.Proofs.Try.f55 [1, 0, 1, 1, 1, 1, 1, 1, 1, 1, 1, 1, 1]) (s55_2 at_ i b0a b0ba b0bba b1a b1ba b1bba) (m55_2 at_ i b0a b0ba b0bba b1a b1ba b1bba)
theorem a55_2 (at_ : Int) (i : Int) (b0a : Int) (b0ba : Int) (b0bba : Int) (b1a : Int) (b1ba : Int) (b1bba : Int) (res : AV) (h : (∀ slot, fact (look .undef (s55_2 at_ i b0a b0ba b0bba b1a b1ba b1bba) slot)) → L55_2 at_ i b0a b0ba b0bba b1a b1ba b1bba res) : L55_2 at_ i b0a b0ba b0bba b1a b1ba b1bba res :=
  assumeRule 55 [] Go.Proofs.Try.f55 hf55 [1, 0, 1, 1, 1, 1, 1, 1, 1, 1, 1, 1, 1] (s55_2 at_ i b0a b0ba b0bba b1a b1ba b1bba) (m55_2 at_ i b0a b0ba b0bba b1a b1ba b1bba) res [] _ (by kernel_rfl) h
theorem o55 (da : Int) (dbaf : Nat → Int) (dbban : Nat) (dbbafn : Nat → Nat) (dbbaff : Nat → Nat → Int) (dbbban : Nat) (dbbbaf : Nat → Int) (text : ByteArray) (at_ : Int) (res : AV) (hnew : newOnly res) (h : L55_e da dbaf dbban dbbafn dbbaff dbbban dbbbaf text at_ res) : Ok Go.Proofs.Try.prog 55 [(.cons 1 (.sc (.int .i64 da)) (.cons 256 (.ar 256 1 (fun i0 => (.sc (.int .u8 (dbaf i0))))) (.cons 1 (.vec true 1 dbban dbban (fun i0 => (.vec true 1 (dbbafn i0) (dbbafn i0) (fun i1 => (.sc (.int .i64 (dbbaff i0 i1))))))) (.cons 1 (.vec true 1 dbbban dbbban (fun i0 => (.sc (.int .i64 (dbbbaf i0))))) .nil)))), (.sc (.string text)), (.sc (.int .i64 at_))] [] res [] :=
  okRule2 55 Go.Proofs.Try.f55 hf55 [(.cons 1 (.sc (.int .i64 da)) (.cons 256 (.ar 256 1 (fun i0 => (.sc (.int .u8 (dbaf i0))))) (.cons 1 (.vec true 1 dbban dbban (fun i0 => (.vec true 1 (dbbafn i0) (dbbafn i0) (fun i1 => (.sc (.int .i64 (dbbaff i0 i1))))))) (.cons 1 (.vec true 1 dbbban dbbban (fun i0 => (.sc (.int .i64 (dbbbaf i0))))) .nil)))), (.sc (.string text)), (.sc (.int .i64 at_))] [] res [] [] rfl (by kernel_rfl) (by kernel_rfl) (by kernel_rfl) ⟨hnew, by simp⟩ (L55_e da dbaf dbban dbbafn dbbaff dbbban dbbbaf text at_ res) (by kernel_rfl) h
theorem r55_e (da : Int) (dbaf : Nat → Int) (dbban : Nat) (dbbafn : Nat → Nat) (dbbaff : Nat → Nat → Int) (dbbban : Nat) (dbbbaf : Nat → Int) (text : ByteArray) (at_ : Int) (res : AV)
    (h : L55_0 text at_ da at_ da dbaf dbban dbbafn dbbaff dbbban dbbbaf (0 : Int) (0 : Int) (0 : Int) (-1 : Int) (0 : Int) (0 : Int) res) :
    L55_e da dbaf dbban dbbafn dbbaff dbbban dbbbaf text at_ res :=
  rule Go.Am.Seat.tabOk 55 [] Go.Proofs.Try.f55 hf55 [] (s55_e da dbaf dbban dbbafn dbbaff dbbban dbbbaf text at_) (m55_e da dbaf dbban dbbafn dbbaff dbbban dbbbaf text at_) res [] 400
    (Orc.cut (nat_lit 9) (s55_0 text at_ da at_ da dbaf dbban dbbafn dbbaff dbbban dbbbaf (0 : Int) (0 : Int) (0 : Int) (-1 : Int) (0 : Int) (0 : Int))
  (m55_0 text at_ da at_ da dbaf dbban dbbafn dbbaff dbbban dbbbaf (0 : Int) (0 : Int) (0 : Int) (-1 : Int) (0 : Int) (0 : Int))
  [((1000 : Nat), some (3 : Nat)), ((1001 : Nat), some (6 : Nat)), ((1002 : Nat), some (7 : Nat))]) _ _ (by kernel_rfl) (by kernel_rfl) (show True ∧
  True ∧
    True ∧
    True ∧
    ((0 : Nat) = (0 : Nat) ∧ True) ∧
    True ∧
    ((0 : Nat) = plus (0 : Nat) (0 : Nat) ∧ True) ∧
    True ∧
    True ∧
    True ∧
    ((True ∧
    Sub (AV.sc (Value.string text)) (AV.sc (Value.string text)) ∧
    True ∧
    Sub (AV.sc (Value.int IntKind.i64 at_)) (AV.sc (Value.int IntKind.i64 at_)) ∧
    True ∧
    Sub (AV.pt (1000 : Nat) [] (0 : Nat)) (AV.pt (1000 : Nat) [] (0 : Nat)) ∧
    True ∧
    Sub (AV.pt (1001 : Nat) [] (0 : Nat)) (AV.pt (1001 : Nat) [] (0 : Nat)) ∧
    True ∧
    Sub (AV.pt (1002 : Nat) [] (0 : Nat)) (AV.pt (1002 : Nat) [] (0 : Nat)) ∧
    True ∧
    Sub (AV.sc (Value.int IntKind.i64 da)) (AV.sc (Value.int IntKind.i64 da)) ∧
    True ∧ Sub (AV.sc (Value.int IntKind.i64 at_)) (AV.sc (Value.int IntKind.i64 at_)) ∧ True) ∧
    (True ∧ True ∧ True ∧ True ∧ True) ∧
    SubB
    (AV.cons (1 : Nat) (AV.sc (Value.int IntKind.i64 da))
    (AV.cons (256 : Nat) (AV.ar (256 : Nat) (1 : Nat) fun (i0 : Nat) => AV.sc (Value.int IntKind.u8 (dbaf i0)))
    (AV.cons (1 : Nat)
    (AV.vec true (1 : Nat) dbban dbban fun (i0 : Nat) =>
    AV.vec true (1 : Nat) (dbbafn i0) (dbbafn i0) fun (i1 : Nat) => AV.sc (Value.int IntKind.i64 (dbbaff i0 i1)))
    (AV.cons (1 : Nat) (AV.vec true (1 : Nat) dbbban dbbban fun (i0 : Nat) => AV.sc (Value.int IntKind.i64 (dbbbaf i0)))
    AV.nil))))
    (AV.cons (1 : Nat) (AV.sc (Value.int IntKind.i64 da))
    (AV.cons (256 : Nat) (AV.ar (256 : Nat) (1 : Nat) fun (i0 : Nat) => AV.sc (Value.int IntKind.u8 (dbaf i0)))
    (AV.cons (1 : Nat)
    (AV.vec true (1 : Nat) dbban dbban fun (i0 : Nat) =>
    AV.vec true (1 : Nat) (dbbafn i0) (dbbafn i0) fun (i1 : Nat) => AV.sc (Value.int IntKind.i64 (dbbaff i0 i1)))
    (AV.cons (1 : Nat) (AV.vec true (1 : Nat) dbbban dbbban fun (i0 : Nat) => AV.sc (Value.int IntKind.i64 (dbbbaf i0)))
    AV.nil)))) ∧
    (True ∧ True ∧ True ∧ True) ∧
    SubB
    (AV.cons (1 : Nat) (AV.sc (Value.int IntKind.i64 (0 : Int)))
    (AV.cons (1 : Nat) (AV.sc (Value.int IntKind.i64 (0 : Int)))
    (AV.cons (1 : Nat) (AV.sc (Value.int IntKind.i64 (0 : Int))) AV.nil)))
    (AV.cons (1 : Nat) (AV.sc (Value.int IntKind.i64 (0 : Int)))
    (AV.cons (1 : Nat) (AV.sc (Value.int IntKind.i64 (0 : Int)))
    (AV.cons (1 : Nat) (AV.sc (Value.int IntKind.i64 (0 : Int))) AV.nil))) ∧
    (True ∧ True ∧ True ∧ True) ∧
    SubB
    (AV.cons (1 : Nat) (AV.sc (Value.int IntKind.i64 (-1 : Int)))
    (AV.cons (1 : Nat) (AV.sc (Value.int IntKind.i64 (0 : Int)))
    (AV.cons (1 : Nat) (AV.sc (Value.int IntKind.i64 (0 : Int))) AV.nil)))
    (AV.cons (1 : Nat) (AV.sc (Value.int IntKind.i64 (-1 : Int)))
    (AV.cons (1 : Nat) (AV.sc (Value.int IntKind.i64 (0 : Int)))
    (AV.cons (1 : Nat) (AV.sc (Value.int IntKind.i64 (0 : Int))) AV.nil))) ∧
    True) ∧
    L55_0 text at_ da at_ da dbaf dbban dbbafn dbbaff dbbban dbbbaf (0 : Int) (0 : Int) (0 : Int) (-1 : Int) (0 : Int) (0 : Int) res from
    ⟨trivial, ⟨trivial, ⟨trivial, ⟨trivial, ⟨⟨rfl, trivial⟩, ⟨trivial, ⟨⟨rfl, trivial⟩, ⟨trivial, ⟨trivial, ⟨trivial, ⟨⟨⟨trivial, ⟨Sub.refl _, ⟨trivial, ⟨Sub.refl _, ⟨trivial, ⟨Sub.refl _, ⟨trivial, ⟨Sub.refl _, ⟨trivial, ⟨Sub.refl _, ⟨trivial, ⟨Sub.refl _, ⟨trivial, ⟨Sub.refl _, trivial⟩⟩⟩⟩⟩⟩⟩⟩⟩⟩⟩⟩⟩⟩, ⟨⟨trivial, ⟨trivial, ⟨trivial, ⟨trivial, trivial⟩⟩⟩⟩, ⟨SubB.refl _, ⟨⟨trivial, ⟨trivial, ⟨trivial, trivial⟩⟩⟩, ⟨SubB.refl _, ⟨⟨trivial, ⟨trivial, ⟨trivial, trivial⟩⟩⟩, ⟨SubB.refl _, trivial⟩⟩⟩⟩⟩⟩⟩, h⟩⟩⟩⟩⟩⟩⟩⟩⟩⟩⟩)
theorem r55_0 (text : ByteArray) (at_ : Int) (s : Int) (i : Int) (b0a : Int) (b0baf : Nat → Int) (b0bban : Nat) (b0bbafn : Nat → Nat) (b0bbaff : Nat → Nat → Int) (b0bbban : Nat) (b0bbbaf : Nat → Int) (b1a : Int) (b1ba : Int) (b1bba : Int) (b2a : Int) (b2ba : Int) (b2bba : Int) (res : AV)
    (h : ((0 : Int) ≤ s ∧ s < (↑b0bban : Int)) ∧
  ((0 : Int) ≤ i ∧ i < (↑text.size : Int)) ∧
    ((0 : Int) ≤ (↑(byteAt text i.toNat).toNat : Int) ∧ (↑(byteAt text i.toNat).toNat : Int) < (↑(256 : Nat) : Int)) ∧
    (↑(byteAt text i.toNat).toNat : Int).toNat < (256 : Nat) ∧
    ((0 : Int) ≤ b0baf (↑(byteAt text i.toNat).toNat : Int).toNat ∧ b0baf (↑(byteAt text i.toNat).toNat : Int).toNat < (↑(b0bbafn s.toNat) : Int)) ∧
    (decide (b0bbaff s.toNat (b0baf (↑(byteAt text i.toNat).toNat : Int).toNat).toNat < (0 : Int)) = true →
    L55_2 at_ (IntKind.i64.wrap (i + (1 : Int))) b1a b1ba b1bba b2a b2ba b2bba res) ∧
    (decide (b0bbaff s.toNat (b0baf (↑(byteAt text i.toNat).toNat : Int).toNat).toNat < (0 : Int)) = false →
    ((0 : Int) ≤ b0bbaff s.toNat (b0baf (↑(byteAt text i.toNat).toNat : Int).toNat).toNat ∧
    b0bbaff s.toNat (b0baf (↑(byteAt text i.toNat).toNat : Int).toNat).toNat < (↑b0bbban : Int)) ∧
    (decide (b0bbbaf (b0bbaff s.toNat (b0baf (↑(byteAt text i.toNat).toNat : Int).toNat).toNat).toNat ≥ (0 : Int)) = true →
    L55_1 text at_ (b0bbaff s.toNat (b0baf (↑(byteAt text i.toNat).toNat : Int).toNat).toNat) (IntKind.i64.wrap (i + (1 : Int))) b0a b0baf
    b0bban b0bbafn b0bbaff b0bbban b0bbbaf b1a b1ba b1bba
    (b0bbbaf (b0bbaff s.toNat (b0baf (↑(byteAt text i.toNat).toNat : Int).toNat).toNat).toNat)
    (IntKind.i64.wrap (IntKind.i64.wrap (i + (1 : Int)) - at_)) b2bba res) ∧
    (decide (b0bbbaf (b0bbaff s.toNat (b0baf (↑(byteAt text i.toNat).toNat : Int).toNat).toNat).toNat ≥ (0 : Int)) = false →
    L55_1 text at_ (b0bbaff s.toNat (b0baf (↑(byteAt text i.toNat).toNat : Int).toNat).toNat) (IntKind.i64.wrap (i + (1 : Int))) b0a b0baf
    b0bban b0bbafn b0bbaff b0bbban b0bbbaf b1a b1ba b1bba b2a b2ba b2bba res))) :
    L55_0 text at_ s i b0a b0baf b0bban b0bbafn b0bbaff b0bbban b0bbbaf b1a b1ba b1bba b2a b2ba b2bba res :=
  rule Go.Am.Seat.tabOk 55 [] Go.Proofs.Try.f55 hf55 [1, 0, 1, 1, 1] (s55_0 text at_ s i b0a b0baf b0bban b0bbafn b0bbaff b0bbban b0bbbaf b1a b1ba b1bba b2a b2ba b2bba) (m55_0 text at_ s i b0a b0baf b0bban b0bbafn b0bbaff b0bbban b0bbbaf b1a b1ba b1bba b2a b2ba b2bba) res [] 400
    ((Orc.cut (nat_lit 3) (s55_2 at_ (IntKind.i64.wrap (i + (1 : Int))) b1a b1ba b1bba b2a b2ba b2bba)
    (m55_2 at_ (IntKind.i64.wrap (i + (1 : Int))) b1a b1ba b1bba b2a b2ba b2bba) [((1000 : Nat), some (1001 : Nat)), ((1001 : Nat), some (1002 : Nat))]).br
  ((Orc.cut (nat_lit 1)
    (s55_1 text at_ (b0bbaff s.toNat (b0baf (↑(byteAt text i.toNat).toNat : Int).toNat).toNat) (IntKind.i64.wrap (i + (1 : Int))) b0a b0baf b0bban b0bbafn
    b0bbaff b0bbban b0bbbaf b1a b1ba b1bba (b0bbbaf (b0bbaff s.toNat (b0baf (↑(byteAt text i.toNat).toNat : Int).toNat).toNat).toNat)
    (IntKind.i64.wrap (IntKind.i64.wrap (i + (1 : Int)) - at_)) b2bba)
    (m55_1 text at_ (b0bbaff s.toNat (b0baf (↑(byteAt text i.toNat).toNat : Int).toNat).toNat) (IntKind.i64.wrap (i + (1 : Int))) b0a b0baf b0bban b0bbafn
    b0bbaff b0bbban b0bbbaf b1a b1ba b1bba (b0bbbaf (b0bbaff s.toNat (b0baf (↑(byteAt text i.toNat).toNat : Int).toNat).toNat).toNat)
    (IntKind.i64.wrap (IntKind.i64.wrap (i + (1 : Int)) - at_)) b2bba)
    [((1000 : Nat), some (1000 : Nat)), ((1001 : Nat), some (1001 : Nat)), ((1002 : Nat), some (1002 : Nat))]).br
    (Orc.cut (nat_lit 1)
    (s55_1 text at_ (b0bbaff s.toNat (b0baf (↑(byteAt text i.toNat).toNat : Int).toNat).toNat) (IntKind.i64.wrap (i + (1 : Int))) b0a b0baf b0bban b0bbafn
    b0bbaff b0bbban b0bbbaf b1a b1ba b1bba b2a b2ba b2bba)
    (m55_1 text at_ (b0bbaff s.toNat (b0baf (↑(byteAt text i.toNat).toNat : Int).toNat).toNat) (IntKind.i64.wrap (i + (1 : Int))) b0a b0baf b0bban b0bbafn
    b0bbaff b0bbban b0bbbaf b1a b1ba b1bba b2a b2ba b2bba)
    [((1000 : Nat), some (1000 : Nat)), ((1001 : Nat), some (1001 : Nat)), ((1002 : Nat), some (1002 : Nat))]))) _ _ (by kernel_rfl) (by kernel_rfl) (show True ∧
  ((1 : Nat) + ((256 : Nat) + (0 : Nat)) = plus (0 : Nat) (257 : Nat) ∧ True) ∧
    True ∧
    ((0 : Int) ≤ s ∧ s < (↑b0bban : Int)) ∧
    True ∧
    True ∧
    True ∧
    ((0 : Int) ≤ i ∧ i < (↑text.size : Int)) ∧
    True ∧
    ((0 : Int) ≤ (↑(byteAt text i.toNat).toNat : Int) ∧ (↑(byteAt text i.toNat).toNat : Int) < (↑(256 : Nat) : Int)) ∧
    ((1 : Nat) + ((↑(byteAt text i.toNat).toNat : Int).toNat * (1 : Nat) + (0 : Nat)) =
    plus (plus (0 : Nat) (1 : Nat)) ((↑(byteAt text i.toNat).toNat : Int).toNat * (1 : Nat)) ∧
    (↑(byteAt text i.toNat).toNat : Int).toNat < (256 : Nat) ∧ True) ∧
    ((0 : Int) ≤ b0baf (↑(byteAt text i.toNat).toNat : Int).toNat ∧
    b0baf (↑(byteAt text i.toNat).toNat : Int).toNat < (↑(b0bbafn s.toNat) : Int)) ∧
    True ∧
    True ∧
    True ∧
    True ∧
    True ∧
    True ∧
    True ∧
    (decide (b0bbaff s.toNat (b0baf (↑(byteAt text i.toNat).toNat : Int).toNat).toNat < (0 : Int)) = true →
    ((True ∧
    Sub (AV.sc (Value.int IntKind.i64 at_)) (AV.sc (Value.int IntKind.i64 at_)) ∧
    True ∧
    Sub (AV.pt (1000 : Nat) [] (0 : Nat)) (AV.pt (1000 : Nat) [] (0 : Nat)) ∧
    True ∧
    Sub (AV.pt (1001 : Nat) [] (0 : Nat)) (AV.pt (1001 : Nat) [] (0 : Nat)) ∧
    True ∧
    Sub (AV.sc (Value.int IntKind.i64 (IntKind.i64.wrap (i + (1 : Int)))))
    (AV.sc (Value.int IntKind.i64 (IntKind.i64.wrap (i + (1 : Int))))) ∧
    True) ∧
    (True ∧ True ∧ True ∧ True) ∧
    SubB
    (AV.cons (1 : Nat) (AV.sc (Value.int IntKind.i64 b1a))
    (AV.cons (1 : Nat) (AV.sc (Value.int IntKind.i64 b1ba))
    (AV.cons (1 : Nat) (AV.sc (Value.int IntKind.i64 b1bba)) AV.nil)))
    (AV.cons (1 : Nat) (AV.sc (Value.int IntKind.i64 b1a))
    (AV.cons (1 : Nat) (AV.sc (Value.int IntKind.i64 b1ba))
    (AV.cons (1 : Nat) (AV.sc (Value.int IntKind.i64 b1bba)) AV.nil))) ∧
    (True ∧ True ∧ True ∧ True) ∧
    SubB
    (AV.cons (1 : Nat) (AV.sc (Value.int IntKind.i64 b2a))
    (AV.cons (1 : Nat) (AV.sc (Value.int IntKind.i64 b2ba))
    (AV.cons (1 : Nat) (AV.sc (Value.int IntKind.i64 b2bba)) AV.nil)))
    (AV.cons (1 : Nat) (AV.sc (Value.int IntKind.i64 b2a))
    (AV.cons (1 : Nat) (AV.sc (Value.int IntKind.i64 b2ba))
    (AV.cons (1 : Nat) (AV.sc (Value.int IntKind.i64 b2bba)) AV.nil))) ∧
    True) ∧
    L55_2 at_ (IntKind.i64.wrap (i + (1 : Int))) b1a b1ba b1bba b2a b2ba b2bba res) ∧
    (decide (b0bbaff s.toNat (b0baf (↑(byteAt text i.toNat).toNat : Int).toNat).toNat < (0 : Int)) = false →
    True ∧
    ((1 : Nat) + ((256 : Nat) + ((1 : Nat) + (0 : Nat))) = plus (0 : Nat) (258 : Nat) ∧ True) ∧
    True ∧
    ((0 : Int) ≤ b0bbaff s.toNat (b0baf (↑(byteAt text i.toNat).toNat : Int).toNat).toNat ∧
    b0bbaff s.toNat (b0baf (↑(byteAt text i.toNat).toNat : Int).toNat).toNat < (↑b0bbban : Int)) ∧
    True ∧
    True ∧
    (decide
    (b0bbbaf (b0bbaff s.toNat (b0baf (↑(byteAt text i.toNat).toNat : Int).toNat).toNat).toNat ≥
    (0 : Int)) =
    true →
    True ∧
    ((1 : Nat) + ((256 : Nat) + ((1 : Nat) + (0 : Nat))) = plus (0 : Nat) (258 : Nat) ∧ True) ∧
    True ∧
    ((0 : Int) ≤ b0bbaff s.toNat (b0baf (↑(byteAt text i.toNat).toNat : Int).toNat).toNat ∧
    b0bbaff s.toNat (b0baf (↑(byteAt text i.toNat).toNat : Int).toNat).toNat <
    (↑b0bbban : Int)) ∧
    True ∧
    True ∧
    True ∧
    True ∧
    True ∧
    ((0 : Nat) = plus (0 : Nat) (0 : Nat) ∧ True) ∧
    True ∧
    ((1 : Nat) + (0 : Nat) = plus (0 : Nat) (1 : Nat) ∧ True) ∧
    ((True ∧
    Sub (AV.sc (Value.string text)) (AV.sc (Value.string text)) ∧
    True ∧
    Sub (AV.sc (Value.int IntKind.i64 at_))
    (AV.sc (Value.int IntKind.i64 at_)) ∧
    True ∧
    Sub (AV.pt (1000 : Nat) [] (0 : Nat))
    (AV.pt (1000 : Nat) [] (0 : Nat)) ∧
    True ∧
    Sub (AV.pt (1001 : Nat) [] (0 : Nat))
    (AV.pt (1001 : Nat) [] (0 : Nat)) ∧
    True ∧
    Sub (AV.pt (1002 : Nat) [] (0 : Nat))
    (AV.pt (1002 : Nat) [] (0 : Nat)) ∧
    True ∧
    Sub
    (AV.sc
    (Value.int IntKind.i64
    (b0bbaff s.toNat
    (b0baf
    (↑(byteAt text i.toNat).toNat :
    Int).toNat).toNat)))
    (AV.sc
    (Value.int IntKind.i64
    (b0bbaff s.toNat
    (b0baf
    (↑(byteAt text i.toNat).toNat :
    Int).toNat).toNat))) ∧
    True ∧
    Sub
    (AV.sc
    (Value.int IntKind.i64
    (IntKind.i64.wrap (i + (1 : Int)))))
    (AV.sc
    (Value.int IntKind.i64
    (IntKind.i64.wrap (i + (1 : Int))))) ∧
    True) ∧
    (True ∧ True ∧ True ∧ True ∧ True) ∧
    SubB
    (AV.cons (1 : Nat) (AV.sc (Value.int IntKind.i64 b0a))
    (AV.cons (256 : Nat)
    (AV.ar (256 : Nat) (1 : Nat) fun (i0 : Nat) =>
    AV.sc (Value.int IntKind.u8 (b0baf i0)))
    (AV.cons (1 : Nat)
    (AV.vec true (1 : Nat) b0bban b0bban fun (i0 : Nat) =>
    AV.vec true (1 : Nat) (b0bbafn i0) (b0bbafn i0)
    fun (i1 : Nat) =>
    AV.sc (Value.int IntKind.i64 (b0bbaff i0 i1)))
    (AV.cons (1 : Nat)
    (AV.vec true (1 : Nat) b0bbban b0bbban fun (i0 : Nat) =>
    AV.sc (Value.int IntKind.i64 (b0bbbaf i0)))
    AV.nil))))
    (AV.cons (1 : Nat) (AV.sc (Value.int IntKind.i64 b0a))
    (AV.cons (256 : Nat)
    (AV.ar (256 : Nat) (1 : Nat) fun (i0 : Nat) =>
    AV.sc (Value.int IntKind.u8 (b0baf i0)))
    (AV.cons (1 : Nat)
    (AV.vec true (1 : Nat) b0bban b0bban fun (i0 : Nat) =>
    AV.vec true (1 : Nat) (b0bbafn i0) (b0bbafn i0)
    fun (i1 : Nat) =>
    AV.sc (Value.int IntKind.i64 (b0bbaff i0 i1)))
    (AV.cons (1 : Nat)
    (AV.vec true (1 : Nat) b0bbban b0bbban fun (i0 : Nat) =>
    AV.sc (Value.int IntKind.i64 (b0bbbaf i0)))
    AV.nil)))) ∧
    (True ∧ True ∧ True ∧ True) ∧
    SubB
    (AV.cons (1 : Nat) (AV.sc (Value.int IntKind.i64 b1a))
    (AV.cons (1 : Nat) (AV.sc (Value.int IntKind.i64 b1ba))
    (AV.cons (1 : Nat) (AV.sc (Value.int IntKind.i64 b1bba))
    AV.nil)))
    (AV.cons (1 : Nat) (AV.sc (Value.int IntKind.i64 b1a))
    (AV.cons (1 : Nat) (AV.sc (Value.int IntKind.i64 b1ba))
    (AV.cons (1 : Nat) (AV.sc (Value.int IntKind.i64 b1bba))
    AV.nil))) ∧
    (True ∧ True ∧ True ∧ True) ∧
    SubB
    (AV.cons (1 : Nat)
    (AV.sc
    (Value.int IntKind.i64
    (b0bbbaf
    (b0bbaff s.toNat
    (b0baf
    (↑(byteAt text i.toNat).toNat :
    Int).toNat).toNat).toNat)))
    (AV.cons (1 : Nat)
    (AV.sc
    (Value.int IntKind.i64
    (IntKind.i64.wrap
    (IntKind.i64.wrap (i + (1 : Int)) - at_))))
    (AV.cons (1 : Nat) (AV.sc (Value.int IntKind.i64 b2bba))
    AV.nil)))
    (AV.cons (1 : Nat)
    (AV.sc
    (Value.int IntKind.i64
    (b0bbbaf
    (b0bbaff s.toNat
    (b0baf
    (↑(byteAt text i.toNat).toNat :
    Int).toNat).toNat).toNat)))
    (AV.cons (1 : Nat)
    (AV.sc
    (Value.int IntKind.i64
    (IntKind.i64.wrap
    (IntKind.i64.wrap (i + (1 : Int)) - at_))))
    (AV.cons (1 : Nat) (AV.sc (Value.int IntKind.i64 b2bba))
    AV.nil))) ∧
    True) ∧
    L55_1 text at_
    (b0bbaff s.toNat (b0baf (↑(byteAt text i.toNat).toNat : Int).toNat).toNat)
    (IntKind.i64.wrap (i + (1 : Int))) b0a b0baf b0bban b0bbafn b0bbaff
    b0bbban b0bbbaf b1a b1ba b1bba
    (b0bbbaf
    (b0bbaff s.toNat
    (b0baf (↑(byteAt text i.toNat).toNat : Int).toNat).toNat).toNat)
    (IntKind.i64.wrap (IntKind.i64.wrap (i + (1 : Int)) - at_)) b2bba res) ∧
    (decide
    (b0bbbaf (b0bbaff s.toNat (b0baf (↑(byteAt text i.toNat).toNat : Int).toNat).toNat).toNat ≥
    (0 : Int)) =
    false →
    ((True ∧
    Sub (AV.sc (Value.string text)) (AV.sc (Value.string text)) ∧
    True ∧
    Sub (AV.sc (Value.int IntKind.i64 at_)) (AV.sc (Value.int IntKind.i64 at_)) ∧
    True ∧
    Sub (AV.pt (1000 : Nat) [] (0 : Nat)) (AV.pt (1000 : Nat) [] (0 : Nat)) ∧
    True ∧
    Sub (AV.pt (1001 : Nat) [] (0 : Nat)) (AV.pt (1001 : Nat) [] (0 : Nat)) ∧
    True ∧
    Sub (AV.pt (1002 : Nat) [] (0 : Nat)) (AV.pt (1002 : Nat) [] (0 : Nat)) ∧
    True ∧
    Sub
    (AV.sc
    (Value.int IntKind.i64
    (b0bbaff s.toNat
    (b0baf (↑(byteAt text i.toNat).toNat : Int).toNat).toNat)))
    (AV.sc
    (Value.int IntKind.i64
    (b0bbaff s.toNat
    (b0baf (↑(byteAt text i.toNat).toNat : Int).toNat).toNat))) ∧
    True ∧
    Sub (AV.sc (Value.int IntKind.i64 (IntKind.i64.wrap (i + (1 : Int)))))
    (AV.sc (Value.int IntKind.i64 (IntKind.i64.wrap (i + (1 : Int))))) ∧
    True) ∧
    (True ∧ True ∧ True ∧ True ∧ True) ∧
    SubB
    (AV.cons (1 : Nat) (AV.sc (Value.int IntKind.i64 b0a))
    (AV.cons (256 : Nat)
    (AV.ar (256 : Nat) (1 : Nat) fun (i0 : Nat) => AV.sc (Value.int IntKind.u8 (b0baf i0)))
    (AV.cons (1 : Nat)
    (AV.vec true (1 : Nat) b0bban b0bban fun (i0 : Nat) =>
    AV.vec true (1 : Nat) (b0bbafn i0) (b0bbafn i0) fun (i1 : Nat) =>
    AV.sc (Value.int IntKind.i64 (b0bbaff i0 i1)))
    (AV.cons (1 : Nat)
    (AV.vec true (1 : Nat) b0bbban b0bbban fun (i0 : Nat) =>
    AV.sc (Value.int IntKind.i64 (b0bbbaf i0)))
    AV.nil))))
    (AV.cons (1 : Nat) (AV.sc (Value.int IntKind.i64 b0a))
    (AV.cons (256 : Nat)
    (AV.ar (256 : Nat) (1 : Nat) fun (i0 : Nat) => AV.sc (Value.int IntKind.u8 (b0baf i0)))
    (AV.cons (1 : Nat)
    (AV.vec true (1 : Nat) b0bban b0bban fun (i0 : Nat) =>
    AV.vec true (1 : Nat) (b0bbafn i0) (b0bbafn i0) fun (i1 : Nat) =>
    AV.sc (Value.int IntKind.i64 (b0bbaff i0 i1)))
    (AV.cons (1 : Nat)
    (AV.vec true (1 : Nat) b0bbban b0bbban fun (i0 : Nat) =>
    AV.sc (Value.int IntKind.i64 (b0bbbaf i0)))
    AV.nil)))) ∧
    (True ∧ True ∧ True ∧ True) ∧
    SubB
    (AV.cons (1 : Nat) (AV.sc (Value.int IntKind.i64 b1a))
    (AV.cons (1 : Nat) (AV.sc (Value.int IntKind.i64 b1ba))
    (AV.cons (1 : Nat) (AV.sc (Value.int IntKind.i64 b1bba)) AV.nil)))
    (AV.cons (1 : Nat) (AV.sc (Value.int IntKind.i64 b1a))
    (AV.cons (1 : Nat) (AV.sc (Value.int IntKind.i64 b1ba))
    (AV.cons (1 : Nat) (AV.sc (Value.int IntKind.i64 b1bba)) AV.nil))) ∧
    (True ∧ True ∧ True ∧ True) ∧
    SubB
    (AV.cons (1 : Nat) (AV.sc (Value.int IntKind.i64 b2a))
    (AV.cons (1 : Nat) (AV.sc (Value.int IntKind.i64 b2ba))
    (AV.cons (1 : Nat) (AV.sc (Value.int IntKind.i64 b2bba)) AV.nil)))
    (AV.cons (1 : Nat) (AV.sc (Value.int IntKind.i64 b2a))
    (AV.cons (1 : Nat) (AV.sc (Value.int IntKind.i64 b2ba))
    (AV.cons (1 : Nat) (AV.sc (Value.int IntKind.i64 b2bba)) AV.nil))) ∧
    True) ∧
    L55_1 text at_ (b0bbaff s.toNat (b0baf (↑(byteAt text i.toNat).toNat : Int).toNat).toNat)
    (IntKind.i64.wrap (i + (1 : Int))) b0a b0baf b0bban b0bbafn b0bbaff b0bbban b0bbbaf b1a b1ba b1bba
    b2a b2ba b2bba res)) from
    ⟨trivial, ⟨⟨rfl, trivial⟩, ⟨trivial, (And.elim (fun h3 k3 => ⟨(And.elim (fun h4 k4 => ⟨h4, k4⟩) h3), ⟨trivial, ⟨trivial, ⟨trivial, (And.elim (fun h7 k7 => ⟨(And.elim (fun h8 k8 => ⟨h8, k8⟩) h7), ⟨trivial, (And.elim (fun h9 k9 => ⟨(And.elim (fun h10 k10 => ⟨h10, k10⟩) h9), (And.elim (fun h10 k10 => ⟨⟨rfl, ((fun h12 => ⟨h12, trivial⟩) h10)⟩, (And.elim (fun h11 k11 => ⟨(And.elim (fun h12 k12 => ⟨h12, k12⟩) h11), ⟨trivial, ⟨trivial, ⟨trivial, ⟨trivial, ⟨trivial, ⟨trivial, ⟨trivial, (And.elim (fun h19 k19 => ⟨(fun x20 => (fun h20 => ⟨⟨⟨trivial, ⟨Sub.refl _, ⟨trivial, ⟨Sub.refl _, ⟨trivial, ⟨Sub.refl _, ⟨trivial, ⟨Sub.refl _, trivial⟩⟩⟩⟩⟩⟩⟩⟩, ⟨⟨trivial, ⟨trivial, ⟨trivial, trivial⟩⟩⟩, ⟨SubB.refl _, ⟨⟨trivial, ⟨trivial, ⟨trivial, trivial⟩⟩⟩, ⟨SubB.refl _, trivial⟩⟩⟩⟩⟩, h20⟩) (h19 x20)), (fun x20 => (fun h20 => ⟨trivial, ⟨⟨rfl, trivial⟩, ⟨trivial, (And.elim (fun h24 k24 => ⟨(And.elim (fun h25 k25 => ⟨h25, k25⟩) h24), ⟨trivial, ⟨trivial, (And.elim (fun h27 k27 => ⟨(fun x28 => (fun h28 => ⟨trivial, ⟨⟨rfl, trivial⟩, ⟨trivial, ⟨(And.elim (fun h33 k33 => ⟨h33, k33⟩) h24), ⟨trivial, ⟨trivial, ⟨trivial, ⟨trivial, ⟨trivial, ⟨⟨rfl, trivial⟩, ⟨trivial, ⟨⟨rfl, trivial⟩, ⟨⟨⟨trivial, ⟨Sub.refl _, ⟨trivial, ⟨Sub.refl _, ⟨trivial, ⟨Sub.refl _, ⟨trivial, ⟨Sub.refl _, ⟨trivial, ⟨Sub.refl _, ⟨trivial, ⟨Sub.refl _, ⟨trivial, ⟨Sub.refl _, trivial⟩⟩⟩⟩⟩⟩⟩⟩⟩⟩⟩⟩⟩⟩, ⟨⟨trivial, ⟨trivial, ⟨trivial, ⟨trivial, trivial⟩⟩⟩⟩, ⟨SubB.refl _, ⟨⟨trivial, ⟨trivial, ⟨trivial, trivial⟩⟩⟩, ⟨SubB.refl _, ⟨⟨trivial, ⟨trivial, ⟨trivial, trivial⟩⟩⟩, ⟨SubB.refl _, trivial⟩⟩⟩⟩⟩⟩⟩, h28⟩⟩⟩⟩⟩⟩⟩⟩⟩⟩⟩⟩⟩) (h27 x28)), (fun x28 => (fun h28 => ⟨⟨⟨trivial, ⟨Sub.refl _, ⟨trivial, ⟨Sub.refl _, ⟨trivial, ⟨Sub.refl _, ⟨trivial, ⟨Sub.refl _, ⟨trivial, ⟨Sub.refl _, ⟨trivial, ⟨Sub.refl _, ⟨trivial, ⟨Sub.refl _, trivial⟩⟩⟩⟩⟩⟩⟩⟩⟩⟩⟩⟩⟩⟩, ⟨⟨trivial, ⟨trivial, ⟨trivial, ⟨trivial, trivial⟩⟩⟩⟩, ⟨SubB.refl _, ⟨⟨trivial, ⟨trivial, ⟨trivial, trivial⟩⟩⟩, ⟨SubB.refl _, ⟨⟨trivial, ⟨trivial, ⟨trivial, trivial⟩⟩⟩, ⟨SubB.refl _, trivial⟩⟩⟩⟩⟩⟩⟩, h28⟩) (k27 x28))⟩) k24)⟩⟩⟩) h20)⟩⟩⟩) (k19 x20))⟩) k11)⟩⟩⟩⟩⟩⟩⟩⟩) k10)⟩) k9)⟩) k7)⟩⟩) k3)⟩⟩⟩⟩) h)⟩⟩⟩)
theorem r55_1 (text : ByteArray) (at_ : Int) (s : Int) (i : Int) (b0a : Int) (b0baf : Nat → Int) (b0bban : Nat) (b0bbafn : Nat → Nat) (b0bbaff : Nat → Nat → Int) (b0bbban : Nat) (b0bbbaf : Nat → Int) (b1a : Int) (b1ba : Int) (b1bba : Int) (b2a : Int) (b2ba : Int) (b2bba : Int) (res : AV)
    (h : ((0 : Int) ≤ s ∧ s < (↑b0bban : Int)) ∧
  ∃ (r : Bool),
    Ok Proofs.Try.prog (92 : Nat)
    [AV.vec true (1 : Nat) (b0bbafn s.toNat) (b0bbafn s.toNat) fun (i : Nat) => AV.sc (Value.int IntKind.i64 (b0bbaff s.toNat i)),
    AV.sc (Value.func (Fn.func (93 : Nat)) #[] #[])]
    [] (AV.sc (Value.bool r)) [] ∧
    ((!r) = true → L55_2 at_ i b1a b1ba b1bba b2a b2ba b2bba res) ∧
    ((!r) = false →
    (decide (i < (↑text.size : Int)) = true → L55_0 text at_ s i b0a b0baf b0bban b0bbafn b0bbaff b0bbban b0bbbaf b1a b1ba b1bba b2a b2ba b2bba res) ∧
    (decide (i < (↑text.size : Int)) = false → L55_2 at_ (IntKind.i64.wrap (i + (1 : Int))) b1a b1ba b1bba b2a b2ba b2bba res))) :
    L55_1 text at_ s i b0a b0baf b0bban b0bbafn b0bbaff b0bbban b0bbbaf b1a b1ba b1bba b2a b2ba b2bba res :=
  rule Go.Am.Seat.tabOk 55 [] Go.Proofs.Try.f55 hf55 [1, 0, 1, 1, 1, 1, 1, 1, 1] (s55_1 text at_ s i b0a b0baf b0bban b0bbafn b0bbaff b0bbban b0bbbaf b1a b1ba b1bba b2a b2ba b2bba) (m55_1 text at_ s i b0a b0baf b0bban b0bbafn b0bbaff b0bbban b0bbbaf b1a b1ba b1bba b2a b2ba b2bba) res [] 400
    (Orc.call [] [] (fun (r92 : Bool) => AV.sc (Value.bool r92)) (fun (r92 : Bool) => []) fun (r92 : Bool) =>
  (Orc.cut (nat_lit 3) (s55_2 at_ i b1a b1ba b1bba b2a b2ba b2bba) (m55_2 at_ i b1a b1ba b1bba b2a b2ba b2bba)
    [((1000 : Nat), some (1001 : Nat)), ((1001 : Nat), some (1002 : Nat))]).br
    ((Orc.cut (nat_lit 3) (s55_0 text at_ s i b0a b0baf b0bban b0bbafn b0bbaff b0bbban b0bbbaf b1a b1ba b1bba b2a b2ba b2bba)
    (m55_0 text at_ s i b0a b0baf b0bban b0bbafn b0bbaff b0bbban b0bbbaf b1a b1ba b1bba b2a b2ba b2bba)
    [((1000 : Nat), some (1000 : Nat)), ((1001 : Nat), some (1001 : Nat)), ((1002 : Nat), some (1002 : Nat))]).br
    (Orc.cut (nat_lit 5) (s55_2 at_ (IntKind.i64.wrap (i + (1 : Int))) b1a b1ba b1bba b2a b2ba b2bba)
    (m55_2 at_ (IntKind.i64.wrap (i + (1 : Int))) b1a b1ba b1bba b2a b2ba b2bba) [((1000 : Nat), some (1001 : Nat)), ((1001 : Nat), some (1002 : Nat))]))) _ _ (by kernel_rfl) (by kernel_rfl) (show True ∧
  ((1 : Nat) + ((256 : Nat) + (0 : Nat)) = plus (0 : Nat) (257 : Nat) ∧ True) ∧
    True ∧
    ((0 : Int) ≤ s ∧ s < (↑b0bban : Int)) ∧
    True ∧
    ∃ (r : Bool),
    ((True ∧ True ∧ True) ∧
    True ∧
    Ok Proofs.Try.prog (92 : Nat)
    [AV.vec true (1 : Nat) (b0bbafn s.toNat) (b0bbafn s.toNat) fun (i : Nat) => AV.sc (Value.int IntKind.i64 (b0bbaff s.toNat i)),
    AV.sc (Value.func (Fn.func (93 : Nat)) #[] #[])]
    [] (AV.sc (Value.bool r)) []) ∧
    True ∧
    ((!r) = true →
    ((True ∧
    Sub (AV.sc (Value.int IntKind.i64 at_)) (AV.sc (Value.int IntKind.i64 at_)) ∧
    True ∧
    Sub (AV.pt (1000 : Nat) [] (0 : Nat)) (AV.pt (1000 : Nat) [] (0 : Nat)) ∧
    True ∧
    Sub (AV.pt (1001 : Nat) [] (0 : Nat)) (AV.pt (1001 : Nat) [] (0 : Nat)) ∧
    True ∧ Sub (AV.sc (Value.int IntKind.i64 i)) (AV.sc (Value.int IntKind.i64 i)) ∧ True) ∧
    (True ∧ True ∧ True ∧ True) ∧
    SubB
    (AV.cons (1 : Nat) (AV.sc (Value.int IntKind.i64 b1a))
    (AV.cons (1 : Nat) (AV.sc (Value.int IntKind.i64 b1ba)) (AV.cons (1 : Nat) (AV.sc (Value.int IntKind.i64 b1bba)) AV.nil)))
    (AV.cons (1 : Nat) (AV.sc (Value.int IntKind.i64 b1a))
    (AV.cons (1 : Nat) (AV.sc (Value.int IntKind.i64 b1ba)) (AV.cons (1 : Nat) (AV.sc (Value.int IntKind.i64 b1bba)) AV.nil))) ∧
    (True ∧ True ∧ True ∧ True) ∧
    SubB
    (AV.cons (1 : Nat) (AV.sc (Value.int IntKind.i64 b2a))
    (AV.cons (1 : Nat) (AV.sc (Value.int IntKind.i64 b2ba)) (AV.cons (1 : Nat) (AV.sc (Value.int IntKind.i64 b2bba)) AV.nil)))
    (AV.cons (1 : Nat) (AV.sc (Value.int IntKind.i64 b2a))
    (AV.cons (1 : Nat) (AV.sc (Value.int IntKind.i64 b2ba)) (AV.cons (1 : Nat) (AV.sc (Value.int IntKind.i64 b2bba)) AV.nil))) ∧
    True) ∧
    L55_2 at_ i b1a b1ba b1bba b2a b2ba b2bba res) ∧
    ((!r) = false →
    True ∧
    True ∧
    True ∧
    True ∧
    (decide (i < (↑text.size : Int)) = true →
    ((True ∧
    Sub (AV.sc (Value.string text)) (AV.sc (Value.string text)) ∧
    True ∧
    Sub (AV.sc (Value.int IntKind.i64 at_)) (AV.sc (Value.int IntKind.i64 at_)) ∧
    True ∧
    Sub (AV.pt (1000 : Nat) [] (0 : Nat)) (AV.pt (1000 : Nat) [] (0 : Nat)) ∧
    True ∧
    Sub (AV.pt (1001 : Nat) [] (0 : Nat)) (AV.pt (1001 : Nat) [] (0 : Nat)) ∧
    True ∧
    Sub (AV.pt (1002 : Nat) [] (0 : Nat)) (AV.pt (1002 : Nat) [] (0 : Nat)) ∧
    True ∧
    Sub (AV.sc (Value.int IntKind.i64 s)) (AV.sc (Value.int IntKind.i64 s)) ∧
    True ∧ Sub (AV.sc (Value.int IntKind.i64 i)) (AV.sc (Value.int IntKind.i64 i)) ∧ True) ∧
    (True ∧ True ∧ True ∧ True ∧ True) ∧
    SubB
    (AV.cons (1 : Nat) (AV.sc (Value.int IntKind.i64 b0a))
    (AV.cons (256 : Nat) (AV.ar (256 : Nat) (1 : Nat) fun (i0 : Nat) => AV.sc (Value.int IntKind.u8 (b0baf i0)))
    (AV.cons (1 : Nat)
    (AV.vec true (1 : Nat) b0bban b0bban fun (i0 : Nat) =>
    AV.vec true (1 : Nat) (b0bbafn i0) (b0bbafn i0) fun (i1 : Nat) =>
    AV.sc (Value.int IntKind.i64 (b0bbaff i0 i1)))
    (AV.cons (1 : Nat)
    (AV.vec true (1 : Nat) b0bbban b0bbban fun (i0 : Nat) => AV.sc (Value.int IntKind.i64 (b0bbbaf i0)))
    AV.nil))))
    (AV.cons (1 : Nat) (AV.sc (Value.int IntKind.i64 b0a))
    (AV.cons (256 : Nat) (AV.ar (256 : Nat) (1 : Nat) fun (i0 : Nat) => AV.sc (Value.int IntKind.u8 (b0baf i0)))
    (AV.cons (1 : Nat)
    (AV.vec true (1 : Nat) b0bban b0bban fun (i0 : Nat) =>
    AV.vec true (1 : Nat) (b0bbafn i0) (b0bbafn i0) fun (i1 : Nat) =>
    AV.sc (Value.int IntKind.i64 (b0bbaff i0 i1)))
    (AV.cons (1 : Nat)
    (AV.vec true (1 : Nat) b0bbban b0bbban fun (i0 : Nat) => AV.sc (Value.int IntKind.i64 (b0bbbaf i0)))
    AV.nil)))) ∧
    (True ∧ True ∧ True ∧ True) ∧
    SubB
    (AV.cons (1 : Nat) (AV.sc (Value.int IntKind.i64 b1a))
    (AV.cons (1 : Nat) (AV.sc (Value.int IntKind.i64 b1ba))
    (AV.cons (1 : Nat) (AV.sc (Value.int IntKind.i64 b1bba)) AV.nil)))
    (AV.cons (1 : Nat) (AV.sc (Value.int IntKind.i64 b1a))
    (AV.cons (1 : Nat) (AV.sc (Value.int IntKind.i64 b1ba))
    (AV.cons (1 : Nat) (AV.sc (Value.int IntKind.i64 b1bba)) AV.nil))) ∧
    (True ∧ True ∧ True ∧ True) ∧
    SubB
    (AV.cons (1 : Nat) (AV.sc (Value.int IntKind.i64 b2a))
    (AV.cons (1 : Nat) (AV.sc (Value.int IntKind.i64 b2ba))
    (AV.cons (1 : Nat) (AV.sc (Value.int IntKind.i64 b2bba)) AV.nil)))
    (AV.cons (1 : Nat) (AV.sc (Value.int IntKind.i64 b2a))
    (AV.cons (1 : Nat) (AV.sc (Value.int IntKind.i64 b2ba))
    (AV.cons (1 : Nat) (AV.sc (Value.int IntKind.i64 b2bba)) AV.nil))) ∧
    True) ∧
    L55_0 text at_ s i b0a b0baf b0bban b0bbafn b0bbaff b0bbban b0bbbaf b1a b1ba b1bba b2a b2ba b2bba res) ∧
    (decide (i < (↑text.size : Int)) = false →
    True ∧
    True ∧
    True ∧
    ((True ∧
    Sub (AV.sc (Value.int IntKind.i64 at_)) (AV.sc (Value.int IntKind.i64 at_)) ∧
    True ∧
    Sub (AV.pt (1000 : Nat) [] (0 : Nat)) (AV.pt (1000 : Nat) [] (0 : Nat)) ∧
    True ∧
    Sub (AV.pt (1001 : Nat) [] (0 : Nat)) (AV.pt (1001 : Nat) [] (0 : Nat)) ∧
    True ∧
    Sub (AV.sc (Value.int IntKind.i64 (IntKind.i64.wrap (i + (1 : Int)))))
    (AV.sc (Value.int IntKind.i64 (IntKind.i64.wrap (i + (1 : Int))))) ∧
    True) ∧
    (True ∧ True ∧ True ∧ True) ∧
    SubB
    (AV.cons (1 : Nat) (AV.sc (Value.int IntKind.i64 b1a))
    (AV.cons (1 : Nat) (AV.sc (Value.int IntKind.i64 b1ba))
    (AV.cons (1 : Nat) (AV.sc (Value.int IntKind.i64 b1bba)) AV.nil)))
    (AV.cons (1 : Nat) (AV.sc (Value.int IntKind.i64 b1a))
    (AV.cons (1 : Nat) (AV.sc (Value.int IntKind.i64 b1ba))
    (AV.cons (1 : Nat) (AV.sc (Value.int IntKind.i64 b1bba)) AV.nil))) ∧
    (True ∧ True ∧ True ∧ True) ∧
    SubB
    (AV.cons (1 : Nat) (AV.sc (Value.int IntKind.i64 b2a))
    (AV.cons (1 : Nat) (AV.sc (Value.int IntKind.i64 b2ba))
    (AV.cons (1 : Nat) (AV.sc (Value.int IntKind.i64 b2bba)) AV.nil)))
    (AV.cons (1 : Nat) (AV.sc (Value.int IntKind.i64 b2a))
    (AV.cons (1 : Nat) (AV.sc (Value.int IntKind.i64 b2ba))
    (AV.cons (1 : Nat) (AV.sc (Value.int IntKind.i64 b2bba)) AV.nil))) ∧
    True) ∧
    L55_2 at_ (IntKind.i64.wrap (i + (1 : Int))) b1a b1ba b1bba b2a b2ba b2bba res)) from
    ⟨trivial, ⟨⟨rfl, trivial⟩, ⟨trivial, (And.elim (fun h3 k3 => ⟨(And.elim (fun h4 k4 => ⟨h4, k4⟩) h3), ⟨trivial, (Exists.elim k3 fun x5 h5 => ⟨x5, (And.elim (fun h6 k6 => ⟨⟨⟨trivial, ⟨trivial, trivial⟩⟩, ⟨trivial, h6⟩⟩, ⟨trivial, (And.elim (fun h8 k8 => ⟨(fun x9 => (fun h9 => ⟨⟨⟨trivial, ⟨Sub.refl _, ⟨trivial, ⟨Sub.refl _, ⟨trivial, ⟨Sub.refl _, ⟨trivial, ⟨Sub.refl _, trivial⟩⟩⟩⟩⟩⟩⟩⟩, ⟨⟨trivial, ⟨trivial, ⟨trivial, trivial⟩⟩⟩, ⟨SubB.refl _, ⟨⟨trivial, ⟨trivial, ⟨trivial, trivial⟩⟩⟩, ⟨SubB.refl _, trivial⟩⟩⟩⟩⟩, h9⟩) (h8 x9)), (fun x9 => (fun h9 => ⟨trivial, ⟨trivial, ⟨trivial, ⟨trivial, (And.elim (fun h14 k14 => ⟨(fun x15 => (fun h15 => ⟨⟨⟨trivial, ⟨Sub.refl _, ⟨trivial, ⟨Sub.refl _, ⟨trivial, ⟨Sub.refl _, ⟨trivial, ⟨Sub.refl _, ⟨trivial, ⟨Sub.refl _, ⟨trivial, ⟨Sub.refl _, ⟨trivial, ⟨Sub.refl _, trivial⟩⟩⟩⟩⟩⟩⟩⟩⟩⟩⟩⟩⟩⟩, ⟨⟨trivial, ⟨trivial, ⟨trivial, ⟨trivial, trivial⟩⟩⟩⟩, ⟨SubB.refl _, ⟨⟨trivial, ⟨trivial, ⟨trivial, trivial⟩⟩⟩, ⟨SubB.refl _, ⟨⟨trivial, ⟨trivial, ⟨trivial, trivial⟩⟩⟩, ⟨SubB.refl _, trivial⟩⟩⟩⟩⟩⟩⟩, h15⟩) (h14 x15)), (fun x15 => (fun h15 => ⟨trivial, ⟨trivial, ⟨trivial, ⟨⟨⟨trivial, ⟨Sub.refl _, ⟨trivial, ⟨Sub.refl _, ⟨trivial, ⟨Sub.refl _, ⟨trivial, ⟨Sub.refl _, trivial⟩⟩⟩⟩⟩⟩⟩⟩, ⟨⟨trivial, ⟨trivial, ⟨trivial, trivial⟩⟩⟩, ⟨SubB.refl _, ⟨⟨trivial, ⟨trivial, ⟨trivial, trivial⟩⟩⟩, ⟨SubB.refl _, trivial⟩⟩⟩⟩⟩, h15⟩⟩⟩⟩) (k14 x15))⟩) h9)⟩⟩⟩⟩) (k8 x9))⟩) k6)⟩⟩) h5)⟩)⟩⟩) h)⟩⟩⟩)
theorem r55_2 (at_ : Int) (i : Int) (b0a : Int) (b0ba : Int) (b0bba : Int) (b1a : Int) (b1ba : Int) (b1bba : Int) (res : AV)
    (h : Sub
  (AV.cons (1 : Nat) (AV.sc (Value.int IntKind.i64 b1a))
    (AV.cons (1 : Nat) (AV.sc (Value.int IntKind.i64 b1ba)) (AV.cons (1 : Nat) (AV.sc (Value.int IntKind.i64 (IntKind.i64.wrap (i - at_)))) AV.nil)))
  res) :
    L55_2 at_ i b0a b0ba b0bba b1a b1ba b1bba res :=
  rule Go.Am.Seat.tabOk 55 [] Go.Proofs.Try.f55 hf55 [1, 0, 1, 1, 1, 1, 1, 1, 1, 1, 1, 1, 1] (s55_2 at_ i b0a b0ba b0bba b1a b1ba b1bba) (m55_2 at_ i b0a b0ba b0bba b1a b1ba b1bba) res [] 400
    (Orc.fin
  (AV.cons (1 : Nat) (AV.sc (Value.int IntKind.i64 b1a))
    (AV.cons (1 : Nat) (AV.sc (Value.int IntKind.i64 b1ba)) (AV.cons (1 : Nat) (AV.sc (Value.int IntKind.i64 (IntKind.i64.wrap (i - at_)))) AV.nil)))
  [] []) _ _ (by kernel_rfl) (by kernel_rfl) (show True ∧
  True ∧
    True ∧
    True ∧
    ((1 : Nat) + ((1 : Nat) + (0 : Nat)) = plus (0 : Nat) (2 : Nat) ∧ True) ∧
    ((0 : Nat) = (0 : Nat) ∧ True) ∧
    ((0 : Nat) = (0 : Nat) ∧ True) ∧
    ((0 : Nat) = (0 : Nat) ∧ True) ∧
    (((True ∧ True ∧ True ∧ True) ∧
    Sub
    (AV.cons (1 : Nat) (AV.sc (Value.int IntKind.i64 b1a))
    (AV.cons (1 : Nat) (AV.sc (Value.int IntKind.i64 b1ba))
    (AV.cons (1 : Nat) (AV.sc (Value.int IntKind.i64 (IntKind.i64.wrap (i - at_)))) AV.nil)))
    (AV.cons (1 : Nat) (AV.sc (Value.int IntKind.i64 b1a))
    (AV.cons (1 : Nat) (AV.sc (Value.int IntKind.i64 b1ba))
    (AV.cons (1 : Nat) (AV.sc (Value.int IntKind.i64 (IntKind.i64.wrap (i - at_)))) AV.nil))) ∧
    True) ∧
    True) ∧
    Sub
    (AV.cons (1 : Nat) (AV.sc (Value.int IntKind.i64 b1a))
    (AV.cons (1 : Nat) (AV.sc (Value.int IntKind.i64 b1ba))
    (AV.cons (1 : Nat) (AV.sc (Value.int IntKind.i64 (IntKind.i64.wrap (i - at_)))) AV.nil)))
    res ∧
    SubOut [] [] from
    ⟨trivial, ⟨trivial, ⟨trivial, ⟨trivial, ⟨⟨rfl, trivial⟩, ⟨⟨rfl, trivial⟩, ⟨⟨rfl, trivial⟩, ⟨⟨rfl, trivial⟩, ⟨⟨⟨⟨trivial, ⟨trivial, ⟨trivial, trivial⟩⟩⟩, ⟨Sub.refl _, trivial⟩⟩, trivial⟩, ((fun h9 => ⟨h9, trivial⟩) h)⟩⟩⟩⟩⟩⟩⟩⟩⟩)
theorem hf56 : Go.Proofs.Try.prog.funcs[56]? = some Go.Proofs.Try.f56 := by kernel_rfl
abbrev s56_e (da : Int) (dbaf : Nat → Int) (dbban : Nat) (dbbafn : Nat → Nat) (dbbaff : Nat → Nat → Int) (dbbban : Nat) (dbbbaf : Nat → Int) : List (Nat × AV) := [(0, (.cons 1 (.sc (.int .i64 da)) (.cons 256 (.ar 256 1 (fun i0 => (.sc (.int .u8 (dbaf i0))))) (.cons 1 (.vec true 1 dbban dbban (fun i0 => (.vec true 1 (dbbafn i0) (dbbafn i0) (fun i1 => (.sc (.int .i64 (dbbaff i0 i1))))))) (.cons 1 (.vec true 1 dbbban dbbban (fun i0 => (.sc (.int .i64 (dbbbaf i0))))) .nil)))))]
abbrev m56_e (da : Int) (dbaf : Nat → Int) (dbban : Nat) (dbbafn : Nat → Nat) (dbbaff : Nat → Nat → Int) (dbbban : Nat) (dbbbaf : Nat → Int) : List (Nat × Nat × AV) := []
def L56_e (da : Int) (dbaf : Nat → Int) (dbban : Nat) (dbbafn : Nat → Nat) (dbbaff : Nat → Nat → Int) (dbbban : Nat) (dbbbaf : Nat → Int) (res : AV) : Prop := Goes ⟨Go.Proofs.Try.prog, 56, [], res, []⟩ (place Go.Proofs.Try.f56 []) (s56_e da dbaf dbban dbbafn dbbaff dbbban dbbbaf) (m56_e da dbaf dbban dbbafn dbbaff dbbban dbbbaf)
theorem a56_e (da : Int) (dbaf : Nat → Int) (dbban : Nat) (dbbafn : Nat → Nat) (dbbaff : Nat → Nat → Int) (dbbban : Nat) (dbbbaf : Nat → Int) (res : AV) (h : (∀ slot, fact (look .undef (s56_e da dbaf dbban dbbafn dbbaff dbbban dbbbaf) slot)) → L56_e da dbaf dbban dbbafn dbbaff dbbban dbbbaf res) : L56_e da dbaf dbban dbbafn dbbaff dbbban dbbbaf res :=
  assumeRule 56 [] Go.Proofs.Try.f56 hf56 [] (s56_e da dbaf dbban dbbafn dbbaff dbbban dbbbaf) (m56_e da dbaf dbban dbbafn dbbaff dbbban dbbbaf) res [] _ (by kernel_rfl) h
abbrev s56_0 (k : Int) (m : Int) (b : Int) (b0a : Int) (b0baf : Nat → Int) (b0bban : Nat) (b0bbafn : Nat → Nat) (b0bbaff : Nat → Nat → Int) (b0bbban : Nat) (b0bbbaf : Nat → Int) : List (Nat × AV) := [(1, (.pt 1000 [] 0)), (3, (.sc (.int .i64 k))), (4, (.sc (.int .i64 m))), (5, (.sc (.int .i64 b)))]
abbrev m56_0 (k : Int) (m : Int) (b : Int) (b0a : Int) (b0baf : Nat → Int) (b0bban : Nat) (b0bbafn : Nat → Nat) (b0bbaff : Nat → Nat → Int) (b0bbban : Nat) (b0bbbaf : Nat → Int) : List (Nat × Nat × AV) := [(1000, 26, (.cons 1 (.sc (.int .i64 b0a)) (.cons 256 (.ar 256 1 (fun i0 => (.sc (.int .u8 (b0baf i0))))) (.cons 1 (.vec true 1 b0bban b0bban (fun i0 => (.vec true 1 (b0bbafn i0) (b0bbafn i0) (fun i1 => (.sc (.int .i64 (b0bbaff i0 i1))))))) (.cons 1 (.vec true 1 b0bbban b0bbban (fun i0 => (.sc (.int .i64 (b0bbbaf i0))))) .nil)))))]
def L56_0 (k : Int) (m : Int) (b : Int) (b0a : Int) (b0baf : Nat → Int) (b0bban : Nat) (b0bbafn : Nat → Nat) (b0bbaff : Nat → Nat → Int) (b0bbban : Nat) (b0bbbaf : Nat → Int) (res : AV) : Prop := Goes ⟨Go.Proofs.Try.prog, 56, [], res, []⟩ (place Go.Proofs.Try.f56 [1, 1, 1, 1, 1, 1, 0, 1, 0, 0]) (s56_0 k m b b0a b0baf b0bban b0bbafn b0bbaff b0bbban b0bbbaf) (m56_0 k m b b0a b0baf b0bban b0bbafn b0bbaff b0bbban b0bbbaf)
theorem a56_0 (k : Int) (m : Int) (b : Int) (b0a : Int) (b0baf : Nat → Int) (b0bban : Nat) (b0bbafn : Nat → Nat) (b0bbaff : Nat → Nat → Int) (b0bbban : Nat) (b0bbbaf : Nat → Int) (res : AV) (h : (∀ slot, fact (look .undef (s56_0 k m b b0a b0baf b0bban b0bbafn b0bbaff b0bbban b0bbbaf) slot)) → L56_0 k m b b0a b0baf b0bban b0bbafn b0bbaff b0bbban b0bbbaf res) : L56_0 k m b b0a b0baf b0bban b0bbafn b0bbaff b0bbban b0bbbaf res :=
  assumeRule 56 [] Go.Proofs.Try.f56 hf56 [1, 1, 1, 1, 1, 1, 0, 1, 0, 0] (s56_0 k m b b0a b0baf b0bban b0bbafn b0bbaff b0bbban b0bbbaf) (m56_0 k m b b0a b0baf b0bban b0bbafn b0bbaff b0bbban b0bbbaf) res [] _ (by kernel_rfl) h
abbrev s56_1 (k : Int) (m : Int) (i : Int) (b0a : Int) (b0baf : Nat → Int) (b0bban : Nat) (b0bbafn : Nat → Nat) (b0bbaff : Nat → Nat → Int) (b0bbban : Nat) (b0bbbaf : Nat → Int) : List (Nat × AV) := [(1, (.pt 1000 [] 0)), (3, (.sc (.int .i64 k))), (4, (.sc (.int .i64 m))), (6, (.sc (.int .i64 i)))]
abbrev m56_1 (k : Int) (m : Int) (i : Int) (b0a : Int) (b0baf : Nat → Int) (b0bban : Nat) (b0bbafn : Nat → Nat) (b0bbaff : Nat → Nat → Int) (b0bbban : Nat) (b0bbbaf : Nat → Int) : List (Nat × Nat × AV) := [(1000, 26, (.cons 1 (.sc (.int .i64 b0a)) (.cons 256 (.ar 256 1 (fun i0 => (.sc (.int .u8 (b0baf i0))))) (.cons 1 (.vec true 1 b0bban b0bban (fun i0 => (.vec true 1 (b0bbafn i0) (b0bbafn i0) (fun i1 => (.sc (.int .i64 (b0bbaff i0 i1))))))) (.cons 1 (.vec true 1 b0bbban b0bbban (fun i0 => (.sc (.int .i64 (b0bbbaf i0))))) .nil)))))]
def L56_1 (k : Int) (m : Int) (i : Int) (b0a : Int) (b0baf : Nat → Int) (b0bban : Nat) (b0bbafn : Nat → Nat) (b0bbaff : Nat → Nat → Int) (b0bbban : Nat) (b0bbbaf : Nat → Int) (res : AV) : Prop := Goes ⟨Go.Proofs.Try.prog, 56, [], res, []⟩ (place Go.Proofs.Try.f56 [1, 1, 1, 1, 1, 1, 1, 0, 1, 0, 0]) (s56_1 k m i b0a b0baf b0bban b0bbafn b0bbaff b0bbban b0bbbaf) (m56_1 k m i b0a b0baf b0bban b0bbafn b0bbaff b0bbban b0bbbaf)
theorem a56_1 (k : Int) (m : Int) (i : Int) (b0a : Int) (b0baf : Nat → Int) (b0bban : Nat) (b0bbafn : Nat → Nat) (b0bbaff : Nat → Nat → Int) (b0bbban : Nat) (b0bbbaf : Nat → Int) (res : AV) (h : (∀ slot, fact (look .undef (s56_1 k m i b0a b0baf b0bban b0bbafn b0bbaff b0bbban b0bbbaf) slot)) → L56_1 k m i b0a b0baf b0bban b0bbafn b0bbaff b0bbban b0bbbaf res) : L56_1 k m i b0a b0baf b0bban b0bbafn b0bbaff b0bbban b0bbbaf res :=
  assumeRule 56 [] Go.Proofs.Try.f56 hf56 [1, 1, 1, 1, 1, 1, 1, 0, 1, 0, 0] (s56_1 k m i b0a b0baf b0bban b0bbafn b0bbaff b0bbban b0bbbaf) (m56_1 k m i b0a b0baf b0bban b0bbafn b0bbaff b0bbban b0bbbaf) res [] _ (by kernel_rfl) h
abbrev s56_2 (k : Int) (m : Int) (i : Int) (c : Int) (b0a : Int) (b0baf : Nat → Int) (b0bban : Nat) (b0bbafn : Nat → Nat) (b0bbaff : Nat → Nat → Int) (b0bbban : Nat) (b0bbbaf : Nat → Int) : List (Nat × AV) := [(1, (.pt 1000 [] 0)), (3, (.sc (.int .i64 k))), (4, (.sc (.int .i64 m))), (6, (.sc (.int .i64 i))), (7, (.sc (.int .i64 c)))]
abbrev m56_2 (k : Int) (m : Int) (i : Int) (c : Int) (b0a : Int) (b0baf : Nat → Int) (b0bban : Nat) (b0bbafn : Nat → Nat) (b0bbaff : Nat → Nat → Int) (b0bbban : Nat) (b0bbbaf : Nat → Int) : List (Nat × Nat × AV) := [(1000, 26, (.cons 1 (.sc (.int .i64 b0a)) (.cons 256 (.ar 256 1 (fun i0 => (.sc (.int .u8 (b0baf i0))))) (.cons 1 (.vec true 1 b0bban b0bban (fun i0 => (.vec true 1 (b0bbafn i0) (b0bbafn i0) (fun i1 => (.sc (.int .i64 (b0bbaff i0 i1))))))) (.cons 1 (.vec true 1 b0bbban b0bbban (fun i0 => (.sc (.int .i64 (b0bbbaf i0))))) .nil)))))]
def L56_2 (k : Int) (m : Int) (i : Int) (c : Int) (b0a : Int) (b0baf : Nat → Int) (b0bban : Nat) (b0bbafn : Nat → Nat) (b0bbaff : Nat → Nat → Int) (b0bbban : Nat) (b0bbbaf : Nat → Int) (res : AV) : Prop := Goes ⟨Go.Proofs.Try.prog, 56, [], res, []⟩ (place Go.Proofs.Try.f56 [1, 1, 1, 1, 1, 1, 1, 0, 1, 0, 0, 1, 0, 0, 1, 1, 0, 0]) (s56_2 k m i c b0a b0baf b0bban b0bbafn b0bbaff b0bbban b0bbbaf) (m56_2 k m i c b0a b0baf b0bban b0bbafn b0bbaff b0bbban b0bbbaf)
theorem a56_2 (k : Int) (m : Int) (i : Int) (c : Int) (b0a : Int) (b0baf : Nat → Int) (b0bban : Nat) (b0bbafn : Nat → Nat) (b0bbaff : Nat → Nat → Int) (b0bbban : Nat) (b0bbbaf : Nat → Int) (res : AV) (h : (∀ slot, fact (look .undef (s56_2 k m i c b0a b0baf b0bban b0bbafn b0bbaff b0bbban b0bbbaf) slot)) → L56_2 k m i c b0a b0baf b0bban b0bbafn b0bbaff b0bbban b0bbbaf res) : L56_2 k m i c b0a b0baf b0bban b0bbafn b0bbaff b0bbban b0bbbaf res :=
  assumeRule 56 [] Go.Proofs.Try.f56 hf56 [1, 1, 1, 1, 1, 1, 1, 0, 1, 0, 0, 1, 0, 0, 1, 1, 0, 0] (s56_2 k m i c b0a b0baf b0bban b0bbafn b0bbaff b0bbban b0bbbaf) (m56_2 k m i c b0a b0baf b0bban b0bbafn b0bbaff b0bbban b0bbbaf) res [] _ (by kernel_rfl) h
theorem o56 (da : Int) (dbaf : Nat → Int) (dbban : Nat) (dbbafn : Nat → Nat) (dbbaff : Nat → Nat → Int) (dbbban : Nat) (dbbbaf : Nat → Int) (res : AV) (hnew : newOnly res) (h : L56_e da dbaf dbban dbbafn dbbaff dbbban dbbbaf res) : Ok Go.Proofs.Try.prog 56 [(.cons 1 (.sc (.int .i64 da)) (.cons 256 (.ar 256 1 (fun i0 => (.sc (.int .u8 (dbaf i0))))) (.cons 1 (.vec true 1 dbban dbban (fun i0 => (.vec true 1 (dbbafn i0) (dbbafn i0) (fun i1 => (.sc (.int .i64 (dbbaff i0 i1))))))) (.cons 1 (.vec true 1 dbbban dbbban (fun i0 => (.sc (.int .i64 (dbbbaf i0))))) .nil))))] [] res [] :=
  okRule2 56 Go.Proofs.Try.f56 hf56 [(.cons 1 (.sc (.int .i64 da)) (.cons 256 (.ar 256 1 (fun i0 => (.sc (.int .u8 (dbaf i0))))) (.cons 1 (.vec true 1 dbban dbban (fun i0 => (.vec true 1 (dbbafn i0) (dbbafn i0) (fun i1 => (.sc (.int .i64 (dbbaff i0 i1))))))) (.cons 1 (.vec true 1 dbbban dbbban (fun i0 => (.sc (.int .i64 (dbbbaf i0))))) .nil))))] [] res [] [] rfl (by kernel_rfl) (by kernel_rfl) (by kernel_rfl) ⟨hnew, by simp⟩ (L56_e da dbaf dbban dbbafn dbbaff dbbban dbbbaf res) (by kernel_rfl) h
theorem r56_e (da : Int) (dbaf : Nat → Int) (dbban : Nat) (dbbafn : Nat → Nat) (dbbaff : Nat → Nat → Int) (dbbban : Nat) (dbbbaf : Nat → Int) (res : AV)
    (h : (decide ((↑dbban : Int) > (2048 : Int)) = false →
    (decide ((↑dbbban : Int) > (2048 : Int)) = true → Sub (AV.sc (Value.int IntKind.i64 (3 : Int))) res) ∧
    (decide ((↑dbbban : Int) > (2048 : Int)) = false →
    (decide ((↑dbban : Int) < (1 : Int)) = false →
    (((↑dbbban : Int) != (↑dbban : Int)) = false →
    (decide (da < (0 : Int)) = false →
    (decide (da ≥ (↑dbban : Int)) = true → Sub (AV.sc (Value.int IntKind.i64 (2 : Int))) res) ∧
    (decide (da ≥ (↑dbban : Int)) = false →
    ((0 : Int) ≤ (0 : Int) ∧ (0 : Int) < (↑dbban : Int)) ∧
    (decide ((↑(dbbafn (Int.toNat (0 : Int))) : Int) < (1 : Int)) = false →
    (decide ((↑(dbbafn (Int.toNat (0 : Int))) : Int) > (256 : Int)) = true → Sub (AV.sc (Value.int IntKind.i64 (2 : Int))) res) ∧
    (decide ((↑(dbbafn (Int.toNat (0 : Int))) : Int) > (256 : Int)) = false →
    L56_0 (↑dbban : Int) (↑(dbbafn (Int.toNat (0 : Int))) : Int) (0 : Int) da dbaf dbban dbbafn dbbaff dbbban dbbbaf res)) ∧
    (decide ((↑(dbbafn (Int.toNat (0 : Int))) : Int) < (1 : Int)) = !false → Sub (AV.sc (Value.int IntKind.i64 (2 : Int))) res))) ∧
    (decide (da < (0 : Int)) = !false → Sub (AV.sc (Value.int IntKind.i64 (2 : Int))) res)) ∧
    (((↑dbbban : Int) != (↑dbban : Int)) = !false → Sub (AV.sc (Value.int IntKind.i64 (2 : Int))) res)) ∧
    (decide ((↑dbban : Int) < (1 : Int)) = !false → Sub (AV.sc (Value.int IntKind.i64 (2 : Int))) res))) ∧
  (decide ((↑dbban : Int) > (2048 : Int)) = !false → Sub (AV.sc (Value.int IntKind.i64 (3 : Int))) res)) :
    L56_e da dbaf dbban dbbafn dbbaff dbbban dbbbaf res :=
  rule Go.Am.Seat.tabOk 56 [] Go.Proofs.Try.f56 hf56 [] (s56_e da dbaf dbban dbbafn dbbaff dbbban dbbbaf) (m56_e da dbaf dbban dbbafn dbbaff dbbban dbbbaf) res [] 400
    (((Orc.fin (AV.sc (Value.int IntKind.i64 (3 : Int))) [] []).br
    (((((Orc.fin (AV.sc (Value.int IntKind.i64 (2 : Int))) [] []).br
    (((Orc.fin (AV.sc (Value.int IntKind.i64 (2 : Int))) [] []).br
    (Orc.cut (nat_lit 6)
    (s56_0 (↑dbban : Int) (↑(dbbafn (Int.toNat (0 : Int))) : Int) (0 : Int) da dbaf dbban dbbafn dbbaff dbbban
    dbbbaf)
    (m56_0 (↑dbban : Int) (↑(dbbafn (Int.toNat (0 : Int))) : Int) (0 : Int) da dbaf dbban dbbafn dbbaff dbbban
    dbbbaf)
    [((1000 : Nat), some (1 : Nat))])).yes.br
    (Orc.fin (AV.sc (Value.int IntKind.i64 (2 : Int))) [] []).yes.no)).yes.yes.yes.br
    (Orc.fin (AV.sc (Value.int IntKind.i64 (2 : Int))) [] []).yes.no.no.no).yes.yes.br
    (Orc.fin (AV.sc (Value.int IntKind.i64 (2 : Int))) [] []).yes.no.no.no.no.no.no).yes.yes.yes.yes.br
    (Orc.fin (AV.sc (Value.int IntKind.i64 (2 : Int))) [] []).yes.no.no.no.no.no.no.no.no.no.no.no)).yes.yes.yes.br
  (Orc.fin (AV.sc (Value.int IntKind.i64 (3 : Int))) [] []).yes.no.no.no) _ _ (by kernel_rfl) (by kernel_rfl) (show True ∧
  True ∧
    True ∧
    ((1 : Nat) + ((256 : Nat) + (0 : Nat)) = plus (0 : Nat) (257 : Nat) ∧ True) ∧
    True ∧
    True ∧
    True ∧
    (decide ((↑dbban : Int) > (2048 : Int)) = false →
    True ∧
    false = false ∧
    ((1 : Nat) + ((256 : Nat) + ((1 : Nat) + (0 : Nat))) = plus (0 : Nat) (258 : Nat) ∧ True) ∧
    false = false ∧
    True ∧
    false = false ∧
    True ∧
    True ∧
    (decide ((↑dbbban : Int) > (2048 : Int)) = true →
    True ∧
    True ∧
    ((True ∧ Sub (AV.sc (Value.int IntKind.i64 (3 : Int))) (AV.sc (Value.int IntKind.i64 (3 : Int))) ∧ True) ∧ True) ∧
    Sub (AV.sc (Value.int IntKind.i64 (3 : Int))) res ∧ SubOut [] []) ∧
    (decide ((↑dbbban : Int) > (2048 : Int)) = false →
    True ∧
    ((1 : Nat) + ((256 : Nat) + (0 : Nat)) = plus (0 : Nat) (257 : Nat) ∧ True) ∧
    True ∧
    True ∧
    True ∧
    True ∧
    True ∧
    (decide ((↑dbban : Int) < (1 : Int)) = false →
    True ∧
    false = false ∧
    ((1 : Nat) + ((256 : Nat) + ((1 : Nat) + (0 : Nat))) = plus (0 : Nat) (258 : Nat) ∧ True) ∧
    false = false ∧
    True ∧
    false = false ∧
    True ∧
    false = false ∧
    True ∧
    True ∧
    True ∧
    (((↑dbbban : Int) != (↑dbban : Int)) = false →
    True ∧
    false = false ∧
    ((0 : Nat) = plus (0 : Nat) (0 : Nat) ∧ True) ∧
    false = false ∧
    True ∧
    True ∧
    True ∧
    (decide (da < (0 : Int)) = false →
    True ∧
    false = false ∧
    ((0 : Nat) = plus (0 : Nat) (0 : Nat) ∧ True) ∧
    false = false ∧
    True ∧
    false = false ∧
    True ∧
    True ∧
    (decide (da ≥ (↑dbban : Int)) = true →
    True ∧
    True ∧
    ((True ∧
    Sub
    (AV.sc
    (Value.int IntKind.i64
    (2 : Int)))
    (AV.sc
    (Value.int IntKind.i64
    (2 : Int))) ∧
    True) ∧
    True) ∧
    Sub
    (AV.sc
    (Value.int IntKind.i64
    (2 : Int)))
    res ∧
    SubOut [] []) ∧
    (decide (da ≥ (↑dbban : Int)) = false →
    True ∧
    ((1 : Nat) +
    ((256 : Nat) + (0 : Nat)) =
    plus (0 : Nat) (257 : Nat) ∧
    True) ∧
    ((0 : Int) ≤ (0 : Int) ∧
    (0 : Int) < (↑dbban : Int)) ∧
    True ∧
    True ∧
    True ∧
    True ∧
    True ∧
    True ∧
    (decide
    ((↑(dbbafn
    (Int.toNat
    (0 :
    Int))) :
    Int) <
    (1 : Int)) =
    false →
    True ∧
    false = false ∧
    True ∧
    True ∧
    (decide
    ((↑(dbbafn
    (Int.toNat
    (0 :
    Int))) :
    Int) >
    (256 :
    Int)) =
    true →
    True ∧
    True ∧
    ((True ∧
    Sub
    (AV.sc
    (Value.int
    IntKind.i64
    (2 :
    Int)))
    (AV.sc
    (Value.int
    IntKind.i64
    (2 :
    Int))) ∧
    True) ∧
    True) ∧
    Sub
    (AV.sc
    (Value.int
    IntKind.i64
    (2 :
    Int)))
    res ∧
    SubOut
    []
    []) ∧
    (decide
    ((↑(dbbafn
    (Int.toNat
    (0 :
    Int))) :
    Int) >
    (256 :
    Int)) =
    false →
    True ∧
    ((True ∧
    Sub
    (AV.pt
    (1000 :
    Nat)
    []
    (0 :
    Nat))
    (AV.pt
    (1000 :
    Nat)
    []
    (0 :
    Nat)) ∧
    True ∧
    Sub
    (AV.sc
    (Value.int
    IntKind.i64
    (↑dbban :
    Int)))
    (AV.sc
    (Value.int
    IntKind.i64
    (↑dbban :
    Int))) ∧
    True ∧
    Sub
    (AV.sc
    (Value.int
    IntKind.i64
    (↑(dbbafn
    (Int.toNat
    (0 :
    Int))) :
    Int)))
    (AV.sc
    (Value.int
    IntKind.i64
    (↑(dbbafn
    (Int.toNat
    (0 :
    Int))) :
    Int))) ∧
    True ∧
    Sub
    (AV.sc
    (Value.int
    IntKind.i64
    (0 :
    Int)))
    (AV.sc
    (Value.int
    IntKind.i64
    (0 :
    Int))) ∧
    True) ∧
    (True ∧
    True ∧
    True ∧
    True ∧
    True) ∧
    SubB
    (AV.cons
    (1 :
    Nat)
    (AV.sc
    (Value.int
    IntKind.i64
    da))
    (AV.cons
    (256 :
    Nat)
    (AV.ar
    (256 :
    Nat)
    (1 :
    Nat)
    fun
    (i0 :
    Nat) =>
    AV.sc
    (Value.int
    IntKind.u8
    (dbaf
    i0)))
    (AV.cons
    (1 :
    Nat)
    (AV.vec
    true
    (1 :
    Nat)
    dbban
    dbban
    fun
    (i0 :
    Nat) =>
    AV.vec
    true
    (1 :
    Nat)
    (dbbafn
    i0)
    (dbbafn
    i0)
    fun
    (i1 :
    Nat) =>
    AV.sc
    (Value.int
    IntKind.i64
    (dbbaff
    i0
    i1)))
    (AV.cons
    (1 :
    Nat)
    (AV.vec
    true
    (1 :
    Nat)
    dbbban
    dbbban
    fun
    (i0 :
    Nat) =>
    AV.sc
    (Value.int
    IntKind.i64
    (dbbbaf
    i0)))
    AV.nil))))
    (AV.cons
    (1 :
    Nat)
    (AV.sc
    (Value.int
    IntKind.i64
    da))
    (AV.cons
    (256 :
    Nat)
    (AV.ar
    (256 :
    Nat)
    (1 :
    Nat)
    fun
    (i0 :
    Nat) =>
    AV.sc
    (Value.int
    IntKind.u8
    (dbaf
    i0)))
    (AV.cons
    (1 :
    Nat)
    (AV.vec
    true
    (1 :
    Nat)
    dbban
    dbban
    fun
    (i0 :
    Nat) =>
    AV.vec
    true
    (1 :
    Nat)
    (dbbafn
    i0)
    (dbbafn
    i0)
    fun
    (i1 :
    Nat) =>
    AV.sc
    (Value.int
    IntKind.i64
    (dbbaff
    i0
    i1)))
    (AV.cons
    (1 :
    Nat)
    (AV.vec
    true
    (1 :
    Nat)
    dbbban
    dbbban
    fun
    (i0 :
    Nat) =>
    AV.sc
    (Value.int
    IntKind.i64
    (dbbbaf
    i0)))
    AV.nil)))) ∧
    True) ∧
    L56_0
    (↑dbban :
    Int)
    (↑(dbbafn
    (Int.toNat
    (0 :
    Int))) :
    Int)
    (0 :
    Int)
    da
    dbaf
    dbban
    dbbafn
    dbbaff
    dbbban
    dbbbaf
    res)) ∧
    (decide
    ((↑(dbbafn
    (Int.toNat
    (0 :
    Int))) :
    Int) <
    (1 : Int)) =
    !false →
    true = true ∧
    (!false) =
    !false ∧
    true = true ∧
    True ∧
    true =
    true ∧
    True ∧
    True ∧
    ((True ∧
    Sub
    (AV.sc
    (Value.int
    IntKind.i64
    (2 :
    Int)))
    (AV.sc
    (Value.int
    IntKind.i64
    (2 :
    Int))) ∧
    True) ∧
    True) ∧
    Sub
    (AV.sc
    (Value.int
    IntKind.i64
    (2 :
    Int)))
    res ∧
    SubOut
    []
    []))) ∧
    (decide (da < (0 : Int)) = !false →
    true = true ∧
    (!false) = !false ∧
    true = true ∧
    (!false) = !false ∧
    true = true ∧
    (!false) = !false ∧
    true = true ∧
    True ∧
    true = true ∧
    True ∧
    True ∧
    ((True ∧
    Sub
    (AV.sc
    (Value.int IntKind.i64
    (2 : Int)))
    (AV.sc
    (Value.int IntKind.i64
    (2 : Int))) ∧
    True) ∧
    True) ∧
    Sub
    (AV.sc
    (Value.int IntKind.i64
    (2 : Int)))
    res ∧
    SubOut [] [])) ∧
    (((↑dbbban : Int) != (↑dbban : Int)) = !false →
    true = true ∧
    (!false) = !false ∧
    true = true ∧
    (!false) = !false ∧
    true = true ∧
    True ∧
    True ∧
    true = !false ∧
    true = true ∧
    (!false) = !false ∧
    true = true ∧
    (!false) = !false ∧
    true = true ∧
    (!false) = !false ∧
    true = true ∧
    True ∧
    true = true ∧
    True ∧
    True ∧
    ((True ∧
    Sub
    (AV.sc
    (Value.int IntKind.i64
    (2 : Int)))
    (AV.sc
    (Value.int IntKind.i64
    (2 : Int))) ∧
    True) ∧
    True) ∧
    Sub
    (AV.sc
    (Value.int IntKind.i64
    (2 : Int)))
    res ∧
    SubOut [] [])) ∧
    (decide ((↑dbban : Int) < (1 : Int)) = !false →
    true = true ∧
    (!false) = !false ∧
    true = true ∧
    (!false) = !false ∧
    true = true ∧
    (!false) = !false ∧
    true = true ∧
    (!false) = !false ∧
    true = true ∧
    True ∧
    True ∧
    true = !false ∧
    true = true ∧
    (!false) = !false ∧
    true = true ∧
    (!false) = !false ∧
    true = true ∧
    True ∧
    True ∧
    true = !false ∧
    true = true ∧
    (!false) = !false ∧
    true = true ∧
    (!false) = !false ∧
    true = true ∧
    (!false) = !false ∧
    true = true ∧
    True ∧
    true = true ∧
    True ∧
    True ∧
    ((True ∧
    Sub
    (AV.sc
    (Value.int IntKind.i64
    (2 : Int)))
    (AV.sc
    (Value.int IntKind.i64
    (2 : Int))) ∧
    True) ∧
    True) ∧
    Sub
    (AV.sc
    (Value.int IntKind.i64 (2 : Int)))
    res ∧
    SubOut [] []))) ∧
    (decide ((↑dbban : Int) > (2048 : Int)) = !false →
    true = true ∧
    (!false) = !false ∧
    true = true ∧
    (!false) = !false ∧
    true = true ∧
    (!false) = !false ∧
    true = true ∧
    True ∧
    true = true ∧
    True ∧
    True ∧
    ((True ∧ Sub (AV.sc (Value.int IntKind.i64 (3 : Int))) (AV.sc (Value.int IntKind.i64 (3 : Int))) ∧ True) ∧ True) ∧
    Sub (AV.sc (Value.int IntKind.i64 (3 : Int))) res ∧ SubOut [] []) from
    ⟨trivial, ⟨trivial, ⟨trivial, ⟨⟨rfl, trivial⟩, ⟨trivial, ⟨trivial, ⟨trivial, (And.elim (fun h7 k7 => ⟨(fun x8 => (fun h8 => ⟨trivial, ⟨rfl, ⟨⟨rfl, trivial⟩, ⟨rfl, ⟨trivial, ⟨rfl, ⟨trivial, ⟨trivial, (And.elim (fun h17 k17 => ⟨(fun x18 => (fun h18 => ⟨trivial, ⟨trivial, ⟨⟨⟨trivial, ⟨Sub.refl _, trivial⟩⟩, trivial⟩, ((fun h22 => ⟨h22, trivial⟩) h18)⟩⟩⟩) (h17 x18)), (fun x18 => (fun h18 => ⟨trivial, ⟨⟨rfl, trivial⟩, ⟨trivial, ⟨trivial, ⟨trivial, ⟨trivial, ⟨trivial, (And.elim (fun h26 k26 => ⟨(fun x27 => (fun h27 => ⟨trivial, ⟨rfl, ⟨⟨rfl, trivial⟩, ⟨rfl, ⟨trivial, ⟨rfl, ⟨trivial, ⟨rfl, ⟨trivial, ⟨trivial, ⟨trivial, (And.elim (fun h39 k39 => ⟨(fun x40 => (fun h40 => ⟨trivial, ⟨rfl, ⟨⟨rfl, trivial⟩, ⟨rfl, ⟨trivial, ⟨trivial, ⟨trivial, (And.elim (fun h48 k48 => ⟨(fun x49 => (fun h49 => ⟨trivial, ⟨rfl, ⟨⟨rfl, trivial⟩, ⟨rfl, ⟨trivial, ⟨rfl, ⟨trivial, ⟨trivial, (And.elim (fun h58 k58 => ⟨(fun x59 => (fun h59 => ⟨trivial, ⟨trivial, ⟨⟨⟨trivial, ⟨Sub.refl _, trivial⟩⟩, trivial⟩, ((fun h63 => ⟨h63, trivial⟩) h59)⟩⟩⟩) (h58 x59)), (fun x59 => (fun h59 => ⟨trivial, ⟨⟨rfl, trivial⟩, (And.elim (fun h62 k62 => ⟨(And.elim (fun h63 k63 => ⟨h63, k63⟩) h62), ⟨trivial, ⟨trivial, ⟨trivial, ⟨trivial, ⟨trivial, ⟨trivial, (And.elim (fun h69 k69 => ⟨(fun x70 => (fun h70 => ⟨trivial, ⟨rfl, ⟨trivial, ⟨trivial, (And.elim (fun h75 k75 => ⟨(fun x76 => (fun h76 => ⟨trivial, ⟨trivial, ⟨⟨⟨trivial, ⟨Sub.refl _, trivial⟩⟩, trivial⟩, ((fun h80 => ⟨h80, trivial⟩) h76)⟩⟩⟩) (h75 x76)), (fun x76 => (fun h76 => ⟨trivial, ⟨⟨⟨trivial, ⟨Sub.refl _, ⟨trivial, ⟨Sub.refl _, ⟨trivial, ⟨Sub.refl _, ⟨trivial, ⟨Sub.refl _, trivial⟩⟩⟩⟩⟩⟩⟩⟩, ⟨⟨trivial, ⟨trivial, ⟨trivial, ⟨trivial, trivial⟩⟩⟩⟩, ⟨SubB.refl _, trivial⟩⟩⟩, h76⟩⟩) (k75 x76))⟩) h70)⟩⟩⟩⟩) (h69 x70)), (fun x70 => (fun h70 => ⟨rfl, ⟨rfl, ⟨rfl, ⟨trivial, ⟨rfl, ⟨trivial, ⟨trivial, ⟨⟨⟨trivial, ⟨Sub.refl _, trivial⟩⟩, trivial⟩, ((fun h79 => ⟨h79, trivial⟩) h70)⟩⟩⟩⟩⟩⟩⟩⟩) (k69 x70))⟩) k62)⟩⟩⟩⟩⟩⟩⟩) h59)⟩⟩) (k58 x59))⟩) h49)⟩⟩⟩⟩⟩⟩⟩⟩) (h48 x49)), (fun x49 => (fun h49 => ⟨rfl, ⟨rfl, ⟨rfl, ⟨rfl, ⟨rfl, ⟨rfl, ⟨rfl, ⟨trivial, ⟨rfl, ⟨trivial, ⟨trivial, ⟨⟨⟨trivial, ⟨Sub.refl _, trivial⟩⟩, trivial⟩, ((fun h62 => ⟨h62, trivial⟩) h49)⟩⟩⟩⟩⟩⟩⟩⟩⟩⟩⟩⟩) (k48 x49))⟩) h40)⟩⟩⟩⟩⟩⟩⟩) (h39 x40)), (fun x40 => (fun h40 => ⟨rfl, ⟨rfl, ⟨rfl, ⟨rfl, ⟨rfl, ⟨trivial, ⟨trivial, ⟨rfl, ⟨rfl, ⟨rfl, ⟨rfl, ⟨rfl, ⟨rfl, ⟨rfl, ⟨rfl, ⟨trivial, ⟨rfl, ⟨trivial, ⟨trivial, ⟨⟨⟨trivial, ⟨Sub.refl _, trivial⟩⟩, trivial⟩, ((fun h61 => ⟨h61, trivial⟩) h40)⟩⟩⟩⟩⟩⟩⟩⟩⟩⟩⟩⟩⟩⟩⟩⟩⟩⟩⟩⟩) (k39 x40))⟩) h27)⟩⟩⟩⟩⟩⟩⟩⟩⟩⟩⟩) (h26 x27)), (fun x27 => (fun h27 => ⟨rfl, ⟨rfl, ⟨rfl, ⟨rfl, ⟨rfl, ⟨rfl, ⟨rfl, ⟨rfl, ⟨rfl, ⟨trivial, ⟨trivial, ⟨rfl, ⟨rfl, ⟨rfl, ⟨rfl, ⟨rfl, ⟨rfl, ⟨trivial, ⟨trivial, ⟨rfl, ⟨rfl, ⟨rfl, ⟨rfl, ⟨rfl, ⟨rfl, ⟨rfl, ⟨rfl, ⟨trivial, ⟨rfl, ⟨trivial, ⟨trivial, ⟨⟨⟨trivial, ⟨Sub.refl _, trivial⟩⟩, trivial⟩, ((fun h60 => ⟨h60, trivial⟩) h27)⟩⟩⟩⟩⟩⟩⟩⟩⟩⟩⟩⟩⟩⟩⟩⟩⟩⟩⟩⟩⟩⟩⟩⟩⟩⟩⟩⟩⟩⟩⟩⟩) (k26 x27))⟩) h18)⟩⟩⟩⟩⟩⟩⟩) (k17 x18))⟩) h8)⟩⟩⟩⟩⟩⟩⟩⟩) (h7 x8)), (fun x8 => (fun h8 => ⟨rfl, ⟨rfl, ⟨rfl, ⟨rfl, ⟨rfl, ⟨rfl, ⟨rfl, ⟨trivial, ⟨rfl, ⟨trivial, ⟨trivial, ⟨⟨⟨trivial, ⟨Sub.refl _, trivial⟩⟩, trivial⟩, ((fun h21 => ⟨h21, trivial⟩) h8)⟩⟩⟩⟩⟩⟩⟩⟩⟩⟩⟩⟩) (k7 x8))⟩) h)⟩⟩⟩⟩⟩⟩⟩)
theorem r56_0 (k : Int) (m : Int) (b : Int) (b0a : Int) (b0baf : Nat → Int) (b0bban : Nat) (b0bbafn : Nat → Nat) (b0bbaff : Nat → Nat → Int) (b0bbban : Nat) (b0bbbaf : Nat → Int) (res : AV)
    (h : (decide (b < (256 : Int)) = true →
    ((0 : Int) ≤ b ∧ b < (↑(256 : Nat) : Int)) ∧
    b.toNat < (256 : Nat) ∧
    (decide (IntKind.i64.wrap (b0baf b.toNat) ≥ m) = true → Sub (AV.sc (Value.int IntKind.i64 (2 : Int))) res) ∧
    (decide (IntKind.i64.wrap (b0baf b.toNat) ≥ m) = false →
    L56_0 k m (IntKind.i64.wrap (b + (1 : Int))) b0a b0baf b0bban b0bbafn b0bbaff b0bbban b0bbbaf res)) ∧
  (decide (b < (256 : Int)) = false → L56_1 k m (0 : Int) b0a b0baf b0bban b0bbafn b0bbaff b0bbban b0bbbaf res)) :
    L56_0 k m b b0a b0baf b0bban b0bbafn b0bbaff b0bbban b0bbbaf res :=
  rule Go.Am.Seat.tabOk 56 [] Go.Proofs.Try.f56 hf56 [1, 1, 1, 1, 1, 1, 0, 1, 0, 0] (s56_0 k m b b0a b0baf b0bban b0bbafn b0bbaff b0bbban b0bbbaf) (m56_0 k m b b0a b0baf b0bban b0bbafn b0bbaff b0bbban b0bbbaf) res [] 400
    (((Orc.fin (AV.sc (Value.int IntKind.i64 (2 : Int))) [] []).br
    (Orc.cut (nat_lit 4) (s56_0 k m (IntKind.i64.wrap (b + (1 : Int))) b0a b0baf b0bban b0bbafn b0bbaff b0bbban b0bbbaf)
    (m56_0 k m (IntKind.i64.wrap (b + (1 : Int))) b0a b0baf b0bban b0bbafn b0bbaff b0bbban b0bbbaf) [((1000 : Nat), some (1000 : Nat))])).br
  (Orc.cut (nat_lit 6) (s56_1 k m (0 : Int) b0a b0baf b0bban b0bbafn b0bbaff b0bbban b0bbbaf)
    (m56_1 k m (0 : Int) b0a b0baf b0bban b0bbafn b0bbaff b0bbban b0bbbaf) [((1000 : Nat), some (1000 : Nat))])) _ _ (by kernel_rfl) (by kernel_rfl) (show True ∧
  True ∧
    (decide (b < (256 : Int)) = true →
    True ∧
    True ∧
    ((0 : Int) ≤ b ∧ b < (↑(256 : Nat) : Int)) ∧
    ((1 : Nat) + (b.toNat * (1 : Nat) + (0 : Nat)) = plus (plus (0 : Nat) (1 : Nat)) (b.toNat * (1 : Nat)) ∧ b.toNat < (256 : Nat) ∧ True) ∧
    True ∧
    True ∧
    True ∧
    (decide (IntKind.i64.wrap (b0baf b.toNat) ≥ m) = true →
    True ∧
    True ∧
    ((True ∧ Sub (AV.sc (Value.int IntKind.i64 (2 : Int))) (AV.sc (Value.int IntKind.i64 (2 : Int))) ∧ True) ∧ True) ∧
    Sub (AV.sc (Value.int IntKind.i64 (2 : Int))) res ∧ SubOut [] []) ∧
    (decide (IntKind.i64.wrap (b0baf b.toNat) ≥ m) = false →
    True ∧
    True ∧
    True ∧
    ((True ∧
    Sub (AV.pt (1000 : Nat) [] (0 : Nat)) (AV.pt (1000 : Nat) [] (0 : Nat)) ∧
    True ∧
    Sub (AV.sc (Value.int IntKind.i64 k)) (AV.sc (Value.int IntKind.i64 k)) ∧
    True ∧
    Sub (AV.sc (Value.int IntKind.i64 m)) (AV.sc (Value.int IntKind.i64 m)) ∧
    True ∧
    Sub (AV.sc (Value.int IntKind.i64 (IntKind.i64.wrap (b + (1 : Int)))))
    (AV.sc (Value.int IntKind.i64 (IntKind.i64.wrap (b + (1 : Int))))) ∧
    True) ∧
    (True ∧ True ∧ True ∧ True ∧ True) ∧
    SubB
    (AV.cons (1 : Nat) (AV.sc (Value.int IntKind.i64 b0a))
    (AV.cons (256 : Nat) (AV.ar (256 : Nat) (1 : Nat) fun (i0 : Nat) => AV.sc (Value.int IntKind.u8 (b0baf i0)))
    (AV.cons (1 : Nat)
    (AV.vec true (1 : Nat) b0bban b0bban fun (i0 : Nat) =>
    AV.vec true (1 : Nat) (b0bbafn i0) (b0bbafn i0) fun (i1 : Nat) =>
    AV.sc (Value.int IntKind.i64 (b0bbaff i0 i1)))
    (AV.cons (1 : Nat)
    (AV.vec true (1 : Nat) b0bbban b0bbban fun (i0 : Nat) => AV.sc (Value.int IntKind.i64 (b0bbbaf i0)))
    AV.nil))))
    (AV.cons (1 : Nat) (AV.sc (Value.int IntKind.i64 b0a))
    (AV.cons (256 : Nat) (AV.ar (256 : Nat) (1 : Nat) fun (i0 : Nat) => AV.sc (Value.int IntKind.u8 (b0baf i0)))
    (AV.cons (1 : Nat)
    (AV.vec true (1 : Nat) b0bban b0bban fun (i0 : Nat) =>
    AV.vec true (1 : Nat) (b0bbafn i0) (b0bbafn i0) fun (i1 : Nat) =>
    AV.sc (Value.int IntKind.i64 (b0bbaff i0 i1)))
    (AV.cons (1 : Nat)
    (AV.vec true (1 : Nat) b0bbban b0bbban fun (i0 : Nat) => AV.sc (Value.int IntKind.i64 (b0bbbaf i0)))
    AV.nil)))) ∧
    True) ∧
    L56_0 k m (IntKind.i64.wrap (b + (1 : Int))) b0a b0baf b0bban b0bbafn b0bbaff b0bbban b0bbbaf res)) ∧
    (decide (b < (256 : Int)) = false →
    True ∧
    ((True ∧
    Sub (AV.pt (1000 : Nat) [] (0 : Nat)) (AV.pt (1000 : Nat) [] (0 : Nat)) ∧
    True ∧
    Sub (AV.sc (Value.int IntKind.i64 k)) (AV.sc (Value.int IntKind.i64 k)) ∧
    True ∧
    Sub (AV.sc (Value.int IntKind.i64 m)) (AV.sc (Value.int IntKind.i64 m)) ∧
    True ∧ Sub (AV.sc (Value.int IntKind.i64 (0 : Int))) (AV.sc (Value.int IntKind.i64 (0 : Int))) ∧ True) ∧
    (True ∧ True ∧ True ∧ True ∧ True) ∧
    SubB
    (AV.cons (1 : Nat) (AV.sc (Value.int IntKind.i64 b0a))
    (AV.cons (256 : Nat) (AV.ar (256 : Nat) (1 : Nat) fun (i0 : Nat) => AV.sc (Value.int IntKind.u8 (b0baf i0)))
    (AV.cons (1 : Nat)
    (AV.vec true (1 : Nat) b0bban b0bban fun (i0 : Nat) =>
    AV.vec true (1 : Nat) (b0bbafn i0) (b0bbafn i0) fun (i1 : Nat) => AV.sc (Value.int IntKind.i64 (b0bbaff i0 i1)))
    (AV.cons (1 : Nat) (AV.vec true (1 : Nat) b0bbban b0bbban fun (i0 : Nat) => AV.sc (Value.int IntKind.i64 (b0bbbaf i0))) AV.nil))))
    (AV.cons (1 : Nat) (AV.sc (Value.int IntKind.i64 b0a))
    (AV.cons (256 : Nat) (AV.ar (256 : Nat) (1 : Nat) fun (i0 : Nat) => AV.sc (Value.int IntKind.u8 (b0baf i0)))
    (AV.cons (1 : Nat)
    (AV.vec true (1 : Nat) b0bban b0bban fun (i0 : Nat) =>
    AV.vec true (1 : Nat) (b0bbafn i0) (b0bbafn i0) fun (i1 : Nat) => AV.sc (Value.int IntKind.i64 (b0bbaff i0 i1)))
    (AV.cons (1 : Nat) (AV.vec true (1 : Nat) b0bbban b0bbban fun (i0 : Nat) => AV.sc (Value.int IntKind.i64 (b0bbbaf i0))) AV.nil)))) ∧
    True) ∧
    L56_1 k m (0 : Int) b0a b0baf b0bban b0bbafn b0bbaff b0bbban b0bbbaf res) from
    ⟨trivial, ⟨trivial, (And.elim (fun h2 k2 => ⟨(fun x3 => (fun h3 => ⟨trivial, ⟨trivial, (And.elim (fun h6 k6 => ⟨(And.elim (fun h7 k7 => ⟨h7, k7⟩) h6), (And.elim (fun h7 k7 => ⟨⟨rfl, ((fun h9 => ⟨h9, trivial⟩) h7)⟩, ⟨trivial, ⟨trivial, ⟨trivial, (And.elim (fun h11 k11 => ⟨(fun x12 => (fun h12 => ⟨trivial, ⟨trivial, ⟨⟨⟨trivial, ⟨Sub.refl _, trivial⟩⟩, trivial⟩, ((fun h16 => ⟨h16, trivial⟩) h12)⟩⟩⟩) (h11 x12)), (fun x12 => (fun h12 => ⟨trivial, ⟨trivial, ⟨trivial, ⟨⟨⟨trivial, ⟨Sub.refl _, ⟨trivial, ⟨Sub.refl _, ⟨trivial, ⟨Sub.refl _, ⟨trivial, ⟨Sub.refl _, trivial⟩⟩⟩⟩⟩⟩⟩⟩, ⟨⟨trivial, ⟨trivial, ⟨trivial, ⟨trivial, trivial⟩⟩⟩⟩, ⟨SubB.refl _, trivial⟩⟩⟩, h12⟩⟩⟩⟩) (k11 x12))⟩) k7)⟩⟩⟩⟩) k6)⟩) h3)⟩⟩) (h2 x3)), (fun x3 => (fun h3 => ⟨trivial, ⟨⟨⟨trivial, ⟨Sub.refl _, ⟨trivial, ⟨Sub.refl _, ⟨trivial, ⟨Sub.refl _, ⟨trivial, ⟨Sub.refl _, trivial⟩⟩⟩⟩⟩⟩⟩⟩, ⟨⟨trivial, ⟨trivial, ⟨trivial, ⟨trivial, trivial⟩⟩⟩⟩, ⟨SubB.refl _, trivial⟩⟩⟩, h3⟩⟩) (k2 x3))⟩) h)⟩⟩)
theorem r56_1 (k : Int) (m : Int) (i : Int) (b0a : Int) (b0baf : Nat → Int) (b0bban : Nat) (b0bbafn : Nat → Nat) (b0bbaff : Nat → Nat → Int) (b0bbban : Nat) (b0bbbaf : Nat → Int) (res : AV)
    (h : (decide (i < k) = true →
    ((0 : Int) ≤ i ∧ i < (↑b0bban : Int)) ∧
    (((↑(b0bbafn i.toNat) : Int) != m) = false →
    ((0 : Int) ≤ i ∧ i < (↑b0bbban : Int)) ∧
    (decide (b0bbbaf i.toNat ≥ (48 : Int)) = true → Sub (AV.sc (Value.int IntKind.i64 (2 : Int))) res) ∧
    (decide (b0bbbaf i.toNat ≥ (48 : Int)) = false → L56_2 k m i (0 : Int) b0a b0baf b0bban b0bbafn b0bbaff b0bbban b0bbbaf res)) ∧
    (((↑(b0bbafn i.toNat) : Int) != m) = !false → Sub (AV.sc (Value.int IntKind.i64 (2 : Int))) res)) ∧
  (decide (i < k) = false → Sub (AV.sc (Value.int IntKind.i64 (0 : Int))) res)) :
    L56_1 k m i b0a b0baf b0bban b0bbafn b0bbaff b0bbban b0bbbaf res :=
  rule Go.Am.Seat.tabOk 56 [] Go.Proofs.Try.f56 hf56 [1, 1, 1, 1, 1, 1, 1, 0, 1, 0, 0] (s56_1 k m i b0a b0baf b0bban b0bbafn b0bbaff b0bbban b0bbbaf) (m56_1 k m i b0a b0baf b0bban b0bbafn b0bbaff b0bbban b0bbbaf) res [] 400
    ((((Orc.fin (AV.sc (Value.int IntKind.i64 (2 : Int))) [] []).br
    (Orc.cut (nat_lit 5) (s56_2 k m i (0 : Int) b0a b0baf b0bban b0bbafn b0bbaff b0bbban b0bbbaf)
    (m56_2 k m i (0 : Int) b0a b0baf b0bban b0bbafn b0bbaff b0bbban b0bbbaf) [((1000 : Nat), some (1000 : Nat))])).yes.yes.yes.yes.yes.br
    (Orc.fin (AV.sc (Value.int IntKind.i64 (2 : Int))) [] []).yes.no.no.no.no.no).br
  (Orc.fin (AV.sc (Value.int IntKind.i64 (0 : Int))) [] [])) _ _ (by kernel_rfl) (by kernel_rfl) (show True ∧
  True ∧
    True ∧
    (decide (i < k) = true →
    True ∧
    ((1 : Nat) + ((256 : Nat) + (0 : Nat)) = plus (0 : Nat) (257 : Nat) ∧ True) ∧
    True ∧
    ((0 : Int) ≤ i ∧ i < (↑b0bban : Int)) ∧
    True ∧
    True ∧
    True ∧
    True ∧
    True ∧
    (((↑(b0bbafn i.toNat) : Int) != m) = false →
    True ∧
    false = false ∧
    ((1 : Nat) + ((256 : Nat) + ((1 : Nat) + (0 : Nat))) = plus (0 : Nat) (258 : Nat) ∧ True) ∧
    false = false ∧
    True ∧
    false = false ∧
    ((0 : Int) ≤ i ∧ i < (↑b0bbban : Int)) ∧
    false = false ∧
    True ∧
    false = false ∧
    True ∧
    True ∧
    (decide (b0bbbaf i.toNat ≥ (48 : Int)) = true →
    True ∧
    True ∧
    ((True ∧
    Sub (AV.sc (Value.int IntKind.i64 (2 : Int))) (AV.sc (Value.int IntKind.i64 (2 : Int))) ∧
    True) ∧
    True) ∧
    Sub (AV.sc (Value.int IntKind.i64 (2 : Int))) res ∧ SubOut [] []) ∧
    (decide (b0bbbaf i.toNat ≥ (48 : Int)) = false →
    True ∧
    ((True ∧
    Sub (AV.pt (1000 : Nat) [] (0 : Nat)) (AV.pt (1000 : Nat) [] (0 : Nat)) ∧
    True ∧
    Sub (AV.sc (Value.int IntKind.i64 k)) (AV.sc (Value.int IntKind.i64 k)) ∧
    True ∧
    Sub (AV.sc (Value.int IntKind.i64 m)) (AV.sc (Value.int IntKind.i64 m)) ∧
    True ∧
    Sub (AV.sc (Value.int IntKind.i64 i)) (AV.sc (Value.int IntKind.i64 i)) ∧
    True ∧
    Sub (AV.sc (Value.int IntKind.i64 (0 : Int)))
    (AV.sc (Value.int IntKind.i64 (0 : Int))) ∧
    True) ∧
    (True ∧ True ∧ True ∧ True ∧ True) ∧
    SubB
    (AV.cons (1 : Nat) (AV.sc (Value.int IntKind.i64 b0a))
    (AV.cons (256 : Nat)
    (AV.ar (256 : Nat) (1 : Nat) fun (i0 : Nat) =>
    AV.sc (Value.int IntKind.u8 (b0baf i0)))
    (AV.cons (1 : Nat)
    (AV.vec true (1 : Nat) b0bban b0bban fun (i0 : Nat) =>
    AV.vec true (1 : Nat) (b0bbafn i0) (b0bbafn i0) fun (i1 : Nat) =>
    AV.sc (Value.int IntKind.i64 (b0bbaff i0 i1)))
    (AV.cons (1 : Nat)
    (AV.vec true (1 : Nat) b0bbban b0bbban fun (i0 : Nat) =>
    AV.sc (Value.int IntKind.i64 (b0bbbaf i0)))
    AV.nil))))
    (AV.cons (1 : Nat) (AV.sc (Value.int IntKind.i64 b0a))
    (AV.cons (256 : Nat)
    (AV.ar (256 : Nat) (1 : Nat) fun (i0 : Nat) =>
    AV.sc (Value.int IntKind.u8 (b0baf i0)))
    (AV.cons (1 : Nat)
    (AV.vec true (1 : Nat) b0bban b0bban fun (i0 : Nat) =>
    AV.vec true (1 : Nat) (b0bbafn i0) (b0bbafn i0) fun (i1 : Nat) =>
    AV.sc (Value.int IntKind.i64 (b0bbaff i0 i1)))
    (AV.cons (1 : Nat)
    (AV.vec true (1 : Nat) b0bbban b0bbban fun (i0 : Nat) =>
    AV.sc (Value.int IntKind.i64 (b0bbbaf i0)))
    AV.nil)))) ∧
    True) ∧
    L56_2 k m i (0 : Int) b0a b0baf b0bban b0bbafn b0bbaff b0bbban b0bbbaf res)) ∧
    (((↑(b0bbafn i.toNat) : Int) != m) = !false →
    true = true ∧
    (!false) = !false ∧
    true = true ∧
    (!false) = !false ∧
    true = true ∧
    (!false) = !false ∧
    true = true ∧
    (!false) = !false ∧
    true = true ∧
    (!false) = !false ∧
    true = true ∧
    True ∧
    true = true ∧
    True ∧
    True ∧
    ((True ∧
    Sub (AV.sc (Value.int IntKind.i64 (2 : Int))) (AV.sc (Value.int IntKind.i64 (2 : Int))) ∧
    True) ∧
    True) ∧
    Sub (AV.sc (Value.int IntKind.i64 (2 : Int))) res ∧ SubOut [] [])) ∧
    (decide (i < k) = false →
    True ∧
    True ∧
    ((True ∧ Sub (AV.sc (Value.int IntKind.i64 (0 : Int))) (AV.sc (Value.int IntKind.i64 (0 : Int))) ∧ True) ∧ True) ∧
    Sub (AV.sc (Value.int IntKind.i64 (0 : Int))) res ∧ SubOut [] []) from
    ⟨trivial, ⟨trivial, ⟨trivial, (And.elim (fun h3 k3 => ⟨(fun x4 => (fun h4 => ⟨trivial, ⟨⟨rfl, trivial⟩, ⟨trivial, (And.elim (fun h8 k8 => ⟨(And.elim (fun h9 k9 => ⟨h9, k9⟩) h8), ⟨trivial, ⟨trivial, ⟨trivial, ⟨trivial, ⟨trivial, (And.elim (fun h14 k14 => ⟨(fun x15 => (fun h15 => ⟨trivial, ⟨rfl, ⟨⟨rfl, trivial⟩, ⟨rfl, ⟨trivial, ⟨rfl, (And.elim (fun h22 k22 => ⟨(And.elim (fun h23 k23 => ⟨h23, k23⟩) h22), ⟨rfl, ⟨trivial, ⟨rfl, ⟨trivial, ⟨trivial, (And.elim (fun h28 k28 => ⟨(fun x29 => (fun h29 => ⟨trivial, ⟨trivial, ⟨⟨⟨trivial, ⟨Sub.refl _, trivial⟩⟩, trivial⟩, ((fun h33 => ⟨h33, trivial⟩) h29)⟩⟩⟩) (h28 x29)), (fun x29 => (fun h29 => ⟨trivial, ⟨⟨⟨trivial, ⟨Sub.refl _, ⟨trivial, ⟨Sub.refl _, ⟨trivial, ⟨Sub.refl _, ⟨trivial, ⟨Sub.refl _, ⟨trivial, ⟨Sub.refl _, trivial⟩⟩⟩⟩⟩⟩⟩⟩⟩⟩, ⟨⟨trivial, ⟨trivial, ⟨trivial, ⟨trivial, trivial⟩⟩⟩⟩, ⟨SubB.refl _, trivial⟩⟩⟩, h29⟩⟩) (k28 x29))⟩) k22)⟩⟩⟩⟩⟩⟩) h15)⟩⟩⟩⟩⟩⟩) (h14 x15)), (fun x15 => (fun h15 => ⟨rfl, ⟨rfl, ⟨rfl, ⟨rfl, ⟨rfl, ⟨rfl, ⟨rfl, ⟨rfl, ⟨rfl, ⟨rfl, ⟨rfl, ⟨trivial, ⟨rfl, ⟨trivial, ⟨trivial, ⟨⟨⟨trivial, ⟨Sub.refl _, trivial⟩⟩, trivial⟩, ((fun h32 => ⟨h32, trivial⟩) h15)⟩⟩⟩⟩⟩⟩⟩⟩⟩⟩⟩⟩⟩⟩⟩⟩) (k14 x15))⟩) k8)⟩⟩⟩⟩⟩⟩) h4)⟩⟩⟩) (h3 x4)), (fun x4 => (fun h4 => ⟨trivial, ⟨trivial, ⟨⟨⟨trivial, ⟨Sub.refl _, trivial⟩⟩, trivial⟩, ((fun h8 => ⟨h8, trivial⟩) h4)⟩⟩⟩) (k3 x4))⟩) h)⟩⟩⟩)
theorem r56_2 (k : Int) (m : Int) (i : Int) (c : Int) (b0a : Int) (b0baf : Nat → Int) (b0bban : Nat) (b0bbafn : Nat → Nat) (b0bbaff : Nat → Nat → Int) (b0bbban : Nat) (b0bbbaf : Nat → Int) (res : AV)
    (h : (decide (c < m) = true →
    ((0 : Int) ≤ i ∧ i < (↑b0bban : Int)) ∧
    ((0 : Int) ≤ c ∧ c < (↑(b0bbafn i.toNat) : Int)) ∧
    (decide (b0bbaff i.toNat c.toNat ≥ k) = true → Sub (AV.sc (Value.int IntKind.i64 (2 : Int))) res) ∧
    (decide (b0bbaff i.toNat c.toNat ≥ k) = false →
    L56_2 k m i (IntKind.i64.wrap (c + (1 : Int))) b0a b0baf b0bban b0bbafn b0bbaff b0bbban b0bbbaf res)) ∧
  (decide (c < m) = false → L56_1 k m (IntKind.i64.wrap (i + (1 : Int))) b0a b0baf b0bban b0bbafn b0bbaff b0bbban b0bbbaf res)) :
    L56_2 k m i c b0a b0baf b0bban b0bbafn b0bbaff b0bbban b0bbbaf res :=
  rule Go.Am.Seat.tabOk 56 [] Go.Proofs.Try.f56 hf56 [1, 1, 1, 1, 1, 1, 1, 0, 1, 0, 0, 1, 0, 0, 1, 1, 0, 0] (s56_2 k m i c b0a b0baf b0bban b0bbafn b0bbaff b0bbban b0bbbaf) (m56_2 k m i c b0a b0baf b0bban b0bbafn b0bbaff b0bbban b0bbbaf) res [] 400
    (((Orc.fin (AV.sc (Value.int IntKind.i64 (2 : Int))) [] []).br
    (Orc.cut (nat_lit 4) (s56_2 k m i (IntKind.i64.wrap (c + (1 : Int))) b0a b0baf b0bban b0bbafn b0bbaff b0bbban b0bbbaf)
    (m56_2 k m i (IntKind.i64.wrap (c + (1 : Int))) b0a b0baf b0bban b0bbafn b0bbaff b0bbban b0bbbaf) [((1000 : Nat), some (1000 : Nat))])).br
  (Orc.cut (nat_lit 4) (s56_1 k m (IntKind.i64.wrap (i + (1 : Int))) b0a b0baf b0bban b0bbafn b0bbaff b0bbban b0bbbaf)
    (m56_1 k m (IntKind.i64.wrap (i + (1 : Int))) b0a b0baf b0bban b0bbafn b0bbaff b0bbban b0bbbaf) [((1000 : Nat), some (1000 : Nat))])) _ _ (by kernel_rfl) (by kernel_rfl) (show True ∧
  True ∧
    True ∧
    (decide (c < m) = true →
    True ∧
    ((1 : Nat) + ((256 : Nat) + (0 : Nat)) = plus (0 : Nat) (257 : Nat) ∧ True) ∧
    True ∧
    ((0 : Int) ≤ i ∧ i < (↑b0bban : Int)) ∧
    True ∧
    True ∧
    ((0 : Int) ≤ c ∧ c < (↑(b0bbafn i.toNat) : Int)) ∧
    True ∧
    True ∧
    True ∧
    (decide (b0bbaff i.toNat c.toNat ≥ k) = true →
    True ∧
    True ∧
    ((True ∧ Sub (AV.sc (Value.int IntKind.i64 (2 : Int))) (AV.sc (Value.int IntKind.i64 (2 : Int))) ∧ True) ∧ True) ∧
    Sub (AV.sc (Value.int IntKind.i64 (2 : Int))) res ∧ SubOut [] []) ∧
    (decide (b0bbaff i.toNat c.toNat ≥ k) = false →
    True ∧
    True ∧
    True ∧
    ((True ∧
    Sub (AV.pt (1000 : Nat) [] (0 : Nat)) (AV.pt (1000 : Nat) [] (0 : Nat)) ∧
    True ∧
    Sub (AV.sc (Value.int IntKind.i64 k)) (AV.sc (Value.int IntKind.i64 k)) ∧
    True ∧
    Sub (AV.sc (Value.int IntKind.i64 m)) (AV.sc (Value.int IntKind.i64 m)) ∧
    True ∧
    Sub (AV.sc (Value.int IntKind.i64 i)) (AV.sc (Value.int IntKind.i64 i)) ∧
    True ∧
    Sub (AV.sc (Value.int IntKind.i64 (IntKind.i64.wrap (c + (1 : Int)))))
    (AV.sc (Value.int IntKind.i64 (IntKind.i64.wrap (c + (1 : Int))))) ∧
    True) ∧
    (True ∧ True ∧ True ∧ True ∧ True) ∧
    SubB
    (AV.cons (1 : Nat) (AV.sc (Value.int IntKind.i64 b0a))
    (AV.cons (256 : Nat) (AV.ar (256 : Nat) (1 : Nat) fun (i0 : Nat) => AV.sc (Value.int IntKind.u8 (b0baf i0)))
    (AV.cons (1 : Nat)
    (AV.vec true (1 : Nat) b0bban b0bban fun (i0 : Nat) =>
    AV.vec true (1 : Nat) (b0bbafn i0) (b0bbafn i0) fun (i1 : Nat) =>
    AV.sc (Value.int IntKind.i64 (b0bbaff i0 i1)))
    (AV.cons (1 : Nat)
    (AV.vec true (1 : Nat) b0bbban b0bbban fun (i0 : Nat) => AV.sc (Value.int IntKind.i64 (b0bbbaf i0)))
    AV.nil))))
    (AV.cons (1 : Nat) (AV.sc (Value.int IntKind.i64 b0a))
    (AV.cons (256 : Nat) (AV.ar (256 : Nat) (1 : Nat) fun (i0 : Nat) => AV.sc (Value.int IntKind.u8 (b0baf i0)))
    (AV.cons (1 : Nat)
    (AV.vec true (1 : Nat) b0bban b0bban fun (i0 : Nat) =>
    AV.vec true (1 : Nat) (b0bbafn i0) (b0bbafn i0) fun (i1 : Nat) =>
    AV.sc (Value.int IntKind.i64 (b0bbaff i0 i1)))
    (AV.cons (1 : Nat)
    (AV.vec true (1 : Nat) b0bbban b0bbban fun (i0 : Nat) => AV.sc (Value.int IntKind.i64 (b0bbbaf i0)))
    AV.nil)))) ∧
    True) ∧
    L56_2 k m i (IntKind.i64.wrap (c + (1 : Int))) b0a b0baf b0bban b0bbafn b0bbaff b0bbban b0bbbaf res)) ∧
    (decide (c < m) = false →
    True ∧
    True ∧
    True ∧
    ((True ∧
    Sub (AV.pt (1000 : Nat) [] (0 : Nat)) (AV.pt (1000 : Nat) [] (0 : Nat)) ∧
    True ∧
    Sub (AV.sc (Value.int IntKind.i64 k)) (AV.sc (Value.int IntKind.i64 k)) ∧
    True ∧
    Sub (AV.sc (Value.int IntKind.i64 m)) (AV.sc (Value.int IntKind.i64 m)) ∧
    True ∧
    Sub (AV.sc (Value.int IntKind.i64 (IntKind.i64.wrap (i + (1 : Int)))))
    (AV.sc (Value.int IntKind.i64 (IntKind.i64.wrap (i + (1 : Int))))) ∧
    True) ∧
    (True ∧ True ∧ True ∧ True ∧ True) ∧
    SubB
    (AV.cons (1 : Nat) (AV.sc (Value.int IntKind.i64 b0a))
    (AV.cons (256 : Nat) (AV.ar (256 : Nat) (1 : Nat) fun (i0 : Nat) => AV.sc (Value.int IntKind.u8 (b0baf i0)))
    (AV.cons (1 : Nat)
    (AV.vec true (1 : Nat) b0bban b0bban fun (i0 : Nat) =>
    AV.vec true (1 : Nat) (b0bbafn i0) (b0bbafn i0) fun (i1 : Nat) => AV.sc (Value.int IntKind.i64 (b0bbaff i0 i1)))
    (AV.cons (1 : Nat) (AV.vec true (1 : Nat) b0bbban b0bbban fun (i0 : Nat) => AV.sc (Value.int IntKind.i64 (b0bbbaf i0)))
    AV.nil))))
    (AV.cons (1 : Nat) (AV.sc (Value.int IntKind.i64 b0a))
    (AV.cons (256 : Nat) (AV.ar (256 : Nat) (1 : Nat) fun (i0 : Nat) => AV.sc (Value.int IntKind.u8 (b0baf i0)))
    (AV.cons (1 : Nat)
    (AV.vec true (1 : Nat) b0bban b0bban fun (i0 : Nat) =>
    AV.vec true (1 : Nat) (b0bbafn i0) (b0bbafn i0) fun (i1 : Nat) => AV.sc (Value.int IntKind.i64 (b0bbaff i0 i1)))
    (AV.cons (1 : Nat) (AV.vec true (1 : Nat) b0bbban b0bbban fun (i0 : Nat) => AV.sc (Value.int IntKind.i64 (b0bbbaf i0)))
    AV.nil)))) ∧
    True) ∧
    L56_1 k m (IntKind.i64.wrap (i + (1 : Int))) b0a b0baf b0bban b0bbafn b0bbaff b0bbban b0bbbaf res) from
    ⟨trivial, ⟨trivial, ⟨trivial, (And.elim (fun h3 k3 => ⟨(fun x4 => (fun h4 => ⟨trivial, ⟨⟨rfl, trivial⟩, ⟨trivial, (And.elim (fun h8 k8 => ⟨(And.elim (fun h9 k9 => ⟨h9, k9⟩) h8), ⟨trivial, ⟨trivial, (And.elim (fun h11 k11 => ⟨(And.elim (fun h12 k12 => ⟨h12, k12⟩) h11), ⟨trivial, ⟨trivial, ⟨trivial, (And.elim (fun h15 k15 => ⟨(fun x16 => (fun h16 => ⟨trivial, ⟨trivial, ⟨⟨⟨trivial, ⟨Sub.refl _, trivial⟩⟩, trivial⟩, ((fun h20 => ⟨h20, trivial⟩) h16)⟩⟩⟩) (h15 x16)), (fun x16 => (fun h16 => ⟨trivial, ⟨trivial, ⟨trivial, ⟨⟨⟨trivial, ⟨Sub.refl _, ⟨trivial, ⟨Sub.refl _, ⟨trivial, ⟨Sub.refl _, ⟨trivial, ⟨Sub.refl _, ⟨trivial, ⟨Sub.refl _, trivial⟩⟩⟩⟩⟩⟩⟩⟩⟩⟩, ⟨⟨trivial, ⟨trivial, ⟨trivial, ⟨trivial, trivial⟩⟩⟩⟩, ⟨SubB.refl _, trivial⟩⟩⟩, h16⟩⟩⟩⟩) (k15 x16))⟩) k11)⟩⟩⟩⟩) k8)⟩⟩⟩) h4)⟩⟩⟩) (h3 x4)), (fun x4 => (fun h4 => ⟨trivial, ⟨trivial, ⟨trivial, ⟨⟨⟨trivial, ⟨Sub.refl _, ⟨trivial, ⟨Sub.refl _, ⟨trivial, ⟨Sub.refl _, ⟨trivial, ⟨Sub.refl _, trivial⟩⟩⟩⟩⟩⟩⟩⟩, ⟨⟨trivial, ⟨trivial, ⟨trivial, ⟨trivial, trivial⟩⟩⟩⟩, ⟨SubB.refl _, trivial⟩⟩⟩, h4⟩⟩⟩⟩) (k3 x4))⟩) h)⟩⟩⟩)
theorem hf57 : Go.Proofs.Try.prog.funcs[57]? = some Go.Proofs.Try.f57 := by kernel_rfl
abbrev s57_e (da : Int) (dbaf : Nat → Int) (dbban : Nat) (dbbafn : Nat → Nat) (dbbaff : Nat → Nat → Int) (dbbban : Nat) (dbbbaf : Nat → Int) (left : ByteArray) : List (Nat × AV) := [(0, (.cons 1 (.sc (.int .i64 da)) (.cons 256 (.ar 256 1 (fun i0 => (.sc (.int .u8 (dbaf i0))))) (.cons 1 (.vec true 1 dbban dbban (fun i0 => (.vec true 1 (dbbafn i0) (dbbafn i0) (fun i1 => (.sc (.int .i64 (dbbaff i0 i1))))))) (.cons 1 (.vec true 1 dbbban dbbban (fun i0 => (.sc (.int .i64 (dbbbaf i0))))) .nil))))), (1, (.sc (.string left)))]
abbrev m57_e (da : Int) (dbaf : Nat → Int) (dbban : Nat) (dbbafn : Nat → Nat) (dbbaff : Nat → Nat → Int) (dbbban : Nat) (dbbbaf : Nat → Int) (left : ByteArray) : List (Nat × Nat × AV) := []
def L57_e (da : Int) (dbaf : Nat → Int) (dbban : Nat) (dbbafn : Nat → Nat) (dbbaff : Nat → Nat → Int) (dbbban : Nat) (dbbbaf : Nat → Int) (left : ByteArray) (res : AV) : Prop := Goes ⟨Go.Proofs.Try.prog, 57, [], res, []⟩ (place Go.Proofs.Try.f57 []) (s57_e da dbaf dbban dbbafn dbbaff dbbban dbbbaf left) (m57_e da dbaf dbban dbbafn dbbaff dbbban dbbbaf left)
theorem a57_e (da : Int) (dbaf : Nat → Int) (dbban : Nat) (dbbafn : Nat → Nat) (dbbaff : Nat → Nat → Int) (dbbban : Nat) (dbbbaf : Nat → Int) (left : ByteArray) (res : AV) (h : (∀ slot, fact (look .undef (s57_e da dbaf dbban dbbafn dbbaff dbbban dbbbaf left) slot)) → L57_e da dbaf dbban dbbafn dbbaff dbbban dbbbaf left res) : L57_e da dbaf dbban dbbafn dbbaff dbbban dbbbaf left res :=
  assumeRule 57 [] Go.Proofs.Try.f57 hf57 [] (s57_e da dbaf dbban dbbafn dbbaff dbbban dbbbaf left) (m57_e da dbaf dbban dbbafn dbbaff dbbban dbbbaf left) res [] _ (by kernel_rfl) h
theorem o57 (da : Int) (dbaf : Nat → Int) (dbban : Nat) (dbbafn : Nat → Nat) (dbbaff : Nat → Nat → Int) (dbbban : Nat) (dbbbaf : Nat → Int) (left : ByteArray) (res : AV) (hnew : newOnly res) (h : L57_e da dbaf dbban dbbafn dbbaff dbbban dbbbaf left res) : Ok Go.Proofs.Try.prog 57 [(.cons 1 (.sc (.int .i64 da)) (.cons 256 (.ar 256 1 (fun i0 => (.sc (.int .u8 (dbaf i0))))) (.cons 1 (.vec true 1 dbban dbban (fun i0 => (.vec true 1 (dbbafn i0) (dbbafn i0) (fun i1 => (.sc (.int .i64 (dbbaff i0 i1))))))) (.cons 1 (.vec true 1 dbbban dbbban (fun i0 => (.sc (.int .i64 (dbbbaf i0))))) .nil)))), (.sc (.string left))] [] res [] :=
  okRule2 57 Go.Proofs.Try.f57 hf57 [(.cons 1 (.sc (.int .i64 da)) (.cons 256 (.ar 256 1 (fun i0 => (.sc (.int .u8 (dbaf i0))))) (.cons 1 (.vec true 1 dbban dbban (fun i0 => (.vec true 1 (dbbafn i0) (dbbafn i0) (fun i1 => (.sc (.int .i64 (dbbaff i0 i1))))))) (.cons 1 (.vec true 1 dbbban dbbban (fun i0 => (.sc (.int .i64 (dbbbaf i0))))) .nil)))), (.sc (.string left))] [] res [] [] rfl (by kernel_rfl) (by kernel_rfl) (by kernel_rfl) ⟨hnew, by simp⟩ (L57_e da dbaf dbban dbbafn dbbaff dbbban dbbbaf left res) (by kernel_rfl) h
theorem r57_e (da : Int) (dbaf : Nat → Int) (dbban : Nat) (dbbafn : Nat → Nat) (dbbaff : Nat → Nat → Int) (dbbban : Nat) (dbbbaf : Nat → Int) (left : ByteArray) (res : AV)
    (h : ∃ (r : Int),
  Ok Proofs.Try.prog (94 : Nat)
    [AV.cons (1 : Nat) (AV.sc (Value.int IntKind.i64 da))
    (AV.cons (256 : Nat) (AV.ar (256 : Nat) (1 : Nat) fun (i : Nat) => AV.sc (Value.int IntKind.u8 (dbaf i)))
    (AV.cons (1 : Nat)
    (AV.vec true (1 : Nat) dbban dbban fun (i : Nat) =>
    AV.vec true (1 : Nat) (dbbafn i) (dbbafn i) fun (i_1 : Nat) => AV.sc (Value.int IntKind.i64 (dbbaff i i_1)))
    (AV.cons (1 : Nat) (AV.vec true (1 : Nat) dbbban dbbban fun (i : Nat) => AV.sc (Value.int IntKind.i64 (dbbbaf i))) AV.nil))),
    AV.sc (Value.string left)]
    [] (AV.sc (Value.int IntKind.i64 r)) [] ∧
    ((0 : Int) ≤ (0 : Int) ∧
    ((0 : Int) ≤
    if false = true then if (↑left.size : Int) > r then (↑left.size : Int) else r else if (↑left.size : Int) < r then (↑left.size : Int) else r) ∧
    (if false = true then if (↑left.size : Int) > r then (↑left.size : Int) else r else if (↑left.size : Int) < r then (↑left.size : Int) else r) ≤
    (↑left.size : Int)) ∧
    ∃ (r_1 : Int × Int),
    Ok Proofs.Try.prog (95 : Nat)
    [AV.cons (1 : Nat) (AV.sc (Value.int IntKind.i64 da))
    (AV.cons (256 : Nat) (AV.ar (256 : Nat) (1 : Nat) fun (i : Nat) => AV.sc (Value.int IntKind.u8 (dbaf i)))
    (AV.cons (1 : Nat)
    (AV.vec true (1 : Nat) dbban dbban fun (i : Nat) =>
    AV.vec true (1 : Nat) (dbbafn i) (dbbafn i) fun (i_1 : Nat) => AV.sc (Value.int IntKind.i64 (dbbaff i i_1)))
    (AV.cons (1 : Nat) (AV.vec true (1 : Nat) dbbban dbbban fun (i : Nat) => AV.sc (Value.int IntKind.i64 (dbbbaf i))) AV.nil))),
    AV.sc
    (Value.string
    (left.extract (Int.toNat (0 : Int))
    (if false = true then if (↑left.size : Int) > r then (↑left.size : Int) else r
    else if (↑left.size : Int) < r then (↑left.size : Int) else r).toNat))]
    [] (AV.cons (1 : Nat) (AV.sc (Value.int IntKind.i64 r_1.fst)) (AV.cons (1 : Nat) (AV.sc (Value.int IntKind.i64 r_1.snd)) AV.nil)).tup [] ∧
    Sub
    (AV.cons (1 : Nat) (AV.sc (Value.int IntKind.i64 r_1.fst))
    (AV.cons (1 : Nat) (AV.sc (Value.int IntKind.i64 r_1.snd)) (AV.cons (1 : Nat) (AV.sc (Value.int IntKind.i64 r)) AV.nil)))
    res) :
    L57_e da dbaf dbban dbbafn dbbaff dbbban dbbbaf left res :=
  rule Go.Am.Seat.tabOk 57 [] Go.Proofs.Try.f57 hf57 [] (s57_e da dbaf dbban dbbafn dbbaff dbbban dbbbaf left) (m57_e da dbaf dbban dbbafn dbbaff dbbban dbbbaf left) res [] 400
    (Orc.call [] [] (fun (r94 : Int) => AV.sc (Value.int IntKind.i64 r94)) (fun (r94 : Int) => []) fun (r94 : Int) =>
  Orc.call [] []
    (fun (r95 : Int × Int) =>
    (AV.cons (1 : Nat) (AV.sc (Value.int IntKind.i64 r95.fst)) (AV.cons (1 : Nat) (AV.sc (Value.int IntKind.i64 r95.snd)) AV.nil)).tup)
    (fun (r95 : Int × Int) => []) fun (r95 : Int × Int) =>
    Orc.fin
    (AV.cons (1 : Nat) (AV.sc (Value.int IntKind.i64 r95.fst))
    (AV.cons (1 : Nat) (AV.sc (Value.int IntKind.i64 r95.snd)) (AV.cons (1 : Nat) (AV.sc (Value.int IntKind.i64 r94)) AV.nil)))
    [] []) _ _ (by kernel_rfl) (by kernel_rfl) (show True ∧
  True ∧
    ((0 : Nat) = (0 : Nat) ∧ True) ∧
    True ∧
    ∃ (r : Int),
    (((True ∧ True ∧ True ∧ True ∧ True) ∧ True ∧ True) ∧
    True ∧
    Ok Proofs.Try.prog (94 : Nat)
    [AV.cons (1 : Nat) (AV.sc (Value.int IntKind.i64 da))
    (AV.cons (256 : Nat) (AV.ar (256 : Nat) (1 : Nat) fun (i : Nat) => AV.sc (Value.int IntKind.u8 (dbaf i)))
    (AV.cons (1 : Nat)
    (AV.vec true (1 : Nat) dbban dbban fun (i : Nat) =>
    AV.vec true (1 : Nat) (dbbafn i) (dbbafn i) fun (i_1 : Nat) => AV.sc (Value.int IntKind.i64 (dbbaff i i_1)))
    (AV.cons (1 : Nat) (AV.vec true (1 : Nat) dbbban dbbban fun (i : Nat) => AV.sc (Value.int IntKind.i64 (dbbbaf i))) AV.nil))),
    AV.sc (Value.string left)]
    [] (AV.sc (Value.int IntKind.i64 r)) []) ∧
    True ∧
    ((0 : Nat) = (0 : Nat) ∧ True) ∧
    True ∧
    True ∧
    True ∧
    True ∧
    True ∧
    ((0 : Int) ≤ (0 : Int) ∧
    ((0 : Int) ≤
    if false = true then if (↑left.size : Int) > r then (↑left.size : Int) else r
    else if (↑left.size : Int) < r then (↑left.size : Int) else r) ∧
    (if false = true then if (↑left.size : Int) > r then (↑left.size : Int) else r
    else if (↑left.size : Int) < r then (↑left.size : Int) else r) ≤
    (↑left.size : Int)) ∧
    ∃ (r_1 : Int × Int),
    (((True ∧ True ∧ True ∧ True ∧ True) ∧ True ∧ True) ∧
    True ∧
    Ok Proofs.Try.prog (95 : Nat)
    [AV.cons (1 : Nat) (AV.sc (Value.int IntKind.i64 da))
    (AV.cons (256 : Nat) (AV.ar (256 : Nat) (1 : Nat) fun (i : Nat) => AV.sc (Value.int IntKind.u8 (dbaf i)))
    (AV.cons (1 : Nat)
    (AV.vec true (1 : Nat) dbban dbban fun (i : Nat) =>
    AV.vec true (1 : Nat) (dbbafn i) (dbbafn i) fun (i_1 : Nat) => AV.sc (Value.int IntKind.i64 (dbbaff i i_1)))
    (AV.cons (1 : Nat) (AV.vec true (1 : Nat) dbbban dbbban fun (i : Nat) => AV.sc (Value.int IntKind.i64 (dbbbaf i)))
    AV.nil))),
    AV.sc
    (Value.string
    (left.extract (Int.toNat (0 : Int))
    (if false = true then if (↑left.size : Int) > r then (↑left.size : Int) else r
    else if (↑left.size : Int) < r then (↑left.size : Int) else r).toNat))]
    []
    (AV.cons (1 : Nat) (AV.sc (Value.int IntKind.i64 r_1.fst))
    (AV.cons (1 : Nat) (AV.sc (Value.int IntKind.i64 r_1.snd)) AV.nil)).tup
    []) ∧
    True ∧
    True ∧
    True ∧
    True ∧
    True ∧
    True ∧
    True ∧
    True ∧
    True ∧
    ((0 : Nat) = (0 : Nat) ∧ True) ∧
    ((0 : Nat) = (0 : Nat) ∧ True) ∧
    (((True ∧ True ∧ True ∧ True) ∧
    Sub
    (AV.cons (1 : Nat) (AV.sc (Value.int IntKind.i64 r_1.fst))
    (AV.cons (1 : Nat) (AV.sc (Value.int IntKind.i64 r_1.snd))
    (AV.cons (1 : Nat) (AV.sc (Value.int IntKind.i64 r)) AV.nil)))
    (AV.cons (1 : Nat) (AV.sc (Value.int IntKind.i64 r_1.fst))
    (AV.cons (1 : Nat) (AV.sc (Value.int IntKind.i64 r_1.snd))
    (AV.cons (1 : Nat) (AV.sc (Value.int IntKind.i64 r)) AV.nil))) ∧
    True) ∧
    True) ∧
    Sub
    (AV.cons (1 : Nat) (AV.sc (Value.int IntKind.i64 r_1.fst))
    (AV.cons (1 : Nat) (AV.sc (Value.int IntKind.i64 r_1.snd))
    (AV.cons (1 : Nat) (AV.sc (Value.int IntKind.i64 r)) AV.nil)))
    res ∧
    SubOut [] [] from
    ⟨trivial, ⟨trivial, ⟨⟨rfl, trivial⟩, ⟨trivial, (Exists.elim h fun x4 h4 => ⟨x4, (And.elim (fun h5 k5 => ⟨⟨⟨⟨trivial, ⟨trivial, ⟨trivial, ⟨trivial, trivial⟩⟩⟩⟩, ⟨trivial, trivial⟩⟩, ⟨trivial, h5⟩⟩, ⟨trivial, ⟨⟨rfl, trivial⟩, ⟨trivial, ⟨trivial, ⟨trivial, ⟨trivial, ⟨trivial, (And.elim (fun h13 k13 => ⟨(And.elim (fun h14 k14 => ⟨h14, (And.elim (fun h15 k15 => ⟨h15, k15⟩) k14)⟩) h13), (Exists.elim k13 fun x14 h14 => ⟨x14, (And.elim (fun h15 k15 => ⟨⟨⟨⟨trivial, ⟨trivial, ⟨trivial, ⟨trivial, trivial⟩⟩⟩⟩, ⟨trivial, trivial⟩⟩, ⟨trivial, h15⟩⟩, ⟨trivial, ⟨trivial, ⟨trivial, ⟨trivial, ⟨trivial, ⟨trivial, ⟨trivial, ⟨trivial, ⟨trivial, ⟨⟨rfl, trivial⟩, ⟨⟨rfl, trivial⟩, ⟨⟨⟨⟨trivial, ⟨trivial, ⟨trivial, trivial⟩⟩⟩, ⟨Sub.refl _, trivial⟩⟩, trivial⟩, ((fun h28 => ⟨h28, trivial⟩) k15)⟩⟩⟩⟩⟩⟩⟩⟩⟩⟩⟩⟩⟩) h14)⟩)⟩) k5)⟩⟩⟩⟩⟩⟩⟩⟩) h4)⟩)⟩⟩⟩⟩)
theorem hf58 : Go.Proofs.Try.prog.funcs[58]? = some Go.Proofs.Try.f58 := by kernel_rfl
abbrev s58_e (aa : Int) (abaf : Nat → Int) (abban : Nat) (abbafn : Nat → Nat) (abbaff : Nat → Nat → Int) (abbban : Nat) (abbbaf : Nat → Int) (ba : Int) (bbaf : Nat → Int) (bbban : Nat) (bbbafn : Nat → Nat) (bbbaff : Nat → Nat → Int) (bbbban : Nat) (bbbbaf : Nat → Int) : List (Nat × AV) := [(0, (.cons 1 (.sc (.int .i64 aa)) (.cons 256 (.ar 256 1 (fun i0 => (.sc (.int .u8 (abaf i0))))) (.cons 1 (.vec true 1 abban abban (fun i0 => (.vec true 1 (abbafn i0) (abbafn i0) (fun i1 => (.sc (.int .i64 (abbaff i0 i1))))))) (.cons 1 (.vec true 1 abbban abbban (fun i0 => (.sc (.int .i64 (abbbaf i0))))) .nil))))), (1, (.cons 1 (.sc (.int .i64 ba)) (.cons 256 (.ar 256 1 (fun i0 => (.sc (.int .u8 (bbaf i0))))) (.cons 1 (.vec true 1 bbban bbban (fun i0 => (.vec true 1 (bbbafn i0) (bbbafn i0) (fun i1 => (.sc (.int .i64 (bbbaff i0 i1))))))) (.cons 1 (.vec true 1 bbbban bbbban (fun i0 => (.sc (.int .i64 (bbbbaf i0))))) .nil)))))]
abbrev m58_e (aa : Int) (abaf : Nat → Int) (abban : Nat) (abbafn : Nat → Nat) (abbaff : Nat → Nat → Int) (abbban : Nat) (abbbaf : Nat → Int) (ba : Int) (bbaf : Nat → Int) (bbban : Nat) (bbbafn : Nat → Nat) (bbbaff : Nat → Nat → Int) (bbbban : Nat) (bbbbaf : Nat → Int) : List (Nat × Nat × AV) := []
def L58_e (aa : Int) (abaf : Nat → Int) (abban : Nat) (abbafn : Nat → Nat) (abbaff : Nat → Nat → Int) (abbban : Nat) (abbbaf : Nat → Int) (ba : Int) (bbaf : Nat → Int) (bbban : Nat) (bbbafn : Nat → Nat) (bbbaff : Nat → Nat → Int) (bbbban : Nat) (bbbbaf : Nat → Int) (res : AV) : Prop := Goes ⟨Go.Proofs.Try.prog, 58, [], res, []⟩ (place Go.Proofs.Try.f58 []) (s58_e aa abaf abban abbafn abbaff abbban abbbaf ba bbaf bbban bbbafn bbbaff bbbban bbbbaf) (m58_e aa abaf abban abbafn abbaff abbban abbbaf ba bbaf bbban bbbafn bbbaff bbbban bbbbaf)
theorem a58_e (aa : Int) (abaf : Nat → Int) (abban : Nat) (abbafn : Nat → Nat) (abbaff : Nat → Nat → Int) (abbban : Nat) (abbbaf : Nat → Int) (ba : Int) (bbaf : Nat → Int) (bbban : Nat) (bbbafn : Nat → Nat) (bbbaff : Nat → Nat → Int) (bbbban : Nat) (bbbbaf : Nat → Int) (res : AV) (h : (∀ slot, fact (look .undef (s58_e aa abaf abban abbafn abbaff abbban abbbaf ba bbaf bbban bbbafn bbbaff bbbban bbbbaf) slot)) → L58_e aa abaf abban abbafn abbaff abbban abbbaf ba bbaf bbban bbbafn bbbaff bbbban bbbbaf res) : L58_e aa abaf abban abbafn abbaff abbban abbbaf ba bbaf bbban bbbafn bbbaff bbbban bbbbaf res :=
  assumeRule 58 [] Go.Proofs.Try.f58 hf58 [] (s58_e aa abaf abban abbafn abbaff abbban abbbaf ba bbaf bbban bbbafn bbbaff bbbban bbbbaf) (m58_e aa abaf abban abbafn abbaff abbban abbbaf ba bbaf bbban bbbafn bbbaff bbbban bbbbaf) res [] _ (by kernel_rfl) h
abbrev s58_0 (i : Int) (b0a : Int) (b0baf : Nat → Int) (b0bban : Nat) (b0bbafn : Nat → Nat) (b0bbaff : Nat → Nat → Int) (b0bbban : Nat) (b0bbbaf : Nat → Int) (b1a : Int) (b1baf : Nat → Int) (b1bban : Nat) (b1bbafn : Nat → Nat) (b1bbaff : Nat → Nat → Int) (b1bbban : Nat) (b1bbbaf : Nat → Int) : List (Nat × AV) := [(2, (.pt 1000 [] 0)), (3, (.pt 1001 [] 0)), (5, (.sc (.int .i64 i)))]
abbrev m58_0 (i : Int) (b0a : Int) (b0baf : Nat → Int) (b0bban : Nat) (b0bbafn : Nat → Nat) (b0bbaff : Nat → Nat → Int) (b0bbban : Nat) (b0bbbaf : Nat → Int) (b1a : Int) (b1baf : Nat → Int) (b1bban : Nat) (b1bbafn : Nat → Nat) (b1bbaff : Nat → Nat → Int) (b1bbban : Nat) (b1bbbaf : Nat → Int) : List (Nat × Nat × AV) := [(1000, 26, (.cons 1 (.sc (.int .i64 b0a)) (.cons 256 (.ar 256 1 (fun i0 => (.sc (.int .u8 (b0baf i0))))) (.cons 1 (.vec true 1 b0bban b0bban (fun i0 => (.vec true 1 (b0bbafn i0) (b0bbafn i0) (fun i1 => (.sc (.int .i64 (b0bbaff i0 i1))))))) (.cons 1 (.vec true 1 b0bbban b0bbban (fun i0 => (.sc (.int .i64 (b0bbbaf i0))))) .nil))))), (1001, 26, (.cons 1 (.sc (.int .i64 b1a)) (.cons 256 (.ar 256 1 (fun i0 => (.sc (.int .u8 (b1baf i0))))) (.cons 1 (.vec true 1 b1bban b1bban (fun i0 => (.vec true 1 (b1bbafn i0) (b1bbafn i0) (fun i1 => (.sc (.int .i64 (b1bbaff i0 i1))))))) (.cons 1 (.vec true 1 b1bbban b1bbban (fun i0 => (.sc (.int .i64 (b1bbbaf i0))))) .nil)))))]
def L58_0 (i : Int) (b0a : Int) (b0baf : Nat → Int) (b0bban : Nat) (b0bbafn : Nat → Nat) (b0bbaff : Nat → Nat → Int) (b0bbban : Nat) (b0bbbaf : Nat → Int) (b1a : Int) (b1baf : Nat → Int) (b1bban : Nat) (b1bbafn : Nat → Nat) (b1bbaff : Nat → Nat → Int) (b1bbban : Nat) (b1bbbaf : Nat → Int) (res : AV) : Prop := Goes ⟨Go.Proofs.Try.prog, 58, [], res, []⟩ (place Go.Proofs.Try.f58 [1, 1, 0, 1, 0, 0]) (s58_0 i b0a b0baf b0bban b0bbafn b0bbaff b0bbban b0bbbaf b1a b1baf b1bban b1bbafn b1bbaff b1bbban b1bbbaf) (m58_0 i b0a b0baf b0bban b0bbafn b0bbaff b0bbban b0bbbaf b1a b1baf b1bban b1bbafn b1bbaff b1bbban b1bbbaf)
theorem a58_0 (i : Int) (b0a : Int) (b0baf : Nat → Int) (b0bban : Nat) (b0bbafn : Nat → Nat) (b0bbaff : Nat → Nat → Int) (b0bbban : Nat) (b0bbbaf : Nat → Int) (b1a : Int) (b1baf : Nat → Int) (b1bban : Nat) (b1bbafn : Nat → Nat) (b1bbaff : Nat → Nat → Int) (b1bbban : Nat) (b1bbbaf : Nat → Int) (res : AV) (h : (∀ slot, fact (look .undef (s58_0 i b0a b0baf b0bban b0bbafn b0bbaff b0bbban b0bbbaf b1a b1baf b1bban b1bbafn b1bbaff b1bbban b1bbbaf) slot)) → L58_0 i b0a b0baf b0bban b0bbafn b0bbaff b0bbban b0bbbaf b1a b1baf b1bban b1bbafn b1bbaff b1bbban b1bbbaf res) : L58_0 i b0a b0baf b0bban b0bbafn b0bbaff b0bbban b0bbbaf b1a b1baf b1bban b1bbafn b1bbaff b1bbban b1bbbaf res :=
  assumeRule 58 [] Go.Proofs.Try.f58 hf58 [1, 1, 0, 1, 0, 0] (s58_0 i b0a b0baf b0bban b0bbafn b0bbaff b0bbban b0bbbaf b1a b1baf b1bban b1bbafn b1bbaff b1bbban b1bbbaf) (m58_0 i b0a b0baf b0bban b0bbafn b0bbaff b0bbban b0bbbaf b1a b1baf b1bban b1bbafn b1bbaff b1bbban b1bbbaf) res [] _ (by kernel_rfl) h
theorem o58 (aa : Int) (abaf : Nat → Int) (abban : Nat) (abbafn : Nat → Nat) (abbaff : Nat → Nat → Int) (abbban : Nat) (abbbaf : Nat → Int) (ba : Int) (bbaf : Nat → Int) (bbban : Nat) (bbbafn : Nat → Nat) (bbbaff : Nat → Nat → Int) (bbbban : Nat) (bbbbaf : Nat → Int) (res : AV) (hnew : newOnly res) (h : L58_e aa abaf abban abbafn abbaff abbban abbbaf ba bbaf bbban bbbafn bbbaff bbbban bbbbaf res) : Ok Go.Proofs.Try.prog 58 [(.cons 1 (.sc (.int .i64 aa)) (.cons 256 (.ar 256 1 (fun i0 => (.sc (.int .u8 (abaf i0))))) (.cons 1 (.vec true 1 abban abban (fun i0 => (.vec true 1 (abbafn i0) (abbafn i0) (fun i1 => (.sc (.int .i64 (abbaff i0 i1))))))) (.cons 1 (.vec true 1 abbban abbban (fun i0 => (.sc (.int .i64 (abbbaf i0))))) .nil)))), (.cons 1 (.sc (.int .i64 ba)) (.cons 256 (.ar 256 1 (fun i0 => (.sc (.int .u8 (bbaf i0))))) (.cons 1 (.vec true 1 bbban bbban (fun i0 => (.vec true 1 (bbbafn i0) (bbbafn i0) (fun i1 => (.sc (.int .i64 (bbbaff i0 i1))))))) (.cons 1 (.vec true 1 bbbban bbbban (fun i0 => (.sc (.int .i64 (bbbbaf i0))))) .nil))))] [] res [] :=
  okRule2 58 Go.Proofs.Try.f58 hf58 [(.cons 1 (.sc (.int .i64 aa)) (.cons 256 (.ar 256 1 (fun i0 => (.sc (.int .u8 (abaf i0))))) (.cons 1 (.vec true 1 abban abban (fun i0 => (.vec true 1 (abbafn i0) (abbafn i0) (fun i1 => (.sc (.int .i64 (abbaff i0 i1))))))) (.cons 1 (.vec true 1 abbban abbban (fun i0 => (.sc (.int .i64 (abbbaf i0))))) .nil)))), (.cons 1 (.sc (.int .i64 ba)) (.cons 256 (.ar 256 1 (fun i0 => (.sc (.int .u8 (bbaf i0))))) (.cons 1 (.vec true 1 bbban bbban (fun i0 => (.vec true 1 (bbbafn i0) (bbbafn i0) (fun i1 => (.sc (.int .i64 (bbbaff i0 i1))))))) (.cons 1 (.vec true 1 bbbban bbbban (fun i0 => (.sc (.int .i64 (bbbbaf i0))))) .nil))))] [] res [] [] rfl (by kernel_rfl) (by kernel_rfl) (by kernel_rfl) ⟨hnew, by simp⟩ (L58_e aa abaf abban abbafn abbaff abbban abbbaf ba bbaf bbban bbbafn bbbaff bbbban bbbbaf res) (by kernel_rfl) h
theorem r58_e (aa : Int) (abaf : Nat → Int) (abban : Nat) (abbafn : Nat → Nat) (abbaff : Nat → Nat → Int) (abbban : Nat) (abbbaf : Nat → Int) (ba : Int) (bbaf : Nat → Int) (bbban : Nat) (bbbafn : Nat → Nat) (bbbaff : Nat → Nat → Int) (bbbban : Nat) (bbbbaf : Nat → Int) (res : AV)
    (h : ((aa != ba) = false →
    (∀ (i : Nat), i < (256 : Nat) → (AV.sc (Value.int IntKind.u8 (abaf i))).sz = (1 : Nat) ∧ (AV.sc (Value.int IntKind.u8 (bbaf i))).sz = (1 : Nat)) ∧
    ((!cdec (∀ (i : Nat), i < (256 : Nat) → abaf i = bbaf i)) = false →
    (((↑abban : Int) != (↑bbban : Int)) = false →
    ∃ (r : Bool),
    Ok Proofs.Try.prog (60 : Nat)
    [AV.vec true (1 : Nat) abbban abbban fun (i : Nat) => AV.sc (Value.int IntKind.i64 (abbbaf i)),
    AV.vec true (1 : Nat) bbbban bbbban fun (i : Nat) => AV.sc (Value.int IntKind.i64 (bbbbaf i))]
    [] (AV.sc (Value.bool r)) [] ∧
    ((!r) = true → Sub (AV.sc (Value.bool false)) res) ∧
    ((!r) = false → L58_0 (0 : Int) aa abaf abban abbafn abbaff abbban abbbaf ba bbaf bbban bbbafn bbbaff bbbban bbbbaf res)) ∧
    (((↑abban : Int) != (↑bbban : Int)) = !false → Sub (AV.sc (Value.bool false)) res)) ∧
    ((!cdec (∀ (i : Nat), i < (256 : Nat) → abaf i = bbaf i)) = !false → Sub (AV.sc (Value.bool false)) res)) ∧
  ((aa != ba) = !false → Sub (AV.sc (Value.bool false)) res)) :
    L58_e aa abaf abban abbafn abbaff abbban abbbaf ba bbaf bbban bbbafn bbbaff bbbban bbbbaf res :=
  rule Go.Am.Seat.tabOk 58 [] Go.Proofs.Try.f58 hf58 [] (s58_e aa abaf abban abbafn abbaff abbban abbbaf ba bbaf bbban bbbafn bbbaff bbbban bbbbaf) (m58_e aa abaf abban abbafn abbaff abbban abbbaf ba bbaf bbban bbbafn bbbaff bbbban bbbbaf) res [] 400
    ((((Orc.call [] [] (fun (r60 : Bool) => AV.sc (Value.bool r60)) (fun (r60 : Bool) => []) fun (r60 : Bool) =>
    ((Orc.fin (AV.sc (Value.bool false)) [] []).br
    (Orc.cut (nat_lit 6)
    (s58_0 (0 : Int) aa abaf abban abbafn abbaff abbban abbbaf ba bbaf bbban bbbafn bbbaff bbbban bbbbaf)
    (m58_0 (0 : Int) aa abaf abban abbafn abbaff abbban abbbaf ba bbaf bbban bbbafn bbbaff bbbban bbbbaf)
    [((1000 : Nat), some (2 : Nat)), ((1001 : Nat), some (3 : Nat))])).yes).yes.yes.yes.yes.br
    (Orc.fin (AV.sc (Value.bool false)) [] []).yes.no.no.no.no.no).yes.yes.yes.yes.yes.yes.br
    (Orc.fin (AV.sc (Value.bool false)) [] []).yes.no.no.no.no.no.no.no.no.no.no.no.no).yes.yes.yes.yes.br
  (Orc.fin (AV.sc (Value.bool false)) [] []).yes.no.no.no.no.no.no.no.no.no.no.no.no.no.no.no.no.no) _ _ (by kernel_rfl) (by kernel_rfl) (show True ∧
  True ∧
    True ∧
    True ∧
    ((0 : Nat) = plus (0 : Nat) (0 : Nat) ∧ True) ∧
    True ∧
    ((0 : Nat) = plus (0 : Nat) (0 : Nat) ∧ True) ∧
    True ∧
    True ∧
    ((aa != ba) = false →
    True ∧
    false = false ∧
    ((1 : Nat) + (0 : Nat) = plus (0 : Nat) (1 : Nat) ∧ True) ∧
    false = false ∧
    True ∧
    false = false ∧
    ((1 : Nat) + (0 : Nat) = plus (0 : Nat) (1 : Nat) ∧ True) ∧
    false = false ∧
    (∀ (i : Nat),
    i < (256 : Nat) →
    (AV.sc (Value.int IntKind.u8 (abaf i))).sz = (1 : Nat) ∧
    (AV.sc (Value.int IntKind.u8 (bbaf i))).sz = (1 : Nat) ∧ false = false ∧ false = false ∧ True) ∧
    True ∧
    True ∧
    ((!cdec (∀ (i : Nat), i < (256 : Nat) → abaf i = bbaf i)) = false →
    True ∧
    false = false ∧
    ((1 : Nat) + ((256 : Nat) + (0 : Nat)) = plus (0 : Nat) (257 : Nat) ∧ True) ∧
    false = false ∧
    True ∧
    false = false ∧
    True ∧
    false = false ∧
    ((1 : Nat) + ((256 : Nat) + (0 : Nat)) = plus (0 : Nat) (257 : Nat) ∧ True) ∧
    false = false ∧
    True ∧
    false = false ∧
    True ∧
    True ∧
    True ∧
    (((↑abban : Int) != (↑bbban : Int)) = false →
    True ∧
    false = false ∧
    ((1 : Nat) + ((256 : Nat) + ((1 : Nat) + (0 : Nat))) =
    plus (0 : Nat) (258 : Nat) ∧
    True) ∧
    false = false ∧
    True ∧
    false = false ∧
    ((1 : Nat) + ((256 : Nat) + ((1 : Nat) + (0 : Nat))) =
    plus (0 : Nat) (258 : Nat) ∧
    True) ∧
    false = false ∧
    ∃ (r : Bool),
    ((True ∧ True ∧ True) ∧
    True ∧
    Ok Proofs.Try.prog (60 : Nat)
    [AV.vec true (1 : Nat) abbban abbban
    fun (i : Nat) =>
    AV.sc (Value.int IntKind.i64 (abbbaf i)),
    AV.vec true (1 : Nat) bbbban bbbban
    fun (i : Nat) =>
    AV.sc (Value.int IntKind.i64 (bbbbaf i))]
    [] (AV.sc (Value.bool r)) []) ∧
    false = false ∧
    True ∧
    True ∧
    ((!r) = true →
    True ∧
    True ∧
    ((True ∧
    Sub (AV.sc (Value.bool false))
    (AV.sc (Value.bool false)) ∧
    True) ∧
    True) ∧
    Sub (AV.sc (Value.bool false)) res ∧
    SubOut [] []) ∧
    ((!r) = false →
    True ∧
    ((True ∧
    Sub (AV.pt (1000 : Nat) [] (0 : Nat))
    (AV.pt (1000 : Nat) [] (0 : Nat)) ∧
    True ∧
    Sub
    (AV.pt (1001 : Nat) []
    (0 : Nat))
    (AV.pt (1001 : Nat) []
    (0 : Nat)) ∧
    True ∧
    Sub
    (AV.sc
    (Value.int IntKind.i64
    (0 : Int)))
    (AV.sc
    (Value.int IntKind.i64
    (0 : Int))) ∧
    True) ∧
    (True ∧ True ∧ True ∧ True ∧ True) ∧
    SubB
    (AV.cons (1 : Nat)
    (AV.sc (Value.int IntKind.i64 aa))
    (AV.cons (256 : Nat)
    (AV.ar (256 : Nat) (1 : Nat)
    fun (i0 : Nat) =>
    AV.sc
    (Value.int IntKind.u8
    (abaf i0)))
    (AV.cons (1 : Nat)
    (AV.vec true (1 : Nat) abban
    abban fun (i0 : Nat) =>
    AV.vec true (1 : Nat)
    (abbafn i0) (abbafn i0)
    fun (i1 : Nat) =>
    AV.sc
    (Value.int IntKind.i64
    (abbaff i0 i1)))
    (AV.cons (1 : Nat)
    (AV.vec true (1 : Nat)
    abbban abbban
    fun (i0 : Nat) =>
    AV.sc
    (Value.int IntKind.i64
    (abbbaf i0)))
    AV.nil))))
    (AV.cons (1 : Nat)
    (AV.sc (Value.int IntKind.i64 aa))
    (AV.cons (256 : Nat)
    (AV.ar (256 : Nat) (1 : Nat)
    fun (i0 : Nat) =>
    AV.sc
    (Value.int IntKind.u8
    (abaf i0)))
    (AV.cons (1 : Nat)
    (AV.vec true (1 : Nat) abban
    abban fun (i0 : Nat) =>
    AV.vec true (1 : Nat)
    (abbafn i0) (abbafn i0)
    fun (i1 : Nat) =>
    AV.sc
    (Value.int IntKind.i64
    (abbaff i0 i1)))
    (AV.cons (1 : Nat)
    (AV.vec true (1 : Nat)
    abbban abbban
    fun (i0 : Nat) =>
    AV.sc
    (Value.int IntKind.i64
    (abbbaf i0)))
    AV.nil)))) ∧
    (True ∧ True ∧ True ∧ True ∧ True) ∧
    SubB
    (AV.cons (1 : Nat)
    (AV.sc
    (Value.int IntKind.i64 ba))
    (AV.cons (256 : Nat)
    (AV.ar (256 : Nat) (1 : Nat)
    fun (i0 : Nat) =>
    AV.sc
    (Value.int IntKind.u8
    (bbaf i0)))
    (AV.cons (1 : Nat)
    (AV.vec true (1 : Nat)
    bbban bbban
    fun (i0 : Nat) =>
    AV.vec true (1 : Nat)
    (bbbafn i0)
    (bbbafn i0)
    fun (i1 : Nat) =>
    AV.sc
    (Value.int
    IntKind.i64
    (bbbaff i0 i1)))
    (AV.cons (1 : Nat)
    (AV.vec true (1 : Nat)
    bbbban bbbban
    fun (i0 : Nat) =>
    AV.sc
    (Value.int
    IntKind.i64
    (bbbbaf i0)))
    AV.nil))))
    (AV.cons (1 : Nat)
    (AV.sc
    (Value.int IntKind.i64 ba))
    (AV.cons (256 : Nat)
    (AV.ar (256 : Nat) (1 : Nat)
    fun (i0 : Nat) =>
    AV.sc
    (Value.int IntKind.u8
    (bbaf i0)))
    (AV.cons (1 : Nat)
    (AV.vec true (1 : Nat)
    bbban bbban
    fun (i0 : Nat) =>
    AV.vec true (1 : Nat)
    (bbbafn i0)
    (bbbafn i0)
    fun (i1 : Nat) =>
    AV.sc
    (Value.int
    IntKind.i64
    (bbbaff i0 i1)))
    (AV.cons (1 : Nat)
    (AV.vec true (1 : Nat)
    bbbban bbbban
    fun (i0 : Nat) =>
    AV.sc
    (Value.int
    IntKind.i64
    (bbbbaf i0)))
    AV.nil)))) ∧
    True) ∧
    L58_0 (0 : Int) aa abaf abban abbafn abbaff
    abbban abbbaf ba bbaf bbban bbbafn bbbaff
    bbbban bbbbaf res)) ∧
    (((↑abban : Int) != (↑bbban : Int)) = !false →
    true = true ∧
    (!false) = !false ∧
    true = true ∧
    (!false) = !false ∧
    true = true ∧
    (!false) = !false ∧
    true = true ∧
    (!false) = !false ∧
    true = true ∧
    (!false) = !false ∧
    true = true ∧
    True ∧
    true = true ∧
    True ∧
    True ∧
    ((True ∧
    Sub (AV.sc (Value.bool false))
    (AV.sc (Value.bool false)) ∧
    True) ∧
    True) ∧
    Sub (AV.sc (Value.bool false)) res ∧
    SubOut [] [])) ∧
    ((!cdec (∀ (i : Nat), i < (256 : Nat) → abaf i = bbaf i)) = !false →
    true = true ∧
    (!false) = !false ∧
    true = true ∧
    (!false) = !false ∧
    true = true ∧
    (!false) = !false ∧
    true = true ∧
    (!false) = !false ∧
    true = true ∧
    (!false) = !false ∧
    true = true ∧
    (!false) = !false ∧
    true = true ∧
    True ∧
    True ∧
    true = !false ∧
    true = true ∧
    (!false) = !false ∧
    true = true ∧
    (!false) = !false ∧
    true = true ∧
    (!false) = !false ∧
    true = true ∧
    (!false) = !false ∧
    true = true ∧
    (!false) = !false ∧
    true = true ∧
    True ∧
    true = true ∧
    True ∧
    True ∧
    ((True ∧
    Sub (AV.sc (Value.bool false))
    (AV.sc (Value.bool false)) ∧
    True) ∧
    True) ∧
    Sub (AV.sc (Value.bool false)) res ∧
    SubOut [] [])) ∧
    ((aa != ba) = !false →
    true = true ∧
    (!false) = !false ∧
    true = true ∧
    (!false) = !false ∧
    true = true ∧
    (!false) = !false ∧
    true = true ∧
    (!false) = !false ∧
    true = true ∧
    True ∧
    True ∧
    true = !false ∧
    true = true ∧
    (!false) = !false ∧
    true = true ∧
    (!false) = !false ∧
    true = true ∧
    (!false) = !false ∧
    true = true ∧
    (!false) = !false ∧
    true = true ∧
    (!false) = !false ∧
    true = true ∧
    (!false) = !false ∧
    true = true ∧
    True ∧
    True ∧
    true = !false ∧
    true = true ∧
    (!false) = !false ∧
    true = true ∧
    (!false) = !false ∧
    true = true ∧
    (!false) = !false ∧
    true = true ∧
    (!false) = !false ∧
    true = true ∧
    (!false) = !false ∧
    true = true ∧
    True ∧
    true = true ∧
    True ∧
    True ∧
    ((True ∧
    Sub (AV.sc (Value.bool false))
    (AV.sc (Value.bool false)) ∧
    True) ∧
    True) ∧
    Sub (AV.sc (Value.bool false)) res ∧ SubOut [] []) from
    ⟨trivial, ⟨trivial, ⟨trivial, ⟨trivial, ⟨⟨rfl, trivial⟩, ⟨trivial, ⟨⟨rfl, trivial⟩, ⟨trivial, ⟨trivial, (And.elim (fun h9 k9 => ⟨(fun x10 => (fun h10 => ⟨trivial, ⟨rfl, ⟨⟨rfl, trivial⟩, ⟨rfl, ⟨trivial, ⟨rfl, ⟨⟨rfl, trivial⟩, ⟨rfl, (And.elim (fun h19 k19 => ⟨(fun x20 => (fun h20 => (fun x21 => (fun h21 => (And.elim (fun h22 k22 => ⟨h22, ((fun h23 => ⟨h23, ⟨rfl, ⟨rfl, trivial⟩⟩⟩) k22)⟩) h21)) (h20 x21))) (h19 x20)), ⟨trivial, ⟨trivial, (And.elim (fun h22 k22 => ⟨(fun x23 => (fun h23 => ⟨trivial, ⟨rfl, ⟨⟨rfl, trivial⟩, ⟨rfl, ⟨trivial, ⟨rfl, ⟨trivial, ⟨rfl, ⟨⟨rfl, trivial⟩, ⟨rfl, ⟨trivial, ⟨rfl, ⟨trivial, ⟨trivial, ⟨trivial, (And.elim (fun h39 k39 => ⟨(fun x40 => (fun h40 => ⟨trivial, ⟨rfl, ⟨⟨rfl, trivial⟩, ⟨rfl, ⟨trivial, ⟨rfl, ⟨⟨rfl, trivial⟩, ⟨rfl, (Exists.elim h40 fun x49 h49 => ⟨x49, (And.elim (fun h50 k50 => ⟨⟨⟨trivial, ⟨trivial, trivial⟩⟩, ⟨trivial, h50⟩⟩, ⟨rfl, ⟨trivial, ⟨trivial, (And.elim (fun h54 k54 => ⟨(fun x55 => (fun h55 => ⟨trivial, ⟨trivial, ⟨⟨⟨trivial, ⟨Sub.refl _, trivial⟩⟩, trivial⟩, ((fun h59 => ⟨h59, trivial⟩) h55)⟩⟩⟩) (h54 x55)), (fun x55 => (fun h55 => ⟨trivial, ⟨⟨⟨trivial, ⟨Sub.refl _, ⟨trivial, ⟨Sub.refl _, ⟨trivial, ⟨Sub.refl _, trivial⟩⟩⟩⟩⟩⟩, ⟨⟨trivial, ⟨trivial, ⟨trivial, ⟨trivial, trivial⟩⟩⟩⟩, ⟨SubB.refl _, ⟨⟨trivial, ⟨trivial, ⟨trivial, ⟨trivial, trivial⟩⟩⟩⟩, ⟨SubB.refl _, trivial⟩⟩⟩⟩⟩, h55⟩⟩) (k54 x55))⟩) k50)⟩⟩⟩⟩) h49)⟩)⟩⟩⟩⟩⟩⟩⟩⟩) (h39 x40)), (fun x40 => (fun h40 => ⟨rfl, ⟨rfl, ⟨rfl, ⟨rfl, ⟨rfl, ⟨rfl, ⟨rfl, ⟨rfl, ⟨rfl, ⟨rfl, ⟨rfl, ⟨trivial, ⟨rfl, ⟨trivial, ⟨trivial, ⟨⟨⟨trivial, ⟨Sub.refl _, trivial⟩⟩, trivial⟩, ((fun h57 => ⟨h57, trivial⟩) h40)⟩⟩⟩⟩⟩⟩⟩⟩⟩⟩⟩⟩⟩⟩⟩⟩) (k39 x40))⟩) h23)⟩⟩⟩⟩⟩⟩⟩⟩⟩⟩⟩⟩⟩⟩⟩) (h22 x23)), (fun x23 => (fun h23 => ⟨rfl, ⟨rfl, ⟨rfl, ⟨rfl, ⟨rfl, ⟨rfl, ⟨rfl, ⟨rfl, ⟨rfl, ⟨rfl, ⟨rfl, ⟨rfl, ⟨rfl, ⟨trivial, ⟨trivial, ⟨rfl, ⟨rfl, ⟨rfl, ⟨rfl, ⟨rfl, ⟨rfl, ⟨rfl, ⟨rfl, ⟨rfl, ⟨rfl, ⟨rfl, ⟨rfl, ⟨trivial, ⟨rfl, ⟨trivial, ⟨trivial, ⟨⟨⟨trivial, ⟨Sub.refl _, trivial⟩⟩, trivial⟩, ((fun h56 => ⟨h56, trivial⟩) h23)⟩⟩⟩⟩⟩⟩⟩⟩⟩⟩⟩⟩⟩⟩⟩⟩⟩⟩⟩⟩⟩⟩⟩⟩⟩⟩⟩⟩⟩⟩⟩⟩) (k22 x23))⟩) k19)⟩⟩⟩) h10)⟩⟩⟩⟩⟩⟩⟩⟩) (h9 x10)), (fun x10 => (fun h10 => ⟨rfl, ⟨rfl, ⟨rfl, ⟨rfl, ⟨rfl, ⟨rfl, ⟨rfl, ⟨rfl, ⟨rfl, ⟨trivial, ⟨trivial, ⟨rfl, ⟨rfl, ⟨rfl, ⟨rfl, ⟨rfl, ⟨rfl, ⟨rfl, ⟨rfl, ⟨rfl, ⟨rfl, ⟨rfl, ⟨rfl, ⟨rfl, ⟨rfl, ⟨trivial, ⟨trivial, ⟨rfl, ⟨rfl, ⟨rfl, ⟨rfl, ⟨rfl, ⟨rfl, ⟨rfl, ⟨rfl, ⟨rfl, ⟨rfl, ⟨rfl, ⟨rfl, ⟨trivial, ⟨rfl, ⟨trivial, ⟨trivial, ⟨⟨⟨trivial, ⟨Sub.refl _, trivial⟩⟩, trivial⟩, ((fun h55 => ⟨h55, trivial⟩) h10)⟩⟩⟩⟩⟩⟩⟩⟩⟩⟩⟩⟩⟩⟩⟩⟩⟩⟩⟩⟩⟩⟩⟩⟩⟩⟩⟩⟩⟩⟩⟩⟩⟩⟩⟩⟩⟩⟩⟩⟩⟩⟩⟩⟩) (k9 x10))⟩) h)⟩⟩⟩⟩⟩⟩⟩⟩⟩)
theorem r58_0 (i : Int) (b0a : Int) (b0baf : Nat → Int) (b0bban : Nat) (b0bbafn : Nat → Nat) (b0bbaff : Nat → Nat → Int) (b0bbban : Nat) (b0bbbaf : Nat → Int) (b1a : Int) (b1baf : Nat → Int) (b1bban : Nat) (b1bbafn : Nat → Nat) (b1bbaff : Nat → Nat → Int) (b1bbban : Nat) (b1bbbaf : Nat → Int) (res : AV)
    (h : (decide (i < (↑b0bban : Int)) = true →
    ((0 : Int) ≤ i ∧ i < (↑b0bban : Int)) ∧
    ((0 : Int) ≤ i ∧ i < (↑b1bban : Int)) ∧
    ∃ (r : Bool),
    Ok Proofs.Try.prog (60 : Nat)
    [AV.vec true (1 : Nat) (b0bbafn i.toNat) (b0bbafn i.toNat) fun (i_1 : Nat) => AV.sc (Value.int IntKind.i64 (b0bbaff i.toNat i_1)),
    AV.vec true (1 : Nat) (b1bbafn i.toNat) (b1bbafn i.toNat) fun (i_1 : Nat) => AV.sc (Value.int IntKind.i64 (b1bbaff i.toNat i_1))]
    [] (AV.sc (Value.bool r)) [] ∧
    ((!r) = true → Sub (AV.sc (Value.bool false)) res) ∧
    ((!r) = false →
    L58_0 (IntKind.i64.wrap (i + (1 : Int))) b0a b0baf b0bban b0bbafn b0bbaff b0bbban b0bbbaf b1a b1baf b1bban b1bbafn b1bbaff b1bbban b1bbbaf
    res)) ∧
  (decide (i < (↑b0bban : Int)) = false → Sub (AV.sc (Value.bool true)) res)) :
    L58_0 i b0a b0baf b0bban b0bbafn b0bbaff b0bbban b0bbbaf b1a b1baf b1bban b1bbafn b1bbaff b1bbban b1bbbaf res :=
  rule Go.Am.Seat.tabOk 58 [] Go.Proofs.Try.f58 hf58 [1, 1, 0, 1, 0, 0] (s58_0 i b0a b0baf b0bban b0bbafn b0bbaff b0bbban b0bbbaf b1a b1baf b1bban b1bbafn b1bbaff b1bbban b1bbbaf) (m58_0 i b0a b0baf b0bban b0bbafn b0bbaff b0bbban b0bbbaf b1a b1baf b1bban b1bbafn b1bbaff b1bbban b1bbbaf) res [] 400
    ((Orc.call [] [] (fun (r60 : Bool) => AV.sc (Value.bool r60)) (fun (r60 : Bool) => []) fun (r60 : Bool) =>
    (Orc.fin (AV.sc (Value.bool false)) [] []).br
    (Orc.cut (nat_lit 4)
    (s58_0 (IntKind.i64.wrap (i + (1 : Int))) b0a b0baf b0bban b0bbafn b0bbaff b0bbban b0bbbaf b1a b1baf b1bban b1bbafn b1bbaff b1bbban b1bbbaf)
    (m58_0 (IntKind.i64.wrap (i + (1 : Int))) b0a b0baf b0bban b0bbafn b0bbaff b0bbban b0bbbaf b1a b1baf b1bban b1bbafn b1bbaff b1bbban b1bbbaf)
    [((1000 : Nat), some (1000 : Nat)), ((1001 : Nat), some (1001 : Nat))])).br
  (Orc.fin (AV.sc (Value.bool true)) [] [])) _ _ (by kernel_rfl) (by kernel_rfl) (show True ∧
  True ∧
    ((1 : Nat) + ((256 : Nat) + (0 : Nat)) = plus (0 : Nat) (257 : Nat) ∧ True) ∧
    True ∧
    True ∧
    (decide (i < (↑b0bban : Int)) = true →
    True ∧
    ((1 : Nat) + ((256 : Nat) + (0 : Nat)) = plus (0 : Nat) (257 : Nat) ∧ True) ∧
    True ∧
    ((0 : Int) ≤ i ∧ i < (↑b0bban : Int)) ∧
    True ∧
    True ∧
    ((1 : Nat) + ((256 : Nat) + (0 : Nat)) = plus (0 : Nat) (257 : Nat) ∧ True) ∧
    True ∧
    ((0 : Int) ≤ i ∧ i < (↑b1bban : Int)) ∧
    True ∧
    ∃ (r : Bool),
    ((True ∧ True ∧ True) ∧
    True ∧
    Ok Proofs.Try.prog (60 : Nat)
    [AV.vec true (1 : Nat) (b0bbafn i.toNat) (b0bbafn i.toNat) fun (i_1 : Nat) =>
    AV.sc (Value.int IntKind.i64 (b0bbaff i.toNat i_1)),
    AV.vec true (1 : Nat) (b1bbafn i.toNat) (b1bbafn i.toNat) fun (i_1 : Nat) =>
    AV.sc (Value.int IntKind.i64 (b1bbaff i.toNat i_1))]
    [] (AV.sc (Value.bool r)) []) ∧
    True ∧
    ((!r) = true →
    True ∧
    True ∧
    ((True ∧ Sub (AV.sc (Value.bool false)) (AV.sc (Value.bool false)) ∧ True) ∧ True) ∧
    Sub (AV.sc (Value.bool false)) res ∧ SubOut [] []) ∧
    ((!r) = false →
    True ∧
    True ∧
    True ∧
    ((True ∧
    Sub (AV.pt (1000 : Nat) [] (0 : Nat)) (AV.pt (1000 : Nat) [] (0 : Nat)) ∧
    True ∧
    Sub (AV.pt (1001 : Nat) [] (0 : Nat)) (AV.pt (1001 : Nat) [] (0 : Nat)) ∧
    True ∧
    Sub (AV.sc (Value.int IntKind.i64 (IntKind.i64.wrap (i + (1 : Int)))))
    (AV.sc (Value.int IntKind.i64 (IntKind.i64.wrap (i + (1 : Int))))) ∧
    True) ∧
    (True ∧ True ∧ True ∧ True ∧ True) ∧
    SubB
    (AV.cons (1 : Nat) (AV.sc (Value.int IntKind.i64 b0a))
    (AV.cons (256 : Nat)
    (AV.ar (256 : Nat) (1 : Nat) fun (i0 : Nat) => AV.sc (Value.int IntKind.u8 (b0baf i0)))
    (AV.cons (1 : Nat)
    (AV.vec true (1 : Nat) b0bban b0bban fun (i0 : Nat) =>
    AV.vec true (1 : Nat) (b0bbafn i0) (b0bbafn i0) fun (i1 : Nat) =>
    AV.sc (Value.int IntKind.i64 (b0bbaff i0 i1)))
    (AV.cons (1 : Nat)
    (AV.vec true (1 : Nat) b0bbban b0bbban fun (i0 : Nat) =>
    AV.sc (Value.int IntKind.i64 (b0bbbaf i0)))
    AV.nil))))
    (AV.cons (1 : Nat) (AV.sc (Value.int IntKind.i64 b0a))
    (AV.cons (256 : Nat)
    (AV.ar (256 : Nat) (1 : Nat) fun (i0 : Nat) => AV.sc (Value.int IntKind.u8 (b0baf i0)))
    (AV.cons (1 : Nat)
    (AV.vec true (1 : Nat) b0bban b0bban fun (i0 : Nat) =>
    AV.vec true (1 : Nat) (b0bbafn i0) (b0bbafn i0) fun (i1 : Nat) =>
    AV.sc (Value.int IntKind.i64 (b0bbaff i0 i1)))
    (AV.cons (1 : Nat)
    (AV.vec true (1 : Nat) b0bbban b0bbban fun (i0 : Nat) =>
    AV.sc (Value.int IntKind.i64 (b0bbbaf i0)))
    AV.nil)))) ∧
    (True ∧ True ∧ True ∧ True ∧ True) ∧
    SubB
    (AV.cons (1 : Nat) (AV.sc (Value.int IntKind.i64 b1a))
    (AV.cons (256 : Nat)
    (AV.ar (256 : Nat) (1 : Nat) fun (i0 : Nat) => AV.sc (Value.int IntKind.u8 (b1baf i0)))
    (AV.cons (1 : Nat)
    (AV.vec true (1 : Nat) b1bban b1bban fun (i0 : Nat) =>
    AV.vec true (1 : Nat) (b1bbafn i0) (b1bbafn i0) fun (i1 : Nat) =>
    AV.sc (Value.int IntKind.i64 (b1bbaff i0 i1)))
    (AV.cons (1 : Nat)
    (AV.vec true (1 : Nat) b1bbban b1bbban fun (i0 : Nat) =>
    AV.sc (Value.int IntKind.i64 (b1bbbaf i0)))
    AV.nil))))
    (AV.cons (1 : Nat) (AV.sc (Value.int IntKind.i64 b1a))
    (AV.cons (256 : Nat)
    (AV.ar (256 : Nat) (1 : Nat) fun (i0 : Nat) => AV.sc (Value.int IntKind.u8 (b1baf i0)))
    (AV.cons (1 : Nat)
    (AV.vec true (1 : Nat) b1bban b1bban fun (i0 : Nat) =>
    AV.vec true (1 : Nat) (b1bbafn i0) (b1bbafn i0) fun (i1 : Nat) =>
    AV.sc (Value.int IntKind.i64 (b1bbaff i0 i1)))
    (AV.cons (1 : Nat)
    (AV.vec true (1 : Nat) b1bbban b1bbban fun (i0 : Nat) =>
    AV.sc (Value.int IntKind.i64 (b1bbbaf i0)))
    AV.nil)))) ∧
    True) ∧
    L58_0 (IntKind.i64.wrap (i + (1 : Int))) b0a b0baf b0bban b0bbafn b0bbaff b0bbban b0bbbaf b1a b1baf b1bban
    b1bbafn b1bbaff b1bbban b1bbbaf res)) ∧
    (decide (i < (↑b0bban : Int)) = false →
    True ∧ True ∧ ((True ∧ Sub (AV.sc (Value.bool true)) (AV.sc (Value.bool true)) ∧ True) ∧ True) ∧ Sub (AV.sc (Value.bool true)) res ∧ SubOut [] []) from
    ⟨trivial, ⟨trivial, ⟨⟨rfl, trivial⟩, ⟨trivial, ⟨trivial, (And.elim (fun h5 k5 => ⟨(fun x6 => (fun h6 => ⟨trivial, ⟨⟨rfl, trivial⟩, ⟨trivial, (And.elim (fun h10 k10 => ⟨(And.elim (fun h11 k11 => ⟨h11, k11⟩) h10), ⟨trivial, ⟨trivial, ⟨⟨rfl, trivial⟩, ⟨trivial, (And.elim (fun h15 k15 => ⟨(And.elim (fun h16 k16 => ⟨h16, k16⟩) h15), ⟨trivial, (Exists.elim k15 fun x17 h17 => ⟨x17, (And.elim (fun h18 k18 => ⟨⟨⟨trivial, ⟨trivial, trivial⟩⟩, ⟨trivial, h18⟩⟩, ⟨trivial, (And.elim (fun h20 k20 => ⟨(fun x21 => (fun h21 => ⟨trivial, ⟨trivial, ⟨⟨⟨trivial, ⟨Sub.refl _, trivial⟩⟩, trivial⟩, ((fun h25 => ⟨h25, trivial⟩) h21)⟩⟩⟩) (h20 x21)), (fun x21 => (fun h21 => ⟨trivial, ⟨trivial, ⟨trivial, ⟨⟨⟨trivial, ⟨Sub.refl _, ⟨trivial, ⟨Sub.refl _, ⟨trivial, ⟨Sub.refl _, trivial⟩⟩⟩⟩⟩⟩, ⟨⟨trivial, ⟨trivial, ⟨trivial, ⟨trivial, trivial⟩⟩⟩⟩, ⟨SubB.refl _, ⟨⟨trivial, ⟨trivial, ⟨trivial, ⟨trivial, trivial⟩⟩⟩⟩, ⟨SubB.refl _, trivial⟩⟩⟩⟩⟩, h21⟩⟩⟩⟩) (k20 x21))⟩) k18)⟩⟩) h17)⟩)⟩⟩) k10)⟩⟩⟩⟩⟩) h6)⟩⟩⟩) (h5 x6)), (fun x6 => (fun h6 => ⟨trivial, ⟨trivial, ⟨⟨⟨trivial, ⟨Sub.refl _, trivial⟩⟩, trivial⟩, ((fun h10 => ⟨h10, trivial⟩) h6)⟩⟩⟩) (k5 x6))⟩) h)⟩⟩⟩⟩⟩)
end Go.Am.Seat
