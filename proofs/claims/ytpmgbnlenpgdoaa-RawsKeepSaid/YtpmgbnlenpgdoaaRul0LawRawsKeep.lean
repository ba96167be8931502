/- The rules of 7 functions: from what is owed at each place of a function the function goes on as it is told there. Printed by a program of this seat; Lean checks each. -/
import Derived.Test.YtpmgbnlenpgdoaaAmZ2
import Derived.Test.YtpmgbnlenpgdoaaTab
open Go Go.Am Go.Am.Seat
namespace Go.Am.Seat
set_option linter.unusedVariables false
set_option maxRecDepth 100000
theorem hf5 : Go.Proofs.Try.prog.funcs[5]? = some Go.Proofs.Try.f5 := by kernel_rfl
abbrev s5_e (rulesn : Nat) (rulesfa : Nat → Int) (rulesfbaa : Nat → Int) (rulesfbabaf : Nat → Nat → Int) (da : Int) (dbaf : Nat → Int) (dbban : Nat) (dbbafn : Nat → Nat) (dbbaff : Nat → Nat → Int) (dbbban : Nat) (dbbbaf : Nat → Int) (text : ByteArray) : List (Nat × AV) := [(0, (.vec true 7 rulesn rulesn (fun i0 => (.cons 1 (.sc (.int .i64 (rulesfa i0))) (.cons 6 (.cons 1 (.sc (.int .i64 (rulesfbaa i0))) (.cons 4 (.ar 4 1 (fun i1 => (.sc (.int .u64 (rulesfbabaf i0 i1))))) (.cons 1 .undef .nil))) .nil))))), (1, (.cons 1 (.sc (.int .i64 da)) (.cons 256 (.ar 256 1 (fun i0 => (.sc (.int .u8 (dbaf i0))))) (.cons 1 (.vec true 1 dbban dbban (fun i0 => (.vec true 1 (dbbafn i0) (dbbafn i0) (fun i1 => (.sc (.int .i64 (dbbaff i0 i1))))))) (.cons 1 (.vec true 1 dbbban dbbban (fun i0 => (.sc (.int .i64 (dbbbaf i0))))) .nil))))), (2, (.sc (.string text)))]
abbrev m5_e (rulesn : Nat) (rulesfa : Nat → Int) (rulesfbaa : Nat → Int) (rulesfbabaf : Nat → Nat → Int) (da : Int) (dbaf : Nat → Int) (dbban : Nat) (dbbafn : Nat → Nat) (dbbaff : Nat → Nat → Int) (dbbban : Nat) (dbbbaf : Nat → Int) (text : ByteArray) : List (Nat × Nat × AV) := []
def L5_e (rulesn : Nat) (rulesfa : Nat → Int) (rulesfbaa : Nat → Int) (rulesfbabaf : Nat → Nat → Int) (da : Int) (dbaf : Nat → Int) (dbban : Nat) (dbbafn : Nat → Nat) (dbbaff : Nat → Nat → Int) (dbbban : Nat) (dbbbaf : Nat → Int) (text : ByteArray) (res : AV) : Prop := Goes ⟨Go.Proofs.Try.prog, 5, [], res, []⟩ (place Go.Proofs.Try.f5 []) (s5_e rulesn rulesfa rulesfbaa rulesfbabaf da dbaf dbban dbbafn dbbaff dbbban dbbbaf text) (m5_e rulesn rulesfa rulesfbaa rulesfbabaf da dbaf dbban dbbafn dbbaff dbbban dbbbaf text)
theorem a5_e (rulesn : Nat) (rulesfa : Nat → Int) (rulesfbaa : Nat → Int) (rulesfbabaf : Nat → Nat → Int) (da : Int) (dbaf : Nat → Int) (dbban : Nat) (dbbafn : Nat → Nat) (dbbaff : Nat → Nat → Int) (dbbban : Nat) (dbbbaf : Nat → Int) (text : ByteArray) (res : AV) (h : (∀ slot, fact (look .undef (s5_e rulesn rulesfa rulesfbaa rulesfbabaf da dbaf dbban dbbafn dbbaff dbbban dbbbaf text) slot)) → L5_e rulesn rulesfa rulesfbaa rulesfbabaf da dbaf dbban dbbafn dbbaff dbbban dbbbaf text res) : L5_e rulesn rulesfa rulesfbaa rulesfbabaf da dbaf dbban dbbafn dbbaff dbbban dbbbaf text res :=
  assumeRule 5 [] Go.Proofs.Try.f5 hf5 [] (s5_e rulesn rulesfa rulesfbaa rulesfbabaf da dbaf dbban dbbafn dbbaff dbbban dbbbaf text) (m5_e rulesn rulesfa rulesfbaa rulesfbabaf da dbaf dbban dbbafn dbbaff dbbban dbbbaf text) res [] _ (by kernel_rfl) h
abbrev s5_0 (rulesn : Nat) (rulesfa : Nat → Int) (rulesfbaa : Nat → Int) (rulesfbabaf : Nat → Nat → Int) (text : ByteArray) (ln : Nat) (lfa : Nat → Int) (lfba : Nat → Int) (lfbba : Nat → Int) (at_ : Int) (i : Int) (b0a : Int) (b0baf : Nat → Int) (b0bban : Nat) (b0bbafn : Nat → Nat) (b0bbaff : Nat → Nat → Int) (b0bbban : Nat) (b0bbbaf : Nat → Int) : List (Nat × AV) := [(0, (.vec true 7 rulesn rulesn (fun i0 => (.cons 1 (.sc (.int .i64 (rulesfa i0))) (.cons 6 (.cons 1 (.sc (.int .i64 (rulesfbaa i0))) (.cons 4 (.ar 4 1 (fun i1 => (.sc (.int .u64 (rulesfbabaf i0 i1))))) (.cons 1 .undef .nil))) .nil))))), (2, (.sc (.string text))), (4, (.pt 1000 [] 0)), (7, (.vec false 3 ln ln (fun i0 => (.cons 1 (.sc (.int .i64 (lfa i0))) (.cons 1 (.sc (.int .i64 (lfba i0))) (.cons 1 (.sc (.int .i64 (lfbba i0))) .nil)))))), (9, (.sc (.int .i64 at_))), (10, (.sc (.int .i64 i)))]
abbrev m5_0 (rulesn : Nat) (rulesfa : Nat → Int) (rulesfbaa : Nat → Int) (rulesfbabaf : Nat → Nat → Int) (text : ByteArray) (ln : Nat) (lfa : Nat → Int) (lfba : Nat → Int) (lfbba : Nat → Int) (at_ : Int) (i : Int) (b0a : Int) (b0baf : Nat → Int) (b0bban : Nat) (b0bbafn : Nat → Nat) (b0bbaff : Nat → Nat → Int) (b0bbban : Nat) (b0bbbaf : Nat → Int) : List (Nat × Nat × AV) := [(1000, 26, (.cons 1 (.sc (.int .i64 b0a)) (.cons 256 (.ar 256 1 (fun i0 => (.sc (.int .u8 (b0baf i0))))) (.cons 1 (.vec true 1 b0bban b0bban (fun i0 => (.vec true 1 (b0bbafn i0) (b0bbafn i0) (fun i1 => (.sc (.int .i64 (b0bbaff i0 i1))))))) (.cons 1 (.vec true 1 b0bbban b0bbban (fun i0 => (.sc (.int .i64 (b0bbbaf i0))))) .nil)))))]
def L5_0 (rulesn : Nat) (rulesfa : Nat → Int) (rulesfbaa : Nat → Int) (rulesfbabaf : Nat → Nat → Int) (text : ByteArray) (ln : Nat) (lfa : Nat → Int) (lfba : Nat → Int) (lfbba : Nat → Int) (at_ : Int) (i : Int) (b0a : Int) (b0baf : Nat → Int) (b0bban : Nat) (b0bbafn : Nat → Nat) (b0bbaff : Nat → Nat → Int) (b0bbban : Nat) (b0bbbaf : Nat → Int) (res : AV) : Prop := Goes ⟨Go.Proofs.Try.prog, 5, [], res, []⟩ (place Go.Proofs.Try.f5 [1, 1, 1, 1, 1, 0, 1, 0, 0]) (s5_0 rulesn rulesfa rulesfbaa rulesfbabaf text ln lfa lfba lfbba at_ i b0a b0baf b0bban b0bbafn b0bbaff b0bbban b0bbbaf) (m5_0 rulesn rulesfa rulesfbaa rulesfbabaf text ln lfa lfba lfbba at_ i b0a b0baf b0bban b0bbafn b0bbaff b0bbban b0bbbaf)
theorem a5_0 (rulesn : Nat) (rulesfa : Nat → Int) (rulesfbaa : Nat → Int) (rulesfbabaf : Nat → Nat → Int) (text : ByteArray) (ln : Nat) (lfa : Nat → Int) (lfba : Nat → Int) (lfbba : Nat → Int) (at_ : Int) (i : Int) (b0a : Int) (b0baf : Nat → Int) (b0bban : Nat) (b0bbafn : Nat → Nat) (b0bbaff : Nat → Nat → Int) (b0bbban : Nat) (b0bbbaf : Nat → Int) (res : AV) (h : (∀ slot, fact (look .undef (s5_0 rulesn rulesfa rulesfbaa rulesfbabaf text ln lfa lfba lfbba at_ i b0a b0baf b0bban b0bbafn b0bbaff b0bbban b0bbbaf) slot)) → L5_0 rulesn rulesfa rulesfbaa rulesfbabaf text ln lfa lfba lfbba at_ i b0a b0baf b0bban b0bbafn b0bbaff b0bbban b0bbbaf res) : L5_0 rulesn rulesfa rulesfbaa rulesfbabaf text ln lfa lfba lfbba at_ i b0a b0baf b0bban b0bbafn b0bbaff b0bbban b0bbbaf res :=
  assumeRule 5 [] Go.Proofs.Try.f5 hf5 [1, 1, 1, 1, 1, 0, 1, 0, 0] (s5_0 rulesn rulesfa rulesfbaa rulesfbabaf text ln lfa lfba lfbba at_ i b0a b0baf b0bban b0bbafn b0bbaff b0bbban b0bbbaf) (m5_0 rulesn rulesfa rulesfbaa rulesfbabaf text ln lfa lfba lfbba at_ i b0a b0baf b0bban b0bbafn b0bbaff b0bbban b0bbbaf) res [] _ (by kernel_rfl) h
theorem o5 (rulesn : Nat) (rulesfa : Nat → Int) (rulesfbaa : Nat → Int) (rulesfbabaf : Nat → Nat → Int) (da : Int) (dbaf : Nat → Int) (dbban : Nat) (dbbafn : Nat → Nat) (dbbaff : Nat → Nat → Int) (dbbban : Nat) (dbbbaf : Nat → Int) (text : ByteArray) (res : AV) (hnew : newOnly res) (h : L5_e rulesn rulesfa rulesfbaa rulesfbabaf da dbaf dbban dbbafn dbbaff dbbban dbbbaf text res) : Ok Go.Proofs.Try.prog 5 [(.vec true 7 rulesn rulesn (fun i0 => (.cons 1 (.sc (.int .i64 (rulesfa i0))) (.cons 6 (.cons 1 (.sc (.int .i64 (rulesfbaa i0))) (.cons 4 (.ar 4 1 (fun i1 => (.sc (.int .u64 (rulesfbabaf i0 i1))))) (.cons 1 .undef .nil))) .nil)))), (.cons 1 (.sc (.int .i64 da)) (.cons 256 (.ar 256 1 (fun i0 => (.sc (.int .u8 (dbaf i0))))) (.cons 1 (.vec true 1 dbban dbban (fun i0 => (.vec true 1 (dbbafn i0) (dbbafn i0) (fun i1 => (.sc (.int .i64 (dbbaff i0 i1))))))) (.cons 1 (.vec true 1 dbbban dbbban (fun i0 => (.sc (.int .i64 (dbbbaf i0))))) .nil)))), (.sc (.string text))] [] res [] :=
  okRule2 5 Go.Proofs.Try.f5 hf5 [(.vec true 7 rulesn rulesn (fun i0 => (.cons 1 (.sc (.int .i64 (rulesfa i0))) (.cons 6 (.cons 1 (.sc (.int .i64 (rulesfbaa i0))) (.cons 4 (.ar 4 1 (fun i1 => (.sc (.int .u64 (rulesfbabaf i0 i1))))) (.cons 1 .undef .nil))) .nil)))), (.cons 1 (.sc (.int .i64 da)) (.cons 256 (.ar 256 1 (fun i0 => (.sc (.int .u8 (dbaf i0))))) (.cons 1 (.vec true 1 dbban dbban (fun i0 => (.vec true 1 (dbbafn i0) (dbbafn i0) (fun i1 => (.sc (.int .i64 (dbbaff i0 i1))))))) (.cons 1 (.vec true 1 dbbban dbbban (fun i0 => (.sc (.int .i64 (dbbbaf i0))))) .nil)))), (.sc (.string text))] [] res [] [] rfl (by kernel_rfl) (by kernel_rfl) (by kernel_rfl) ⟨hnew, by simp⟩ (L5_e rulesn rulesfa rulesfbaa rulesfbabaf da dbaf dbban dbbafn dbbaff dbbban dbbbaf text res) (by kernel_rfl) h
theorem r5_e (rulesn : Nat) (rulesfa : Nat → Int) (rulesfbaa : Nat → Int) (rulesfbabaf : Nat → Nat → Int) (da : Int) (dbaf : Nat → Int) (dbban : Nat) (dbbafn : Nat → Nat) (dbbaff : Nat → Nat → Int) (dbbban : Nat) (dbbbaf : Nat → Int) (text : ByteArray) (res : AV)
    (h : ∃ (r : Bool),
  Ok Proofs.Try.prog (28 : Nat)
    [AV.vec true (7 : Nat) rulesn rulesn fun (i : Nat) =>
    AV.cons (1 : Nat) (AV.sc (Value.int IntKind.i64 (rulesfa i)))
    (AV.cons (6 : Nat)
    (AV.cons (1 : Nat) (AV.sc (Value.int IntKind.i64 (rulesfbaa i)))
    (AV.cons (4 : Nat) (AV.ar (4 : Nat) (1 : Nat) fun (i_1 : Nat) => AV.sc (Value.int IntKind.u64 (rulesfbabaf i i_1)))
    (AV.cons (1 : Nat) AV.undef AV.nil)))
    AV.nil),
    AV.cons (1 : Nat) (AV.sc (Value.int IntKind.i64 da))
    (AV.cons (256 : Nat) (AV.ar (256 : Nat) (1 : Nat) fun (i : Nat) => AV.sc (Value.int IntKind.u8 (dbaf i)))
    (AV.cons (1 : Nat)
    (AV.vec true (1 : Nat) dbban dbban fun (i : Nat) =>
    AV.vec true (1 : Nat) (dbbafn i) (dbbafn i) fun (i_1 : Nat) => AV.sc (Value.int IntKind.i64 (dbbaff i i_1)))
    (AV.cons (1 : Nat) (AV.vec true (1 : Nat) dbbban dbbban fun (i : Nat) => AV.sc (Value.int IntKind.i64 (dbbbaf i))) AV.nil))),
    AV.sc (Value.string text)]
    [] (AV.sc (Value.bool r)) [] ∧
    ((!r) = true → Sub (AV.sc (Value.bool true)) res) ∧
    ((!r) = false →
    ∃ (r : Nat × (Nat → Int) × (Nat → Int) × (Nat → Int) × Int),
    Ok Proofs.Try.prog (23 : Nat)
    [AV.vec true (7 : Nat) rulesn rulesn fun (i : Nat) =>
    AV.cons (1 : Nat) (AV.sc (Value.int IntKind.i64 (rulesfa i)))
    (AV.cons (6 : Nat)
    (AV.cons (1 : Nat) (AV.sc (Value.int IntKind.i64 (rulesfbaa i)))
    (AV.cons (4 : Nat) (AV.ar (4 : Nat) (1 : Nat) fun (i_1 : Nat) => AV.sc (Value.int IntKind.u64 (rulesfbabaf i i_1)))
    (AV.cons (1 : Nat) AV.undef AV.nil)))
    AV.nil),
    AV.cons (1 : Nat) (AV.sc (Value.int IntKind.i64 da))
    (AV.cons (256 : Nat) (AV.ar (256 : Nat) (1 : Nat) fun (i : Nat) => AV.sc (Value.int IntKind.u8 (dbaf i)))
    (AV.cons (1 : Nat)
    (AV.vec true (1 : Nat) dbban dbban fun (i : Nat) =>
    AV.vec true (1 : Nat) (dbbafn i) (dbbafn i) fun (i_1 : Nat) => AV.sc (Value.int IntKind.i64 (dbbaff i i_1)))
    (AV.cons (1 : Nat) (AV.vec true (1 : Nat) dbbban dbbban fun (i : Nat) => AV.sc (Value.int IntKind.i64 (dbbbaf i))) AV.nil))),
    AV.sc (Value.string text)]
    []
    (AV.cons (1 : Nat)
    (AV.vec false (3 : Nat) r.fst r.fst fun (i0 : Nat) =>
    AV.cons (1 : Nat) (AV.sc (Value.int IntKind.i64 (r.snd.fst i0)))
    (AV.cons (1 : Nat) (AV.sc (Value.int IntKind.i64 (r.snd.snd.fst i0)))
    (AV.cons (1 : Nat) (AV.sc (Value.int IntKind.i64 (r.snd.snd.snd.fst i0))) AV.nil)))
    (AV.cons (1 : Nat) (AV.sc (Value.int IntKind.i64 r.snd.snd.snd.snd)) AV.nil)).tup
    [] ∧
    ((r.snd.snd.snd.snd != (0 : Int)) = true →
    ∃ (r : Bool), Ok Proofs.Try.prog (27 : Nat) [] [] (AV.sc (Value.bool r)) [] ∧ Sub (AV.sc (Value.bool r)) res) ∧
    ((r.snd.snd.snd.snd != (0 : Int)) = false →
    L5_0 rulesn rulesfa rulesfbaa rulesfbabaf text r.fst r.snd.fst r.snd.snd.fst r.snd.snd.snd.fst (0 : Int) (0 : Int) da dbaf dbban dbbafn dbbaff
    dbbban dbbbaf res))) :
    L5_e rulesn rulesfa rulesfbaa rulesfbabaf da dbaf dbban dbbafn dbbaff dbbban dbbbaf text res :=
  rule Go.Am.Seat.tabOk 5 [] Go.Proofs.Try.f5 hf5 [] (s5_e rulesn rulesfa rulesfbaa rulesfbabaf da dbaf dbban dbbafn dbbaff dbbban dbbbaf text) (m5_e rulesn rulesfa rulesfbaa rulesfbabaf da dbaf dbban dbbafn dbbaff dbbban dbbbaf text) res [] 400
    (Orc.call [] [] (fun (r28 : Bool) => AV.sc (Value.bool r28)) (fun (r28 : Bool) => []) fun (r28 : Bool) =>
  (Orc.fin (AV.sc (Value.bool true)) [] []).br
    (Orc.call [] []
    (fun (r23 : Nat × (Nat → Int) × (Nat → Int) × (Nat → Int) × Int) =>
    (AV.cons (1 : Nat)
    (AV.vec false (3 : Nat) r23.fst r23.fst fun (i0 : Nat) =>
    AV.cons (1 : Nat) (AV.sc (Value.int IntKind.i64 (r23.snd.fst i0)))
    (AV.cons (1 : Nat) (AV.sc (Value.int IntKind.i64 (r23.snd.snd.fst i0)))
    (AV.cons (1 : Nat) (AV.sc (Value.int IntKind.i64 (r23.snd.snd.snd.fst i0))) AV.nil)))
    (AV.cons (1 : Nat) (AV.sc (Value.int IntKind.i64 r23.snd.snd.snd.snd)) AV.nil)).tup)
    (fun (r23 : Nat × (Nat → Int) × (Nat → Int) × (Nat → Int) × Int) => []) fun (r23 : Nat × (Nat → Int) × (Nat → Int) × (Nat → Int) × Int) =>
    (Orc.call [] [] (fun (r27 : Bool) => AV.sc (Value.bool r27)) (fun (r27 : Bool) => []) fun (r27 : Bool) => Orc.fin (AV.sc (Value.bool r27)) [] []).br
    (Orc.cut (nat_lit 8)
    (s5_0 rulesn rulesfa rulesfbaa rulesfbabaf text r23.fst r23.snd.fst r23.snd.snd.fst r23.snd.snd.snd.fst (0 : Int) (0 : Int) da dbaf dbban dbbafn
    dbbaff dbbban dbbbaf)
    (m5_0 rulesn rulesfa rulesfbaa rulesfbabaf text r23.fst r23.snd.fst r23.snd.snd.fst r23.snd.snd.snd.fst (0 : Int) (0 : Int) da dbaf dbban dbbafn
    dbbaff dbbban dbbbaf)
    [((1000 : Nat), some (4 : Nat))]))) _ _ (by kernel_rfl) (by kernel_rfl) (show True ∧
  True ∧
    True ∧
    ((0 : Nat) = (0 : Nat) ∧ True) ∧
    True ∧
    ∃ (r : Bool),
    ((True ∧ (True ∧ True ∧ True ∧ True ∧ True) ∧ True ∧ True) ∧
    True ∧
    Ok Proofs.Try.prog (28 : Nat)
    [AV.vec true (7 : Nat) rulesn rulesn fun (i : Nat) =>
    AV.cons (1 : Nat) (AV.sc (Value.int IntKind.i64 (rulesfa i)))
    (AV.cons (6 : Nat)
    (AV.cons (1 : Nat) (AV.sc (Value.int IntKind.i64 (rulesfbaa i)))
    (AV.cons (4 : Nat) (AV.ar (4 : Nat) (1 : Nat) fun (i_1 : Nat) => AV.sc (Value.int IntKind.u64 (rulesfbabaf i i_1)))
    (AV.cons (1 : Nat) AV.undef AV.nil)))
    AV.nil),
    AV.cons (1 : Nat) (AV.sc (Value.int IntKind.i64 da))
    (AV.cons (256 : Nat) (AV.ar (256 : Nat) (1 : Nat) fun (i : Nat) => AV.sc (Value.int IntKind.u8 (dbaf i)))
    (AV.cons (1 : Nat)
    (AV.vec true (1 : Nat) dbban dbban fun (i : Nat) =>
    AV.vec true (1 : Nat) (dbbafn i) (dbbafn i) fun (i_1 : Nat) => AV.sc (Value.int IntKind.i64 (dbbaff i i_1)))
    (AV.cons (1 : Nat) (AV.vec true (1 : Nat) dbbban dbbban fun (i : Nat) => AV.sc (Value.int IntKind.i64 (dbbbaf i))) AV.nil))),
    AV.sc (Value.string text)]
    [] (AV.sc (Value.bool r)) []) ∧
    True ∧
    ((!r) = true →
    True ∧
    True ∧
    ((True ∧ Sub (AV.sc (Value.bool true)) (AV.sc (Value.bool true)) ∧ True) ∧ True) ∧ Sub (AV.sc (Value.bool true)) res ∧ SubOut [] []) ∧
    ((!r) = false →
    True ∧
    ((0 : Nat) = (0 : Nat) ∧ True) ∧
    True ∧
    ∃ (r : Nat × (Nat → Int) × (Nat → Int) × (Nat → Int) × Int),
    ((True ∧ (True ∧ True ∧ True ∧ True ∧ True) ∧ True ∧ True) ∧
    True ∧
    Ok Proofs.Try.prog (23 : Nat)
    [AV.vec true (7 : Nat) rulesn rulesn fun (i : Nat) =>
    AV.cons (1 : Nat) (AV.sc (Value.int IntKind.i64 (rulesfa i)))
    (AV.cons (6 : Nat)
    (AV.cons (1 : Nat) (AV.sc (Value.int IntKind.i64 (rulesfbaa i)))
    (AV.cons (4 : Nat)
    (AV.ar (4 : Nat) (1 : Nat) fun (i_1 : Nat) => AV.sc (Value.int IntKind.u64 (rulesfbabaf i i_1)))
    (AV.cons (1 : Nat) AV.undef AV.nil)))
    AV.nil),
    AV.cons (1 : Nat) (AV.sc (Value.int IntKind.i64 da))
    (AV.cons (256 : Nat) (AV.ar (256 : Nat) (1 : Nat) fun (i : Nat) => AV.sc (Value.int IntKind.u8 (dbaf i)))
    (AV.cons (1 : Nat)
    (AV.vec true (1 : Nat) dbban dbban fun (i : Nat) =>
    AV.vec true (1 : Nat) (dbbafn i) (dbbafn i) fun (i_1 : Nat) => AV.sc (Value.int IntKind.i64 (dbbaff i i_1)))
    (AV.cons (1 : Nat) (AV.vec true (1 : Nat) dbbban dbbban fun (i : Nat) => AV.sc (Value.int IntKind.i64 (dbbbaf i)))
    AV.nil))),
    AV.sc (Value.string text)]
    []
    (AV.cons (1 : Nat)
    (AV.vec false (3 : Nat) r.fst r.fst fun (i0 : Nat) =>
    AV.cons (1 : Nat) (AV.sc (Value.int IntKind.i64 (r.snd.fst i0)))
    (AV.cons (1 : Nat) (AV.sc (Value.int IntKind.i64 (r.snd.snd.fst i0)))
    (AV.cons (1 : Nat) (AV.sc (Value.int IntKind.i64 (r.snd.snd.snd.fst i0))) AV.nil)))
    (AV.cons (1 : Nat) (AV.sc (Value.int IntKind.i64 r.snd.snd.snd.snd)) AV.nil)).tup
    []) ∧
    True ∧
    True ∧
    True ∧
    True ∧
    True ∧
    True ∧
    True ∧
    ((r.snd.snd.snd.snd != (0 : Int)) = true →
    ∃ (r : Bool),
    (True ∧ True ∧ Ok Proofs.Try.prog (27 : Nat) [] [] (AV.sc (Value.bool r)) []) ∧
    True ∧
    True ∧
    ((True ∧ Sub (AV.sc (Value.bool r)) (AV.sc (Value.bool r)) ∧ True) ∧ True) ∧
    Sub (AV.sc (Value.bool r)) res ∧ SubOut [] []) ∧
    ((r.snd.snd.snd.snd != (0 : Int)) = false →
    True ∧
    True ∧
    ((True ∧
    Sub
    (AV.vec true (7 : Nat) rulesn rulesn fun (i0 : Nat) =>
    AV.cons (1 : Nat) (AV.sc (Value.int IntKind.i64 (rulesfa i0)))
    (AV.cons (6 : Nat)
    (AV.cons (1 : Nat) (AV.sc (Value.int IntKind.i64 (rulesfbaa i0)))
    (AV.cons (4 : Nat)
    (AV.ar (4 : Nat) (1 : Nat) fun (i1 : Nat) =>
    AV.sc (Value.int IntKind.u64 (rulesfbabaf i0 i1)))
    (AV.cons (1 : Nat) AV.undef AV.nil)))
    AV.nil))
    (AV.vec true (7 : Nat) rulesn rulesn fun (i0 : Nat) =>
    AV.cons (1 : Nat) (AV.sc (Value.int IntKind.i64 (rulesfa i0)))
    (AV.cons (6 : Nat)
    (AV.cons (1 : Nat) (AV.sc (Value.int IntKind.i64 (rulesfbaa i0)))
    (AV.cons (4 : Nat)
    (AV.ar (4 : Nat) (1 : Nat) fun (i1 : Nat) =>
    AV.sc (Value.int IntKind.u64 (rulesfbabaf i0 i1)))
    (AV.cons (1 : Nat) AV.undef AV.nil)))
    AV.nil)) ∧
    True ∧
    Sub (AV.sc (Value.string text)) (AV.sc (Value.string text)) ∧
    True ∧
    Sub (AV.pt (1000 : Nat) [] (0 : Nat)) (AV.pt (1000 : Nat) [] (0 : Nat)) ∧
    True ∧
    Sub
    (AV.vec false (3 : Nat) r.fst r.fst fun (i0 : Nat) =>
    AV.cons (1 : Nat) (AV.sc (Value.int IntKind.i64 (r.snd.fst i0)))
    (AV.cons (1 : Nat) (AV.sc (Value.int IntKind.i64 (r.snd.snd.fst i0)))
    (AV.cons (1 : Nat) (AV.sc (Value.int IntKind.i64 (r.snd.snd.snd.fst i0)))
    AV.nil)))
    (AV.vec false (3 : Nat) r.fst r.fst fun (i0 : Nat) =>
    AV.cons (1 : Nat) (AV.sc (Value.int IntKind.i64 (r.snd.fst i0)))
    (AV.cons (1 : Nat) (AV.sc (Value.int IntKind.i64 (r.snd.snd.fst i0)))
    (AV.cons (1 : Nat) (AV.sc (Value.int IntKind.i64 (r.snd.snd.snd.fst i0)))
    AV.nil))) ∧
    True ∧
    Sub (AV.sc (Value.int IntKind.i64 (0 : Int)))
    (AV.sc (Value.int IntKind.i64 (0 : Int))) ∧
    True ∧
    Sub (AV.sc (Value.int IntKind.i64 (0 : Int)))
    (AV.sc (Value.int IntKind.i64 (0 : Int))) ∧
    True) ∧
    (True ∧ True ∧ True ∧ True ∧ True) ∧
    SubB
    (AV.cons (1 : Nat) (AV.sc (Value.int IntKind.i64 da))
    (AV.cons (256 : Nat)
    (AV.ar (256 : Nat) (1 : Nat) fun (i0 : Nat) => AV.sc (Value.int IntKind.u8 (dbaf i0)))
    (AV.cons (1 : Nat)
    (AV.vec true (1 : Nat) dbban dbban fun (i0 : Nat) =>
    AV.vec true (1 : Nat) (dbbafn i0) (dbbafn i0) fun (i1 : Nat) =>
    AV.sc (Value.int IntKind.i64 (dbbaff i0 i1)))
    (AV.cons (1 : Nat)
    (AV.vec true (1 : Nat) dbbban dbbban fun (i0 : Nat) =>
    AV.sc (Value.int IntKind.i64 (dbbbaf i0)))
    AV.nil))))
    (AV.cons (1 : Nat) (AV.sc (Value.int IntKind.i64 da))
    (AV.cons (256 : Nat)
    (AV.ar (256 : Nat) (1 : Nat) fun (i0 : Nat) => AV.sc (Value.int IntKind.u8 (dbaf i0)))
    (AV.cons (1 : Nat)
    (AV.vec true (1 : Nat) dbban dbban fun (i0 : Nat) =>
    AV.vec true (1 : Nat) (dbbafn i0) (dbbafn i0) fun (i1 : Nat) =>
    AV.sc (Value.int IntKind.i64 (dbbaff i0 i1)))
    (AV.cons (1 : Nat)
    (AV.vec true (1 : Nat) dbbban dbbban fun (i0 : Nat) =>
    AV.sc (Value.int IntKind.i64 (dbbbaf i0)))
    AV.nil)))) ∧
    True) ∧
    L5_0 rulesn rulesfa rulesfbaa rulesfbabaf text r.fst r.snd.fst r.snd.snd.fst r.snd.snd.snd.fst (0 : Int)
    (0 : Int) da dbaf dbban dbbafn dbbaff dbbban dbbbaf res)) from
    ⟨trivial, ⟨trivial, ⟨trivial, ⟨⟨rfl, trivial⟩, ⟨trivial, (Exists.elim h fun x5 h5 => ⟨x5, (And.elim (fun h6 k6 => ⟨⟨⟨trivial, ⟨⟨trivial, ⟨trivial, ⟨trivial, ⟨trivial, trivial⟩⟩⟩⟩, ⟨trivial, trivial⟩⟩⟩, ⟨trivial, h6⟩⟩, ⟨trivial, (And.elim (fun h8 k8 => ⟨(fun x9 => (fun h9 => ⟨trivial, ⟨trivial, ⟨⟨⟨trivial, ⟨Sub.refl _, trivial⟩⟩, trivial⟩, ((fun h13 => ⟨h13, trivial⟩) h9)⟩⟩⟩) (h8 x9)), (fun x9 => (fun h9 => ⟨trivial, ⟨⟨rfl, trivial⟩, ⟨trivial, (Exists.elim h9 fun x13 h13 => ⟨x13, (And.elim (fun h14 k14 => ⟨⟨⟨trivial, ⟨⟨trivial, ⟨trivial, ⟨trivial, ⟨trivial, trivial⟩⟩⟩⟩, ⟨trivial, trivial⟩⟩⟩, ⟨trivial, h14⟩⟩, ⟨trivial, ⟨trivial, ⟨trivial, ⟨trivial, ⟨trivial, ⟨trivial, ⟨trivial, (And.elim (fun h22 k22 => ⟨(fun x23 => (fun h23 => (Exists.elim h23 fun x24 h24 => ⟨x24, (And.elim (fun h25 k25 => ⟨⟨trivial, ⟨trivial, h25⟩⟩, ⟨trivial, ⟨trivial, ⟨⟨⟨trivial, ⟨Sub.refl _, trivial⟩⟩, trivial⟩, ((fun h29 => ⟨h29, trivial⟩) k25)⟩⟩⟩⟩) h24)⟩)) (h22 x23)), (fun x23 => (fun h23 => ⟨trivial, ⟨trivial, ⟨⟨⟨trivial, ⟨Sub.refl _, ⟨trivial, ⟨Sub.refl _, ⟨trivial, ⟨Sub.refl _, ⟨trivial, ⟨Sub.refl _, ⟨trivial, ⟨Sub.refl _, ⟨trivial, ⟨Sub.refl _, trivial⟩⟩⟩⟩⟩⟩⟩⟩⟩⟩⟩⟩, ⟨⟨trivial, ⟨trivial, ⟨trivial, ⟨trivial, trivial⟩⟩⟩⟩, ⟨SubB.refl _, trivial⟩⟩⟩, h23⟩⟩⟩) (k22 x23))⟩) k14)⟩⟩⟩⟩⟩⟩⟩⟩) h13)⟩)⟩⟩⟩) (k8 x9))⟩) k6)⟩⟩) h5)⟩)⟩⟩⟩⟩⟩)
theorem r5_0 (rulesn : Nat) (rulesfa : Nat → Int) (rulesfbaa : Nat → Int) (rulesfbabaf : Nat → Nat → Int) (text : ByteArray) (ln : Nat) (lfa : Nat → Int) (lfba : Nat → Int) (lfbba : Nat → Int) (at_ : Int) (i : Int) (b0a : Int) (b0baf : Nat → Int) (b0bban : Nat) (b0bbafn : Nat → Nat) (b0bbaff : Nat → Nat → Int) (b0bbban : Nat) (b0bbbaf : Nat → Int) (res : AV)
    (h : (decide (i < (↑ln : Int)) = true →
    (decide (i < (40 : Int)) = true →
    ((0 : Int) ≤ at_ ∧ at_ ≤ (↑text.size : Int) ∧ (↑text.size : Int) ≤ (↑text.size : Int)) ∧
    ∃ (r : Nat × (Nat → Int) × (Nat → Int) × (Nat → Int) × Int),
    Ok Proofs.Try.prog (23 : Nat)
    [AV.vec true (7 : Nat) rulesn rulesn fun (i : Nat) =>
    AV.cons (1 : Nat) (AV.sc (Value.int IntKind.i64 (rulesfa i)))
    (AV.cons (6 : Nat)
    (AV.cons (1 : Nat) (AV.sc (Value.int IntKind.i64 (rulesfbaa i)))
    (AV.cons (4 : Nat) (AV.ar (4 : Nat) (1 : Nat) fun (i_1 : Nat) => AV.sc (Value.int IntKind.u64 (rulesfbabaf i i_1)))
    (AV.cons (1 : Nat) AV.undef AV.nil)))
    AV.nil),
    AV.cons (1 : Nat) (AV.sc (Value.int IntKind.i64 b0a))
    (AV.cons (256 : Nat) (AV.ar (256 : Nat) (1 : Nat) fun (i : Nat) => AV.sc (Value.int IntKind.u8 (b0baf i)))
    (AV.cons (1 : Nat)
    (AV.vec true (1 : Nat) b0bban b0bban fun (i : Nat) =>
    AV.vec true (1 : Nat) (b0bbafn i) (b0bbafn i) fun (i_1 : Nat) => AV.sc (Value.int IntKind.i64 (b0bbaff i i_1)))
    (AV.cons (1 : Nat) (AV.vec true (1 : Nat) b0bbban b0bbban fun (i : Nat) => AV.sc (Value.int IntKind.i64 (b0bbbaf i))) AV.nil))),
    AV.sc (Value.string (text.extract at_.toNat (↑text.size : Int).toNat))]
    []
    (AV.cons (1 : Nat)
    (AV.vec false (3 : Nat) r.fst r.fst fun (i0 : Nat) =>
    AV.cons (1 : Nat) (AV.sc (Value.int IntKind.i64 (r.snd.fst i0)))
    (AV.cons (1 : Nat) (AV.sc (Value.int IntKind.i64 (r.snd.snd.fst i0)))
    (AV.cons (1 : Nat) (AV.sc (Value.int IntKind.i64 (r.snd.snd.snd.fst i0))) AV.nil)))
    (AV.cons (1 : Nat) (AV.sc (Value.int IntKind.i64 r.snd.snd.snd.snd)) AV.nil)).tup
    [] ∧
    ((r.snd.snd.snd.snd != (0 : Int)) = false →
    ((0 : Int) ≤ i ∧ i ≤ (↑ln : Int) ∧ (↑ln : Int) ≤ (↑ln : Int)) ∧
    ∃ (r_1 : Bool),
    Ok Proofs.Try.prog (25 : Nat)
    [AV.vec true (3 : Nat) r.fst r.fst fun (i : Nat) =>
    AV.cons (1 : Nat) (AV.sc (Value.int IntKind.i64 (r.snd.fst i)))
    (AV.cons (1 : Nat) (AV.sc (Value.int IntKind.i64 (r.snd.snd.fst i)))
    (AV.cons (1 : Nat) (AV.sc (Value.int IntKind.i64 (r.snd.snd.snd.fst i))) AV.nil)),
    AV.vec true (3 : Nat) ((↑ln : Int) - i).toNat ((↑ln : Int) - i).toNat fun (i_1 : Nat) =>
    AV.cons (1 : Nat) (AV.sc (Value.int IntKind.i64 (lfa (plus i.toNat i_1))))
    (AV.cons (1 : Nat) (AV.sc (Value.int IntKind.i64 (lfba (plus i.toNat i_1))))
    (AV.cons (1 : Nat) (AV.sc (Value.int IntKind.i64 (lfbba (plus i.toNat i_1)))) AV.nil))]
    [] (AV.sc (Value.bool r_1)) [] ∧
    ((!r_1) = false →
    ((0 : Int) ≤ i ∧ i < (↑ln : Int)) ∧
    (decide (lfba i.toNat < (1 : Int)) = false →
    (decide (lfba i.toNat > IntKind.i64.wrap ((↑text.size : Int) - at_)) = true → Sub (AV.sc (Value.bool false)) res) ∧
    (decide (lfba i.toNat > IntKind.i64.wrap ((↑text.size : Int) - at_)) = false →
    L5_0 rulesn rulesfa rulesfbaa rulesfbabaf text ln lfa lfba lfbba (IntKind.i64.wrap (at_ + lfba i.toNat))
    (IntKind.i64.wrap (i + (1 : Int))) b0a b0baf b0bban b0bbafn b0bbaff b0bbban b0bbbaf res)) ∧
    (decide (lfba i.toNat < (1 : Int)) = !false → Sub (AV.sc (Value.bool false)) res)) ∧
    ((!r_1) = !false → Sub (AV.sc (Value.bool false)) res)) ∧
    ((r.snd.snd.snd.snd != (0 : Int)) = !false → Sub (AV.sc (Value.bool false)) res)) ∧
    (decide (i < (40 : Int)) = false → ∃ (r : Bool), Ok Proofs.Try.prog (27 : Nat) [] [] (AV.sc (Value.bool r)) [] ∧ Sub (AV.sc (Value.bool r)) res)) ∧
  (decide (i < (↑ln : Int)) = !true → ∃ (r : Bool), Ok Proofs.Try.prog (27 : Nat) [] [] (AV.sc (Value.bool r)) [] ∧ Sub (AV.sc (Value.bool r)) res)) :
    L5_0 rulesn rulesfa rulesfbaa rulesfbabaf text ln lfa lfba lfbba at_ i b0a b0baf b0bban b0bbafn b0bbaff b0bbban b0bbbaf res :=
  rule Go.Am.Seat.tabOk 5 [] Go.Proofs.Try.f5 hf5 [1, 1, 1, 1, 1, 0, 1, 0, 0] (s5_0 rulesn rulesfa rulesfbaa rulesfbabaf text ln lfa lfba lfbba at_ i b0a b0baf b0bban b0bbafn b0bbaff b0bbban b0bbbaf) (m5_0 rulesn rulesfa rulesfbaa rulesfbabaf text ln lfa lfba lfbba at_ i b0a b0baf b0bban b0bbafn b0bbaff b0bbban b0bbbaf) res [] 400
    (((Orc.call [] []
    (fun (r23 : Nat × (Nat → Int) × (Nat → Int) × (Nat → Int) × Int) =>
    (AV.cons (1 : Nat)
    (AV.vec false (3 : Nat) r23.fst r23.fst fun (i0 : Nat) =>
    AV.cons (1 : Nat) (AV.sc (Value.int IntKind.i64 (r23.snd.fst i0)))
    (AV.cons (1 : Nat) (AV.sc (Value.int IntKind.i64 (r23.snd.snd.fst i0)))
    (AV.cons (1 : Nat) (AV.sc (Value.int IntKind.i64 (r23.snd.snd.snd.fst i0))) AV.nil)))
    (AV.cons (1 : Nat) (AV.sc (Value.int IntKind.i64 r23.snd.snd.snd.snd)) AV.nil)).tup)
    (fun (r23 : Nat × (Nat → Int) × (Nat → Int) × (Nat → Int) × Int) => []) fun (r23 : Nat × (Nat → Int) × (Nat → Int) × (Nat → Int) × Int) =>
    (Orc.call [] [] (fun (r25 : Bool) => AV.sc (Value.bool r25)) (fun (r25 : Bool) => []) fun (r25 : Bool) =>
    ((((Orc.fin (AV.sc (Value.bool false)) [] []).br
    (Orc.cut (nat_lit 5)
    (s5_0 rulesn rulesfa rulesfbaa rulesfbabaf text ln lfa lfba lfbba
    (IntKind.i64.wrap (at_ + lfba i.toNat)) (IntKind.i64.wrap (i + (1 : Int))) b0a b0baf
    b0bban b0bbafn b0bbaff b0bbban b0bbbaf)
    (m5_0 rulesn rulesfa rulesfbaa rulesfbabaf text ln lfa lfba lfbba
    (IntKind.i64.wrap (at_ + lfba i.toNat)) (IntKind.i64.wrap (i + (1 : Int))) b0a b0baf
    b0bban b0bbafn b0bbaff b0bbban b0bbbaf)
    [((1000 : Nat), some (1000 : Nat))])).yes.yes.yes.yes.yes.yes.yes.yes.yes.br
    (Orc.fin (AV.sc (Value.bool false)) [] []).yes.no.no.no.no.no.no.no.no.no).yes.yes.yes.yes.yes.br
    (Orc.fin (AV.sc (Value.bool false)) [] []).yes.no.no.no.no.no.no.no.no.no.no.no.no.no.no.no).yes).yes.yes.yes.yes.br
    (Orc.fin (AV.sc (Value.bool false)) [] []).yes.no.no.no.no.no.no.no.no.no.no.no.no.no.no.no.no.no.no.no.no.no).br
    (Orc.call [] [] (fun (r27 : Bool) => AV.sc (Value.bool r27)) (fun (r27 : Bool) => []) fun (r27 : Bool) =>
    Orc.fin (AV.sc (Value.bool r27)) [] [])).yes.br
  (Orc.call [] [] (fun (r27 : Bool) => AV.sc (Value.bool r27)) (fun (r27 : Bool) => []) fun (r27 : Bool) => Orc.fin (AV.sc (Value.bool r27)) [] []).no.no) _ _ (by kernel_rfl) (by kernel_rfl) (show True ∧
  True ∧
    True ∧
    True ∧
    True ∧
    (decide (i < (↑ln : Int)) = true →
    True ∧
    true = true ∧
    True ∧
    True ∧
    (decide (i < (40 : Int)) = true →
    True ∧
    ((0 : Nat) = (0 : Nat) ∧ True) ∧
    True ∧
    True ∧
    ((0 : Int) ≤ at_ ∧ at_ ≤ (↑text.size : Int) ∧ (↑text.size : Int) ≤ (↑text.size : Int)) ∧
    ∃ (r : Nat × (Nat → Int) × (Nat → Int) × (Nat → Int) × Int),
    ((True ∧ (True ∧ True ∧ True ∧ True ∧ True) ∧ True ∧ True) ∧
    True ∧
    Ok Proofs.Try.prog (23 : Nat)
    [AV.vec true (7 : Nat) rulesn rulesn fun (i : Nat) =>
    AV.cons (1 : Nat) (AV.sc (Value.int IntKind.i64 (rulesfa i)))
    (AV.cons (6 : Nat)
    (AV.cons (1 : Nat) (AV.sc (Value.int IntKind.i64 (rulesfbaa i)))
    (AV.cons (4 : Nat)
    (AV.ar (4 : Nat) (1 : Nat) fun (i_1 : Nat) => AV.sc (Value.int IntKind.u64 (rulesfbabaf i i_1)))
    (AV.cons (1 : Nat) AV.undef AV.nil)))
    AV.nil),
    AV.cons (1 : Nat) (AV.sc (Value.int IntKind.i64 b0a))
    (AV.cons (256 : Nat) (AV.ar (256 : Nat) (1 : Nat) fun (i : Nat) => AV.sc (Value.int IntKind.u8 (b0baf i)))
    (AV.cons (1 : Nat)
    (AV.vec true (1 : Nat) b0bban b0bban fun (i : Nat) =>
    AV.vec true (1 : Nat) (b0bbafn i) (b0bbafn i) fun (i_1 : Nat) =>
    AV.sc (Value.int IntKind.i64 (b0bbaff i i_1)))
    (AV.cons (1 : Nat)
    (AV.vec true (1 : Nat) b0bbban b0bbban fun (i : Nat) => AV.sc (Value.int IntKind.i64 (b0bbbaf i)))
    AV.nil))),
    AV.sc (Value.string (text.extract at_.toNat (↑text.size : Int).toNat))]
    []
    (AV.cons (1 : Nat)
    (AV.vec false (3 : Nat) r.fst r.fst fun (i0 : Nat) =>
    AV.cons (1 : Nat) (AV.sc (Value.int IntKind.i64 (r.snd.fst i0)))
    (AV.cons (1 : Nat) (AV.sc (Value.int IntKind.i64 (r.snd.snd.fst i0)))
    (AV.cons (1 : Nat) (AV.sc (Value.int IntKind.i64 (r.snd.snd.snd.fst i0))) AV.nil)))
    (AV.cons (1 : Nat) (AV.sc (Value.int IntKind.i64 r.snd.snd.snd.snd)) AV.nil)).tup
    []) ∧
    True ∧
    True ∧
    True ∧
    True ∧
    True ∧
    True ∧
    True ∧
    True ∧
    ((r.snd.snd.snd.snd != (0 : Int)) = false →
    True ∧
    false = false ∧
    True ∧
    false = false ∧
    True ∧
    false = false ∧
    ((0 : Int) ≤ i ∧ i ≤ (↑ln : Int) ∧ (↑ln : Int) ≤ (↑ln : Int)) ∧
    false = false ∧
    ∃ (r_1 : Bool),
    ((True ∧ True ∧ True) ∧
    True ∧
    Ok Proofs.Try.prog (25 : Nat)
    [AV.vec true (3 : Nat) r.fst r.fst fun (i : Nat) =>
    AV.cons (1 : Nat) (AV.sc (Value.int IntKind.i64 (r.snd.fst i)))
    (AV.cons (1 : Nat) (AV.sc (Value.int IntKind.i64 (r.snd.snd.fst i)))
    (AV.cons (1 : Nat)
    (AV.sc (Value.int IntKind.i64 (r.snd.snd.snd.fst i))) AV.nil)),
    AV.vec true (3 : Nat) ((↑ln : Int) - i).toNat ((↑ln : Int) - i).toNat
    fun (i_1 : Nat) =>
    AV.cons (1 : Nat)
    (AV.sc (Value.int IntKind.i64 (lfa (plus i.toNat i_1))))
    (AV.cons (1 : Nat)
    (AV.sc (Value.int IntKind.i64 (lfba (plus i.toNat i_1))))
    (AV.cons (1 : Nat)
    (AV.sc (Value.int IntKind.i64 (lfbba (plus i.toNat i_1))))
    AV.nil))]
    [] (AV.sc (Value.bool r_1)) []) ∧
    false = false ∧
    True ∧
    True ∧
    True ∧
    ((!r_1) = false →
    True ∧
    false = false ∧
    True ∧
    false = false ∧
    ((0 : Int) ≤ i ∧ i < (↑ln : Int)) ∧
    false = false ∧
    True ∧
    false = false ∧
    True ∧
    false = false ∧
    True ∧
    True ∧
    True ∧
    (decide (lfba i.toNat < (1 : Int)) =
    false →
    True ∧
    false = false ∧
    True ∧
    false = false ∧
    ((0 : Int) ≤ i ∧
    i < (↑ln : Int)) ∧
    false = false ∧
    True ∧
    false = false ∧
    True ∧
    false = false ∧
    True ∧
    false = false ∧
    True ∧
    false =
    false ∧
    True ∧
    false =
    false ∧
    True ∧
    false =
    false ∧
    True ∧
    True ∧
    (decide
    (lfba
    i.toNat >
    IntKind.i64.wrap
    ((↑text.size :
    Int) -
    at_)) =
    true →
    True ∧
    True ∧
    ((True ∧
    Sub
    (AV.sc
    (Value.bool
    false))
    (AV.sc
    (Value.bool
    false)) ∧
    True) ∧
    True) ∧
    Sub
    (AV.sc
    (Value.bool
    false))
    res ∧
    SubOut
    []
    []) ∧
    (decide
    (lfba
    i.toNat >
    IntKind.i64.wrap
    ((↑text.size :
    Int) -
    at_)) =
    false →
    True ∧
    True ∧
    True ∧
    ((0 :
    Int) ≤
    i ∧
    i <
    (↑ln :
    Int)) ∧
    True ∧
    True ∧
    True ∧
    True ∧
    True ∧
    True ∧
    True ∧
    ((True ∧
    Sub
    (AV.vec
    true
    (7 :
    Nat)
    rulesn
    rulesn
    fun
    (i0 :
    Nat) =>
    AV.cons
    (1 :
    Nat)
    (AV.sc
    (Value.int
    IntKind.i64
    (rulesfa
    i0)))
    (AV.cons
    (6 :
    Nat)
    (AV.cons
    (1 :
    Nat)
    (AV.sc
    (Value.int
    IntKind.i64
    (rulesfbaa
    i0)))
    (AV.cons
    (4 :
    Nat)
    (AV.ar
    (4 :
    Nat)
    (1 :
    Nat)
    fun
    (i1 :
    Nat) =>
    AV.sc
    (Value.int
    IntKind.u64
    (rulesfbabaf
    i0
    i1)))
    (AV.cons
    (1 :
    Nat)
    AV.undef
    AV.nil)))
    AV.nil))
    (AV.vec
    true
    (7 :
    Nat)
    rulesn
    rulesn
    fun
    (i0 :
    Nat) =>
    AV.cons
    (1 :
    Nat)
    (AV.sc
    (Value.int
    IntKind.i64
    (rulesfa
    i0)))
    (AV.cons
    (6 :
    Nat)
    (AV.cons
    (1 :
    Nat)
    (AV.sc
    (Value.int
    IntKind.i64
    (rulesfbaa
    i0)))
    (AV.cons
    (4 :
    Nat)
    (AV.ar
    (4 :
    Nat)
    (1 :
    Nat)
    fun
    (i1 :
    Nat) =>
    AV.sc
    (Value.int
    IntKind.u64
    (rulesfbabaf
    i0
    i1)))
    (AV.cons
    (1 :
    Nat)
    AV.undef
    AV.nil)))
    AV.nil)) ∧
    True ∧
    Sub
    (AV.sc
    (Value.string
    text))
    (AV.sc
    (Value.string
    text)) ∧
    True ∧
    Sub
    (AV.pt
    (1000 :
    Nat)
    []
    (0 :
    Nat))
    (AV.pt
    (1000 :
    Nat)
    []
    (0 :
    Nat)) ∧
    True ∧
    Sub
    (AV.vec
    false
    (3 :
    Nat)
    ln
    ln
    fun
    (i0 :
    Nat) =>
    AV.cons
    (1 :
    Nat)
    (AV.sc
    (Value.int
    IntKind.i64
    (lfa
    i0)))
    (AV.cons
    (1 :
    Nat)
    (AV.sc
    (Value.int
    IntKind.i64
    (lfba
    i0)))
    (AV.cons
    (1 :
    Nat)
    (AV.sc
    (Value.int
    IntKind.i64
    (lfbba
    i0)))
    AV.nil)))
    (AV.vec
    false
    (3 :
    Nat)
    ln
    ln
    fun
    (i0 :
    Nat) =>
    AV.cons
    (1 :
    Nat)
    (AV.sc
    (Value.int
    IntKind.i64
    (lfa
    i0)))
    (AV.cons
    (1 :
    Nat)
    (AV.sc
    (Value.int
    IntKind.i64
    (lfba
    i0)))
    (AV.cons
    (1 :
    Nat)
    (AV.sc
    (Value.int
    IntKind.i64
    (lfbba
    i0)))
    AV.nil))) ∧
    True ∧
    Sub
    (AV.sc
    (Value.int
    IntKind.i64
    (IntKind.i64.wrap
    (at_ +
    lfba
    i.toNat))))
    (AV.sc
    (Value.int
    IntKind.i64
    (IntKind.i64.wrap
    (at_ +
    lfba
    i.toNat)))) ∧
    True ∧
    Sub
    (AV.sc
    (Value.int
    IntKind.i64
    (IntKind.i64.wrap
    (i +
    (1 :
    Int)))))
    (AV.sc
    (Value.int
    IntKind.i64
    (IntKind.i64.wrap
    (i +
    (1 :
    Int))))) ∧
    True) ∧
    (True ∧
    True ∧
    True ∧
    True ∧
    True) ∧
    SubB
    (AV.cons
    (1 :
    Nat)
    (AV.sc
    (Value.int
    IntKind.i64
    b0a))
    (AV.cons
    (256 :
    Nat)
    (AV.ar
    (256 :
    Nat)
    (1 :
    Nat)
    fun
    (i0 :
    Nat) =>
    AV.sc
    (Value.int
    IntKind.u8
    (b0baf
    i0)))
    (AV.cons
    (1 :
    Nat)
    (AV.vec
    true
    (1 :
    Nat)
    b0bban
    b0bban
    fun
    (i0 :
    Nat) =>
    AV.vec
    true
    (1 :
    Nat)
    (b0bbafn
    i0)
    (b0bbafn
    i0)
    fun
    (i1 :
    Nat) =>
    AV.sc
    (Value.int
    IntKind.i64
    (b0bbaff
    i0
    i1)))
    (AV.cons
    (1 :
    Nat)
    (AV.vec
    true
    (1 :
    Nat)
    b0bbban
    b0bbban
    fun
    (i0 :
    Nat) =>
    AV.sc
    (Value.int
    IntKind.i64
    (b0bbbaf
    i0)))
    AV.nil))))
    (AV.cons
    (1 :
    Nat)
    (AV.sc
    (Value.int
    IntKind.i64
    b0a))
    (AV.cons
    (256 :
    Nat)
    (AV.ar
    (256 :
    Nat)
    (1 :
    Nat)
    fun
    (i0 :
    Nat) =>
    AV.sc
    (Value.int
    IntKind.u8
    (b0baf
    i0)))
    (AV.cons
    (1 :
    Nat)
    (AV.vec
    true
    (1 :
    Nat)
    b0bban
    b0bban
    fun
    (i0 :
    Nat) =>
    AV.vec
    true
    (1 :
    Nat)
    (b0bbafn
    i0)
    (b0bbafn
    i0)
    fun
    (i1 :
    Nat) =>
    AV.sc
    (Value.int
    IntKind.i64
    (b0bbaff
    i0
    i1)))
    (AV.cons
    (1 :
    Nat)
    (AV.vec
    true
    (1 :
    Nat)
    b0bbban
    b0bbban
    fun
    (i0 :
    Nat) =>
    AV.sc
    (Value.int
    IntKind.i64
    (b0bbbaf
    i0)))
    AV.nil)))) ∧
    True) ∧
    L5_0
    rulesn
    rulesfa
    rulesfbaa
    rulesfbabaf
    text
    ln
    lfa
    lfba
    lfbba
    (IntKind.i64.wrap
    (at_ +
    lfba
    i.toNat))
    (IntKind.i64.wrap
    (i +
    (1 :
    Int)))
    b0a
    b0baf
    b0bban
    b0bbafn
    b0bbaff
    b0bbban
    b0bbbaf
    res)) ∧
    (decide (lfba i.toNat < (1 : Int)) =
    !false →
    true = true ∧
    (!false) = !false ∧
    true = true ∧
    (!false) = !false ∧
    true = true ∧
    (!false) = !false ∧
    true = true ∧
    (!false) = !false ∧
    true = true ∧
    (!false) = !false ∧
    true = true ∧
    (!false) =
    !false ∧
    true = true ∧
    (!false) =
    !false ∧
    true =
    true ∧
    (!false) =
    !false ∧
    true =
    true ∧
    (!false) =
    !false ∧
    true =
    true ∧
    True ∧
    true =
    true ∧
    True ∧
    True ∧
    ((True ∧
    Sub
    (AV.sc
    (Value.bool
    false))
    (AV.sc
    (Value.bool
    false)) ∧
    True) ∧
    True) ∧
    Sub
    (AV.sc
    (Value.bool
    false))
    res ∧
    SubOut
    []
    [])) ∧
    ((!r_1) = !false →
    true = true ∧
    (!false) = !false ∧
    true = true ∧
    (!false) = !false ∧
    true = true ∧
    (!false) = !false ∧
    true = true ∧
    (!false) = !false ∧
    true = true ∧
    (!false) = !false ∧
    true = true ∧
    True ∧
    True ∧
    true = !false ∧
    true = true ∧
    (!false) = !false ∧
    true = true ∧
    (!false) = !false ∧
    true = true ∧
    (!false) = !false ∧
    true = true ∧
    (!false) = !false ∧
    true = true ∧
    (!false) = !false ∧
    true = true ∧
    (!false) =
    !false ∧
    true = true ∧
    (!false) =
    !false ∧
    true =
    true ∧
    (!false) =
    !false ∧
    true =
    true ∧
    (!false) =
    !false ∧
    true =
    true ∧
    True ∧
    true =
    true ∧
    True ∧
    True ∧
    ((True ∧
    Sub
    (AV.sc
    (Value.bool
    false))
    (AV.sc
    (Value.bool
    false)) ∧
    True) ∧
    True) ∧
    Sub
    (AV.sc
    (Value.bool
    false))
    res ∧
    SubOut
    []
    [])) ∧
    ((r.snd.snd.snd.snd != (0 : Int)) = !false →
    true = true ∧
    (!false) = !false ∧
    true = true ∧
    (!false) = !false ∧
    true = true ∧
    (!false) = !false ∧
    true = true ∧
    (!false) = !false ∧
    true = true ∧
    (!false) = !false ∧
    true = true ∧
    True ∧
    True ∧
    true = !false ∧
    true = true ∧
    (!false) = !false ∧
    true = true ∧
    (!false) = !false ∧
    true = true ∧
    (!false) = !false ∧
    true = true ∧
    (!false) = !false ∧
    true = true ∧
    (!false) = !false ∧
    true = true ∧
    True ∧
    True ∧
    true = !false ∧
    true = true ∧
    (!false) = !false ∧
    true = true ∧
    (!false) = !false ∧
    true = true ∧
    (!false) = !false ∧
    true = true ∧
    (!false) = !false ∧
    true = true ∧
    (!false) = !false ∧
    true = true ∧
    (!false) = !false ∧
    true = true ∧
    (!false) =
    !false ∧
    true = true ∧
    (!false) =
    !false ∧
    true =
    true ∧
    (!false) =
    !false ∧
    true =
    true ∧
    True ∧
    true =
    true ∧
    True ∧
    True ∧
    ((True ∧
    Sub
    (AV.sc
    (Value.bool
    false))
    (AV.sc
    (Value.bool
    false)) ∧
    True) ∧
    True) ∧
    Sub
    (AV.sc
    (Value.bool
    false))
    res ∧
    SubOut
    []
    [])) ∧
    (decide (i < (40 : Int)) = false →
    ∃ (r : Bool),
    (True ∧ True ∧ Ok Proofs.Try.prog (27 : Nat) [] [] (AV.sc (Value.bool r)) []) ∧
    True ∧
    True ∧
    ((True ∧ Sub (AV.sc (Value.bool r)) (AV.sc (Value.bool r)) ∧ True) ∧ True) ∧ Sub (AV.sc (Value.bool r)) res ∧ SubOut [] [])) ∧
    (decide (i < (↑ln : Int)) = !true →
    true = true ∧
    (!true) = !true ∧
    true = true ∧
    True ∧
    false = false ∧
    ∃ (r : Bool),
    (True ∧ True ∧ Ok Proofs.Try.prog (27 : Nat) [] [] (AV.sc (Value.bool r)) []) ∧
    True ∧
    True ∧ ((True ∧ Sub (AV.sc (Value.bool r)) (AV.sc (Value.bool r)) ∧ True) ∧ True) ∧ Sub (AV.sc (Value.bool r)) res ∧ SubOut [] []) from
    ⟨trivial, ⟨trivial, ⟨trivial, ⟨trivial, ⟨trivial, (And.elim (fun h5 k5 => ⟨(fun x6 => (fun h6 => ⟨trivial, ⟨rfl, ⟨trivial, ⟨trivial, (And.elim (fun h11 k11 => ⟨(fun x12 => (fun h12 => ⟨trivial, ⟨⟨rfl, trivial⟩, ⟨trivial, ⟨trivial, (And.elim (fun h17 k17 => ⟨(And.elim (fun h18 k18 => ⟨h18, (And.elim (fun h19 k19 => ⟨h19, k19⟩) k18)⟩) h17), (Exists.elim k17 fun x18 h18 => ⟨x18, (And.elim (fun h19 k19 => ⟨⟨⟨trivial, ⟨⟨trivial, ⟨trivial, ⟨trivial, ⟨trivial, trivial⟩⟩⟩⟩, ⟨trivial, trivial⟩⟩⟩, ⟨trivial, h19⟩⟩, ⟨trivial, ⟨trivial, ⟨trivial, ⟨trivial, ⟨trivial, ⟨trivial, ⟨trivial, ⟨trivial, (And.elim (fun h28 k28 => ⟨(fun x29 => (fun h29 => ⟨trivial, ⟨rfl, ⟨trivial, ⟨rfl, ⟨trivial, ⟨rfl, (And.elim (fun h36 k36 => ⟨(And.elim (fun h37 k37 => ⟨h37, (And.elim (fun h38 k38 => ⟨h38, k38⟩) k37)⟩) h36), ⟨rfl, (Exists.elim k36 fun x38 h38 => ⟨x38, (And.elim (fun h39 k39 => ⟨⟨⟨trivial, ⟨trivial, trivial⟩⟩, ⟨trivial, h39⟩⟩, ⟨rfl, ⟨trivial, ⟨trivial, ⟨trivial, (And.elim (fun h44 k44 => ⟨(fun x45 => (fun h45 => ⟨trivial, ⟨rfl, ⟨trivial, ⟨rfl, (And.elim (fun h50 k50 => ⟨(And.elim (fun h51 k51 => ⟨h51, k51⟩) h50), ⟨rfl, ⟨trivial, ⟨rfl, ⟨trivial, ⟨rfl, ⟨trivial, ⟨trivial, ⟨trivial, (And.elim (fun h59 k59 => ⟨(fun x60 => (fun h60 => ⟨trivial, ⟨rfl, ⟨trivial, ⟨rfl, ⟨(And.elim (fun h66 k66 => ⟨h66, k66⟩) h50), ⟨rfl, ⟨trivial, ⟨rfl, ⟨trivial, ⟨rfl, ⟨trivial, ⟨rfl, ⟨trivial, ⟨rfl, ⟨trivial, ⟨rfl, ⟨trivial, ⟨rfl, ⟨trivial, ⟨trivial, (And.elim (fun h81 k81 => ⟨(fun x82 => (fun h82 => ⟨trivial, ⟨trivial, ⟨⟨⟨trivial, ⟨Sub.refl _, trivial⟩⟩, trivial⟩, ((fun h86 => ⟨h86, trivial⟩) h82)⟩⟩⟩) (h81 x82)), (fun x82 => (fun h82 => ⟨trivial, ⟨trivial, ⟨trivial, ⟨(And.elim (fun h87 k87 => ⟨h87, k87⟩) h50), ⟨trivial, ⟨trivial, ⟨trivial, ⟨trivial, ⟨trivial, ⟨trivial, ⟨trivial, ⟨⟨⟨trivial, ⟨Sub.refl _, ⟨trivial, ⟨Sub.refl _, ⟨trivial, ⟨Sub.refl _, ⟨trivial, ⟨Sub.refl _, ⟨trivial, ⟨Sub.refl _, ⟨trivial, ⟨Sub.refl _, trivial⟩⟩⟩⟩⟩⟩⟩⟩⟩⟩⟩⟩, ⟨⟨trivial, ⟨trivial, ⟨trivial, ⟨trivial, trivial⟩⟩⟩⟩, ⟨SubB.refl _, trivial⟩⟩⟩, h82⟩⟩⟩⟩⟩⟩⟩⟩⟩⟩⟩⟩) (k81 x82))⟩) h60)⟩⟩⟩⟩⟩⟩⟩⟩⟩⟩⟩⟩⟩⟩⟩⟩⟩⟩⟩⟩) (h59 x60)), (fun x60 => (fun h60 => ⟨rfl, ⟨rfl, ⟨rfl, ⟨rfl, ⟨rfl, ⟨rfl, ⟨rfl, ⟨rfl, ⟨rfl, ⟨rfl, ⟨rfl, ⟨rfl, ⟨rfl, ⟨rfl, ⟨rfl, ⟨rfl, ⟨rfl, ⟨rfl, ⟨rfl, ⟨trivial, ⟨rfl, ⟨trivial, ⟨trivial, ⟨⟨⟨trivial, ⟨Sub.refl _, trivial⟩⟩, trivial⟩, ((fun h85 => ⟨h85, trivial⟩) h60)⟩⟩⟩⟩⟩⟩⟩⟩⟩⟩⟩⟩⟩⟩⟩⟩⟩⟩⟩⟩⟩⟩⟩⟩) (k59 x60))⟩) k50)⟩⟩⟩⟩⟩⟩⟩⟩⟩) h45)⟩⟩⟩⟩) (h44 x45)), (fun x45 => (fun h45 => ⟨rfl, ⟨rfl, ⟨rfl, ⟨rfl, ⟨rfl, ⟨rfl, ⟨rfl, ⟨rfl, ⟨rfl, ⟨rfl, ⟨rfl, ⟨trivial, ⟨trivial, ⟨rfl, ⟨rfl, ⟨rfl, ⟨rfl, ⟨rfl, ⟨rfl, ⟨rfl, ⟨rfl, ⟨rfl, ⟨rfl, ⟨rfl, ⟨rfl, ⟨rfl, ⟨rfl, ⟨rfl, ⟨rfl, ⟨rfl, ⟨rfl, ⟨rfl, ⟨rfl, ⟨trivial, ⟨rfl, ⟨trivial, ⟨trivial, ⟨⟨⟨trivial, ⟨Sub.refl _, trivial⟩⟩, trivial⟩, ((fun h84 => ⟨h84, trivial⟩) h45)⟩⟩⟩⟩⟩⟩⟩⟩⟩⟩⟩⟩⟩⟩⟩⟩⟩⟩⟩⟩⟩⟩⟩⟩⟩⟩⟩⟩⟩⟩⟩⟩⟩⟩⟩⟩⟩⟩) (k44 x45))⟩) k39)⟩⟩⟩⟩⟩) h38)⟩)⟩⟩) h29)⟩⟩⟩⟩⟩⟩) (h28 x29)), (fun x29 => (fun h29 => ⟨rfl, ⟨rfl, ⟨rfl, ⟨rfl, ⟨rfl, ⟨rfl, ⟨rfl, ⟨rfl, ⟨rfl, ⟨rfl, ⟨rfl, ⟨trivial, ⟨trivial, ⟨rfl, ⟨rfl, ⟨rfl, ⟨rfl, ⟨rfl, ⟨rfl, ⟨rfl, ⟨rfl, ⟨rfl, ⟨rfl, ⟨rfl, ⟨rfl, ⟨trivial, ⟨trivial, ⟨rfl, ⟨rfl, ⟨rfl, ⟨rfl, ⟨rfl, ⟨rfl, ⟨rfl, ⟨rfl, ⟨rfl, ⟨rfl, ⟨rfl, ⟨rfl, ⟨rfl, ⟨rfl, ⟨rfl, ⟨rfl, ⟨rfl, ⟨rfl, ⟨rfl, ⟨rfl, ⟨trivial, ⟨rfl, ⟨trivial, ⟨trivial, ⟨⟨⟨trivial, ⟨Sub.refl _, trivial⟩⟩, trivial⟩, ((fun h82 => ⟨h82, trivial⟩) h29)⟩⟩⟩⟩⟩⟩⟩⟩⟩⟩⟩⟩⟩⟩⟩⟩⟩⟩⟩⟩⟩⟩⟩⟩⟩⟩⟩⟩⟩⟩⟩⟩⟩⟩⟩⟩⟩⟩⟩⟩⟩⟩⟩⟩⟩⟩⟩⟩⟩⟩⟩⟩) (k28 x29))⟩) k19)⟩⟩⟩⟩⟩⟩⟩⟩⟩) h18)⟩)⟩) h12)⟩⟩⟩⟩) (h11 x12)), (fun x12 => (fun h12 => (Exists.elim h12 fun x13 h13 => ⟨x13, (And.elim (fun h14 k14 => ⟨⟨trivial, ⟨trivial, h14⟩⟩, ⟨trivial, ⟨trivial, ⟨⟨⟨trivial, ⟨Sub.refl _, trivial⟩⟩, trivial⟩, ((fun h18 => ⟨h18, trivial⟩) k14)⟩⟩⟩⟩) h13)⟩)) (k11 x12))⟩) h6)⟩⟩⟩⟩) (h5 x6)), (fun x6 => (fun h6 => ⟨rfl, ⟨rfl, ⟨rfl, ⟨trivial, ⟨rfl, (Exists.elim h6 fun x12 h12 => ⟨x12, (And.elim (fun h13 k13 => ⟨⟨trivial, ⟨trivial, h13⟩⟩, ⟨trivial, ⟨trivial, ⟨⟨⟨trivial, ⟨Sub.refl _, trivial⟩⟩, trivial⟩, ((fun h17 => ⟨h17, trivial⟩) k13)⟩⟩⟩⟩) h12)⟩)⟩⟩⟩⟩⟩) (k5 x6))⟩) h)⟩⟩⟩⟩⟩)
theorem hf6 : Go.Proofs.Try.prog.funcs[6]? = some Go.Proofs.Try.f6 := by kernel_rfl
abbrev s6_e (rulesn : Nat) (rulesfa : Nat → Int) (rulesfbaa : Nat → Int) (rulesfbabaf : Nat → Nat → Int) (da : Int) (dbaf : Nat → Int) (dbban : Nat) (dbbafn : Nat → Nat) (dbbaff : Nat → Nat → Int) (dbbban : Nat) (dbbbaf : Nat → Int) (text : ByteArray) : List (Nat × AV) := [(0, (.vec true 7 rulesn rulesn (fun i0 => (.cons 1 (.sc (.int .i64 (rulesfa i0))) (.cons 6 (.cons 1 (.sc (.int .i64 (rulesfbaa i0))) (.cons 4 (.ar 4 1 (fun i1 => (.sc (.int .u64 (rulesfbabaf i0 i1))))) (.cons 1 .undef .nil))) .nil))))), (1, (.cons 1 (.sc (.int .i64 da)) (.cons 256 (.ar 256 1 (fun i0 => (.sc (.int .u8 (dbaf i0))))) (.cons 1 (.vec true 1 dbban dbban (fun i0 => (.vec true 1 (dbbafn i0) (dbbafn i0) (fun i1 => (.sc (.int .i64 (dbbaff i0 i1))))))) (.cons 1 (.vec true 1 dbbban dbbban (fun i0 => (.sc (.int .i64 (dbbbaf i0))))) .nil))))), (2, (.sc (.string text)))]
abbrev m6_e (rulesn : Nat) (rulesfa : Nat → Int) (rulesfbaa : Nat → Int) (rulesfbabaf : Nat → Nat → Int) (da : Int) (dbaf : Nat → Int) (dbban : Nat) (dbbafn : Nat → Nat) (dbbaff : Nat → Nat → Int) (dbbban : Nat) (dbbbaf : Nat → Int) (text : ByteArray) : List (Nat × Nat × AV) := []
def L6_e (rulesn : Nat) (rulesfa : Nat → Int) (rulesfbaa : Nat → Int) (rulesfbabaf : Nat → Nat → Int) (da : Int) (dbaf : Nat → Int) (dbban : Nat) (dbbafn : Nat → Nat) (dbbaff : Nat → Nat → Int) (dbbban : Nat) (dbbbaf : Nat → Int) (text : ByteArray) (res : AV) : Prop := Goes ⟨Go.Proofs.Try.prog, 6, [], res, []⟩ (place Go.Proofs.Try.f6 []) (s6_e rulesn rulesfa rulesfbaa rulesfbabaf da dbaf dbban dbbafn dbbaff dbbban dbbbaf text) (m6_e rulesn rulesfa rulesfbaa rulesfbabaf da dbaf dbban dbbafn dbbaff dbbban dbbbaf text)
theorem a6_e (rulesn : Nat) (rulesfa : Nat → Int) (rulesfbaa : Nat → Int) (rulesfbabaf : Nat → Nat → Int) (da : Int) (dbaf : Nat → Int) (dbban : Nat) (dbbafn : Nat → Nat) (dbbaff : Nat → Nat → Int) (dbbban : Nat) (dbbbaf : Nat → Int) (text : ByteArray) (res : AV) (h : (∀ slot, fact (look .undef (s6_e rulesn rulesfa rulesfbaa rulesfbabaf da dbaf dbban dbbafn dbbaff dbbban dbbbaf text) slot)) → L6_e rulesn rulesfa rulesfbaa rulesfbabaf da dbaf dbban dbbafn dbbaff dbbban dbbbaf text res) : L6_e rulesn rulesfa rulesfbaa rulesfbabaf da dbaf dbban dbbafn dbbaff dbbban dbbbaf text res :=
  assumeRule 6 [] Go.Proofs.Try.f6 hf6 [] (s6_e rulesn rulesfa rulesfbaa rulesfbabaf da dbaf dbban dbbafn dbbaff dbbban dbbbaf text) (m6_e rulesn rulesfa rulesfbaa rulesfbabaf da dbaf dbban dbbafn dbbaff dbbban dbbbaf text) res [] _ (by kernel_rfl) h
abbrev s6_0 (rulesn : Nat) (rulesfa : Nat → Int) (rulesfbaa : Nat → Int) (rulesfbabaf : Nat → Nat → Int) (text : ByteArray) (ln : Nat) (lfa : Nat → Int) (lfba : Nat → Int) (lfbba : Nat → Int) (at_ : Int) (i : Int) (b0a : Int) (b0baf : Nat → Int) (b0bban : Nat) (b0bbafn : Nat → Nat) (b0bbaff : Nat → Nat → Int) (b0bbban : Nat) (b0bbbaf : Nat → Int) : List (Nat × AV) := [(0, (.vec true 7 rulesn rulesn (fun i0 => (.cons 1 (.sc (.int .i64 (rulesfa i0))) (.cons 6 (.cons 1 (.sc (.int .i64 (rulesfbaa i0))) (.cons 4 (.ar 4 1 (fun i1 => (.sc (.int .u64 (rulesfbabaf i0 i1))))) (.cons 1 .undef .nil))) .nil))))), (2, (.sc (.string text))), (4, (.pt 1000 [] 0)), (7, (.vec false 3 ln ln (fun i0 => (.cons 1 (.sc (.int .i64 (lfa i0))) (.cons 1 (.sc (.int .i64 (lfba i0))) (.cons 1 (.sc (.int .i64 (lfbba i0))) .nil)))))), (9, (.sc (.int .i64 at_))), (10, (.sc (.int .i64 i)))]
abbrev m6_0 (rulesn : Nat) (rulesfa : Nat → Int) (rulesfbaa : Nat → Int) (rulesfbabaf : Nat → Nat → Int) (text : ByteArray) (ln : Nat) (lfa : Nat → Int) (lfba : Nat → Int) (lfbba : Nat → Int) (at_ : Int) (i : Int) (b0a : Int) (b0baf : Nat → Int) (b0bban : Nat) (b0bbafn : Nat → Nat) (b0bbaff : Nat → Nat → Int) (b0bbban : Nat) (b0bbbaf : Nat → Int) : List (Nat × Nat × AV) := [(1000, 26, (.cons 1 (.sc (.int .i64 b0a)) (.cons 256 (.ar 256 1 (fun i0 => (.sc (.int .u8 (b0baf i0))))) (.cons 1 (.vec true 1 b0bban b0bban (fun i0 => (.vec true 1 (b0bbafn i0) (b0bbafn i0) (fun i1 => (.sc (.int .i64 (b0bbaff i0 i1))))))) (.cons 1 (.vec true 1 b0bbban b0bbban (fun i0 => (.sc (.int .i64 (b0bbbaf i0))))) .nil)))))]
def L6_0 (rulesn : Nat) (rulesfa : Nat → Int) (rulesfbaa : Nat → Int) (rulesfbabaf : Nat → Nat → Int) (text : ByteArray) (ln : Nat) (lfa : Nat → Int) (lfba : Nat → Int) (lfbba : Nat → Int) (at_ : Int) (i : Int) (b0a : Int) (b0baf : Nat → Int) (b0bban : Nat) (b0bbafn : Nat → Nat) (b0bbaff : Nat → Nat → Int) (b0bbban : Nat) (b0bbbaf : Nat → Int) (res : AV) : Prop := Goes ⟨Go.Proofs.Try.prog, 6, [], res, []⟩ (place Go.Proofs.Try.f6 [1, 1, 1, 1, 1, 0, 1, 0, 0]) (s6_0 rulesn rulesfa rulesfbaa rulesfbabaf text ln lfa lfba lfbba at_ i b0a b0baf b0bban b0bbafn b0bbaff b0bbban b0bbbaf) (m6_0 rulesn rulesfa rulesfbaa rulesfbabaf text ln lfa lfba lfbba at_ i b0a b0baf b0bban b0bbafn b0bbaff b0bbban b0bbbaf)
theorem a6_0 (rulesn : Nat) (rulesfa : Nat → Int) (rulesfbaa : Nat → Int) (rulesfbabaf : Nat → Nat → Int) (text : ByteArray) (ln : Nat) (lfa : Nat → Int) (lfba : Nat → Int) (lfbba : Nat → Int) (at_ : Int) (i : Int) (b0a : Int) (b0baf : Nat → Int) (b0bban : Nat) (b0bbafn : Nat → Nat) (b0bbaff : Nat → Nat → Int) (b0bbban : Nat) (b0bbbaf : Nat → Int) (res : AV) (h : (∀ slot, fact (look .undef (s6_0 rulesn rulesfa rulesfbaa rulesfbabaf text ln lfa lfba lfbba at_ i b0a b0baf b0bban b0bbafn b0bbaff b0bbban b0bbbaf) slot)) → L6_0 rulesn rulesfa rulesfbaa rulesfbabaf text ln lfa lfba lfbba at_ i b0a b0baf b0bban b0bbafn b0bbaff b0bbban b0bbbaf res) : L6_0 rulesn rulesfa rulesfbaa rulesfbabaf text ln lfa lfba lfbba at_ i b0a b0baf b0bban b0bbafn b0bbaff b0bbban b0bbbaf res :=
  assumeRule 6 [] Go.Proofs.Try.f6 hf6 [1, 1, 1, 1, 1, 0, 1, 0, 0] (s6_0 rulesn rulesfa rulesfbaa rulesfbabaf text ln lfa lfba lfbba at_ i b0a b0baf b0bban b0bbafn b0bbaff b0bbban b0bbbaf) (m6_0 rulesn rulesfa rulesfbaa rulesfbabaf text ln lfa lfba lfbba at_ i b0a b0baf b0bban b0bbafn b0bbaff b0bbban b0bbbaf) res [] _ (by kernel_rfl) h
abbrev s6_1 (rulesn : Nat) (rulesfa : Nat → Int) (rulesfbaa : Nat → Int) (rulesfbabaf : Nat → Nat → Int) (text : ByteArray) (ln : Nat) (lfa : Nat → Int) (lfba : Nat → Int) (lfbba : Nat → Int) (at_ : Int) (i : Int) (b0a : Int) (b0baf : Nat → Int) (b0bban : Nat) (b0bbafn : Nat → Nat) (b0bbaff : Nat → Nat → Int) (b0bbban : Nat) (b0bbbaf : Nat → Int) (b1a : Int) (b1ba : Int) (b1bba : Int) : List (Nat × AV) := [(0, (.vec true 7 rulesn rulesn (fun i0 => (.cons 1 (.sc (.int .i64 (rulesfa i0))) (.cons 6 (.cons 1 (.sc (.int .i64 (rulesfbaa i0))) (.cons 4 (.ar 4 1 (fun i1 => (.sc (.int .u64 (rulesfbabaf i0 i1))))) (.cons 1 .undef .nil))) .nil))))), (2, (.sc (.string text))), (4, (.pt 1000 [] 0)), (7, (.vec false 3 ln ln (fun i0 => (.cons 1 (.sc (.int .i64 (lfa i0))) (.cons 1 (.sc (.int .i64 (lfba i0))) (.cons 1 (.sc (.int .i64 (lfbba i0))) .nil)))))), (9, (.sc (.int .i64 at_))), (10, (.sc (.int .i64 i))), (11, (.pt 1001 [] 0))]
abbrev m6_1 (rulesn : Nat) (rulesfa : Nat → Int) (rulesfbaa : Nat → Int) (rulesfbabaf : Nat → Nat → Int) (text : ByteArray) (ln : Nat) (lfa : Nat → Int) (lfba : Nat → Int) (lfbba : Nat → Int) (at_ : Int) (i : Int) (b0a : Int) (b0baf : Nat → Int) (b0bban : Nat) (b0bbafn : Nat → Nat) (b0bbaff : Nat → Nat → Int) (b0bbban : Nat) (b0bbbaf : Nat → Int) (b1a : Int) (b1ba : Int) (b1bba : Int) : List (Nat × Nat × AV) := [(1000, 26, (.cons 1 (.sc (.int .i64 b0a)) (.cons 256 (.ar 256 1 (fun i0 => (.sc (.int .u8 (b0baf i0))))) (.cons 1 (.vec true 1 b0bban b0bban (fun i0 => (.vec true 1 (b0bbafn i0) (b0bbafn i0) (fun i1 => (.sc (.int .i64 (b0bbaff i0 i1))))))) (.cons 1 (.vec true 1 b0bbban b0bbban (fun i0 => (.sc (.int .i64 (b0bbbaf i0))))) .nil))))), (1001, 45, (.cons 1 (.sc (.int .i64 b1a)) (.cons 1 (.sc (.int .i64 b1ba)) (.cons 1 (.sc (.int .i64 b1bba)) .nil))))]
def L6_1 (rulesn : Nat) (rulesfa : Nat → Int) (rulesfbaa : Nat → Int) (rulesfbabaf : Nat → Nat → Int) (text : ByteArray) (ln : Nat) (lfa : Nat → Int) (lfba : Nat → Int) (lfbba : Nat → Int) (at_ : Int) (i : Int) (b0a : Int) (b0baf : Nat → Int) (b0bban : Nat) (b0bbafn : Nat → Nat) (b0bbaff : Nat → Nat → Int) (b0bbban : Nat) (b0bbbaf : Nat → Int) (b1a : Int) (b1ba : Int) (b1bba : Int) (res : AV) : Prop := Goes ⟨Go.Proofs.Try.prog, 6, [], res, []⟩ (place Go.Proofs.Try.f6 [1, 1, 1, 1, 1, 0, 1, 0, 0, 1, 0, 0, 1, 1, 1, 1]) (s6_1 rulesn rulesfa rulesfbaa rulesfbabaf text ln lfa lfba lfbba at_ i b0a b0baf b0bban b0bbafn b0bbaff b0bbban b0bbbaf b1a b1ba b1bba) (m6_1 rulesn rulesfa rulesfbaa rulesfbabaf text ln lfa lfba lfbba at_ i b0a b0baf b0bban b0bbafn b0bbaff b0bbban b0bbbaf b1a b1ba b1bba)
theorem a6_1 (rulesn : Nat) (rulesfa : Nat → Int) (rulesfbaa : Nat → Int) (rulesfbabaf : Nat → Nat → Int) (text : ByteArray) (ln : Nat) (lfa : Nat → Int) (lfba : Nat → Int) (lfbba : Nat → Int) (at_ : Int) (i : Int) (b0a : Int) (b0baf : Nat → Int) (b0bban : Nat) (b0bbafn : Nat → Nat) (b0bbaff : Nat → Nat → Int) (b0bbban : Nat) (b0bbbaf : Nat → Int) (b1a : Int) (b1ba : Int) (b1bba : Int) (res : AV) (h : (∀ slot, fact (look .undef (s6_1 rulesn rulesfa rulesfbaa rulesfbabaf text ln lfa lfba lfbba at_ i b0a b0baf b0bban b0bbafn b0bbaff b0bbban b0bbbaf b1a b1ba b1bba) slot)) → L6_1 rulesn rulesfa rulesfbaa rulesfbabaf text ln lfa lfba lfbba at_ i b0a b0baf b0bban b0bbafn b0bbaff b0bbban b0bbbaf b1a b1ba b1bba res) : L6_1 rulesn rulesfa rulesfbaa rulesfbabaf text ln lfa lfba lfbba at_ i b0a b0baf b0bban b0bbafn b0bbaff b0bbban b0bbbaf b1a b1ba b1bba res :=
  assumeRule 6 [] Go.Proofs.Try.f6 hf6 [1, 1, 1, 1, 1, 0, 1, 0, 0, 1, 0, 0, 1, 1, 1, 1] (s6_1 rulesn rulesfa rulesfbaa rulesfbabaf text ln lfa lfba lfbba at_ i b0a b0baf b0bban b0bbafn b0bbaff b0bbban b0bbbaf b1a b1ba b1bba) (m6_1 rulesn rulesfa rulesfbaa rulesfbabaf text ln lfa lfba lfbba at_ i b0a b0baf b0bban b0bbafn b0bbaff b0bbban b0bbbaf b1a b1ba b1bba) res [] _ (by kernel_rfl) h
abbrev s6_2 (rulesn : Nat) (rulesfa : Nat → Int) (rulesfbaa : Nat → Int) (rulesfbabaf : Nat → Nat → Int) (text : ByteArray) (ln : Nat) (lfa : Nat → Int) (lfba : Nat → Int) (lfbba : Nat → Int) (at_ : Int) (i : Int) (b0a : Int) (b0baf : Nat → Int) (b0bban : Nat) (b0bbafn : Nat → Nat) (b0bbaff : Nat → Nat → Int) (b0bbban : Nat) (b0bbbaf : Nat → Int) : List (Nat × AV) := [(0, (.vec true 7 rulesn rulesn (fun i0 => (.cons 1 (.sc (.int .i64 (rulesfa i0))) (.cons 6 (.cons 1 (.sc (.int .i64 (rulesfbaa i0))) (.cons 4 (.ar 4 1 (fun i1 => (.sc (.int .u64 (rulesfbabaf i0 i1))))) (.cons 1 .undef .nil))) .nil))))), (2, (.sc (.string text))), (4, (.pt 1000 [] 0)), (7, (.vec false 3 ln ln (fun i0 => (.cons 1 (.sc (.int .i64 (lfa i0))) (.cons 1 (.sc (.int .i64 (lfba i0))) (.cons 1 (.sc (.int .i64 (lfbba i0))) .nil)))))), (9, (.sc (.int .i64 at_))), (10, (.sc (.int .i64 i)))]
abbrev m6_2 (rulesn : Nat) (rulesfa : Nat → Int) (rulesfbaa : Nat → Int) (rulesfbabaf : Nat → Nat → Int) (text : ByteArray) (ln : Nat) (lfa : Nat → Int) (lfba : Nat → Int) (lfbba : Nat → Int) (at_ : Int) (i : Int) (b0a : Int) (b0baf : Nat → Int) (b0bban : Nat) (b0bbafn : Nat → Nat) (b0bbaff : Nat → Nat → Int) (b0bbban : Nat) (b0bbbaf : Nat → Int) : List (Nat × Nat × AV) := [(1000, 26, (.cons 1 (.sc (.int .i64 b0a)) (.cons 256 (.ar 256 1 (fun i0 => (.sc (.int .u8 (b0baf i0))))) (.cons 1 (.vec true 1 b0bban b0bban (fun i0 => (.vec true 1 (b0bbafn i0) (b0bbafn i0) (fun i1 => (.sc (.int .i64 (b0bbaff i0 i1))))))) (.cons 1 (.vec true 1 b0bbban b0bbban (fun i0 => (.sc (.int .i64 (b0bbbaf i0))))) .nil)))))]
def L6_2 (rulesn : Nat) (rulesfa : Nat → Int) (rulesfbaa : Nat → Int) (rulesfbabaf : Nat → Nat → Int) (text : ByteArray) (ln : Nat) (lfa : Nat → Int) (lfba : Nat → Int) (lfbba : Nat → Int) (at_ : Int) (i : Int) (b0a : Int) (b0baf : Nat → Int) (b0bban : Nat) (b0bbafn : Nat → Nat) (b0bbaff : Nat → Nat → Int) (b0bbban : Nat) (b0bbbaf : Nat → Int) (res : AV) : Prop := Goes ⟨Go.Proofs.Try.prog, 6, [], res, []⟩ (place Go.Proofs.Try.f6 [1, 1, 1, 1, 1, 0, 1, 0, 0, 1, 1]) (s6_2 rulesn rulesfa rulesfbaa rulesfbabaf text ln lfa lfba lfbba at_ i b0a b0baf b0bban b0bbafn b0bbaff b0bbban b0bbbaf) (m6_2 rulesn rulesfa rulesfbaa rulesfbabaf text ln lfa lfba lfbba at_ i b0a b0baf b0bban b0bbafn b0bbaff b0bbban b0bbbaf)
theorem a6_2 (rulesn : Nat) (rulesfa : Nat → Int) (rulesfbaa : Nat → Int) (rulesfbabaf : Nat → Nat → Int) (text : ByteArray) (ln : Nat) (lfa : Nat → Int) (lfba : Nat → Int) (lfbba : Nat → Int) (at_ : Int) (i : Int) (b0a : Int) (b0baf : Nat → Int) (b0bban : Nat) (b0bbafn : Nat → Nat) (b0bbaff : Nat → Nat → Int) (b0bbban : Nat) (b0bbbaf : Nat → Int) (res : AV) (h : (∀ slot, fact (look .undef (s6_2 rulesn rulesfa rulesfbaa rulesfbabaf text ln lfa lfba lfbba at_ i b0a b0baf b0bban b0bbafn b0bbaff b0bbban b0bbbaf) slot)) → L6_2 rulesn rulesfa rulesfbaa rulesfbabaf text ln lfa lfba lfbba at_ i b0a b0baf b0bban b0bbafn b0bbaff b0bbban b0bbbaf res) : L6_2 rulesn rulesfa rulesfbaa rulesfbabaf text ln lfa lfba lfbba at_ i b0a b0baf b0bban b0bbafn b0bbaff b0bbban b0bbbaf res :=
  assumeRule 6 [] Go.Proofs.Try.f6 hf6 [1, 1, 1, 1, 1, 0, 1, 0, 0, 1, 1] (s6_2 rulesn rulesfa rulesfbaa rulesfbabaf text ln lfa lfba lfbba at_ i b0a b0baf b0bban b0bbafn b0bbaff b0bbban b0bbbaf) (m6_2 rulesn rulesfa rulesfbaa rulesfbabaf text ln lfa lfba lfbba at_ i b0a b0baf b0bban b0bbafn b0bbaff b0bbban b0bbbaf) res [] _ (by kernel_rfl) h
theorem o6 (rulesn : Nat) (rulesfa : Nat → Int) (rulesfbaa : Nat → Int) (rulesfbabaf : Nat → Nat → Int) (da : Int) (dbaf : Nat → Int) (dbban : Nat) (dbbafn : Nat → Nat) (dbbaff : Nat → Nat → Int) (dbbban : Nat) (dbbbaf : Nat → Int) (text : ByteArray) (res : AV) (hnew : newOnly res) (h : L6_e rulesn rulesfa rulesfbaa rulesfbabaf da dbaf dbban dbbafn dbbaff dbbban dbbbaf text res) : Ok Go.Proofs.Try.prog 6 [(.vec true 7 rulesn rulesn (fun i0 => (.cons 1 (.sc (.int .i64 (rulesfa i0))) (.cons 6 (.cons 1 (.sc (.int .i64 (rulesfbaa i0))) (.cons 4 (.ar 4 1 (fun i1 => (.sc (.int .u64 (rulesfbabaf i0 i1))))) (.cons 1 .undef .nil))) .nil)))), (.cons 1 (.sc (.int .i64 da)) (.cons 256 (.ar 256 1 (fun i0 => (.sc (.int .u8 (dbaf i0))))) (.cons 1 (.vec true 1 dbban dbban (fun i0 => (.vec true 1 (dbbafn i0) (dbbafn i0) (fun i1 => (.sc (.int .i64 (dbbaff i0 i1))))))) (.cons 1 (.vec true 1 dbbban dbbban (fun i0 => (.sc (.int .i64 (dbbbaf i0))))) .nil)))), (.sc (.string text))] [] res [] :=
  okRule2 6 Go.Proofs.Try.f6 hf6 [(.vec true 7 rulesn rulesn (fun i0 => (.cons 1 (.sc (.int .i64 (rulesfa i0))) (.cons 6 (.cons 1 (.sc (.int .i64 (rulesfbaa i0))) (.cons 4 (.ar 4 1 (fun i1 => (.sc (.int .u64 (rulesfbabaf i0 i1))))) (.cons 1 .undef .nil))) .nil)))), (.cons 1 (.sc (.int .i64 da)) (.cons 256 (.ar 256 1 (fun i0 => (.sc (.int .u8 (dbaf i0))))) (.cons 1 (.vec true 1 dbban dbban (fun i0 => (.vec true 1 (dbbafn i0) (dbbafn i0) (fun i1 => (.sc (.int .i64 (dbbaff i0 i1))))))) (.cons 1 (.vec true 1 dbbban dbbban (fun i0 => (.sc (.int .i64 (dbbbaf i0))))) .nil)))), (.sc (.string text))] [] res [] [] rfl (by kernel_rfl) (by kernel_rfl) (by kernel_rfl) ⟨hnew, by simp⟩ (L6_e rulesn rulesfa rulesfbaa rulesfbabaf da dbaf dbban dbbafn dbbaff dbbban dbbbaf text res) (by kernel_rfl) h
theorem r6_e (rulesn : Nat) (rulesfa : Nat → Int) (rulesfbaa : Nat → Int) (rulesfbabaf : Nat → Nat → Int) (da : Int) (dbaf : Nat → Int) (dbban : Nat) (dbbafn : Nat → Nat) (dbbaff : Nat → Nat → Int) (dbbban : Nat) (dbbbaf : Nat → Int) (text : ByteArray) (res : AV)
    (h : ∃ (r : Bool),
  Ok Proofs.Try.prog (28 : Nat)
    [AV.vec true (7 : Nat) rulesn rulesn fun (i : Nat) =>
    AV.cons (1 : Nat) (AV.sc (Value.int IntKind.i64 (rulesfa i)))
    (AV.cons (6 : Nat)
    (AV.cons (1 : Nat) (AV.sc (Value.int IntKind.i64 (rulesfbaa i)))
    (AV.cons (4 : Nat) (AV.ar (4 : Nat) (1 : Nat) fun (i_1 : Nat) => AV.sc (Value.int IntKind.u64 (rulesfbabaf i i_1)))
    (AV.cons (1 : Nat) AV.undef AV.nil)))
    AV.nil),
    AV.cons (1 : Nat) (AV.sc (Value.int IntKind.i64 da))
    (AV.cons (256 : Nat) (AV.ar (256 : Nat) (1 : Nat) fun (i : Nat) => AV.sc (Value.int IntKind.u8 (dbaf i)))
    (AV.cons (1 : Nat)
    (AV.vec true (1 : Nat) dbban dbban fun (i : Nat) =>
    AV.vec true (1 : Nat) (dbbafn i) (dbbafn i) fun (i_1 : Nat) => AV.sc (Value.int IntKind.i64 (dbbaff i i_1)))
    (AV.cons (1 : Nat) (AV.vec true (1 : Nat) dbbban dbbban fun (i : Nat) => AV.sc (Value.int IntKind.i64 (dbbbaf i))) AV.nil))),
    AV.sc (Value.string text)]
    [] (AV.sc (Value.bool r)) [] ∧
    ((!r) = true → Sub (AV.sc (Value.bool true)) res) ∧
    ((!r) = false →
    ∃ (r : Nat × (Nat → Int) × (Nat → Int) × (Nat → Int) × Int),
    Ok Proofs.Try.prog (23 : Nat)
    [AV.vec true (7 : Nat) rulesn rulesn fun (i : Nat) =>
    AV.cons (1 : Nat) (AV.sc (Value.int IntKind.i64 (rulesfa i)))
    (AV.cons (6 : Nat)
    (AV.cons (1 : Nat) (AV.sc (Value.int IntKind.i64 (rulesfbaa i)))
    (AV.cons (4 : Nat) (AV.ar (4 : Nat) (1 : Nat) fun (i_1 : Nat) => AV.sc (Value.int IntKind.u64 (rulesfbabaf i i_1)))
    (AV.cons (1 : Nat) AV.undef AV.nil)))
    AV.nil),
    AV.cons (1 : Nat) (AV.sc (Value.int IntKind.i64 da))
    (AV.cons (256 : Nat) (AV.ar (256 : Nat) (1 : Nat) fun (i : Nat) => AV.sc (Value.int IntKind.u8 (dbaf i)))
    (AV.cons (1 : Nat)
    (AV.vec true (1 : Nat) dbban dbban fun (i : Nat) =>
    AV.vec true (1 : Nat) (dbbafn i) (dbbafn i) fun (i_1 : Nat) => AV.sc (Value.int IntKind.i64 (dbbaff i i_1)))
    (AV.cons (1 : Nat) (AV.vec true (1 : Nat) dbbban dbbban fun (i : Nat) => AV.sc (Value.int IntKind.i64 (dbbbaf i))) AV.nil))),
    AV.sc (Value.string text)]
    []
    (AV.cons (1 : Nat)
    (AV.vec false (3 : Nat) r.fst r.fst fun (i0 : Nat) =>
    AV.cons (1 : Nat) (AV.sc (Value.int IntKind.i64 (r.snd.fst i0)))
    (AV.cons (1 : Nat) (AV.sc (Value.int IntKind.i64 (r.snd.snd.fst i0)))
    (AV.cons (1 : Nat) (AV.sc (Value.int IntKind.i64 (r.snd.snd.snd.fst i0))) AV.nil)))
    (AV.cons (1 : Nat) (AV.sc (Value.int IntKind.i64 r.snd.snd.snd.snd)) AV.nil)).tup
    [] ∧
    ((r.snd.snd.snd.snd != (0 : Int)) = true →
    (((↑r.fst : Int) == (0 : Int)) = true →
    ∃ (r : Bool), Ok Proofs.Try.prog (27 : Nat) [] [] (AV.sc (Value.bool r)) [] ∧ Sub (AV.sc (Value.bool r)) res) ∧
    (((↑r.fst : Int) == (0 : Int)) = !true → Sub (AV.sc (Value.bool false)) res)) ∧
    ((r.snd.snd.snd.snd != (0 : Int)) = false →
    L6_0 rulesn rulesfa rulesfbaa rulesfbabaf text r.fst r.snd.fst r.snd.snd.fst r.snd.snd.snd.fst (0 : Int) (0 : Int) da dbaf dbban dbbafn dbbaff
    dbbban dbbbaf res))) :
    L6_e rulesn rulesfa rulesfbaa rulesfbabaf da dbaf dbban dbbafn dbbaff dbbban dbbbaf text res :=
  rule Go.Am.Seat.tabOk 6 [] Go.Proofs.Try.f6 hf6 [] (s6_e rulesn rulesfa rulesfbaa rulesfbabaf da dbaf dbban dbbafn dbbaff dbbban dbbbaf text) (m6_e rulesn rulesfa rulesfbaa rulesfbabaf da dbaf dbban dbbafn dbbaff dbbban dbbbaf text) res [] 400
    (Orc.call [] [] (fun (r28 : Bool) => AV.sc (Value.bool r28)) (fun (r28 : Bool) => []) fun (r28 : Bool) =>
  (Orc.fin (AV.sc (Value.bool true)) [] []).br
    (Orc.call [] []
    (fun (r23 : Nat × (Nat → Int) × (Nat → Int) × (Nat → Int) × Int) =>
    (AV.cons (1 : Nat)
    (AV.vec false (3 : Nat) r23.fst r23.fst fun (i0 : Nat) =>
    AV.cons (1 : Nat) (AV.sc (Value.int IntKind.i64 (r23.snd.fst i0)))
    (AV.cons (1 : Nat) (AV.sc (Value.int IntKind.i64 (r23.snd.snd.fst i0)))
    (AV.cons (1 : Nat) (AV.sc (Value.int IntKind.i64 (r23.snd.snd.snd.fst i0))) AV.nil)))
    (AV.cons (1 : Nat) (AV.sc (Value.int IntKind.i64 r23.snd.snd.snd.snd)) AV.nil)).tup)
    (fun (r23 : Nat × (Nat → Int) × (Nat → Int) × (Nat → Int) × Int) => []) fun (r23 : Nat × (Nat → Int) × (Nat → Int) × (Nat → Int) × Int) =>
    ((Orc.call [] [] (fun (r27 : Bool) => AV.sc (Value.bool r27)) (fun (r27 : Bool) => []) fun (r27 : Bool) =>
    Orc.fin (AV.sc (Value.bool (bif true then r27 else false))) [] []).br
    (Orc.fin (AV.sc (Value.bool false)) [] [])).br
    (Orc.cut (nat_lit 8)
    (s6_0 rulesn rulesfa rulesfbaa rulesfbabaf text r23.fst r23.snd.fst r23.snd.snd.fst r23.snd.snd.snd.fst (0 : Int) (0 : Int) da dbaf dbban dbbafn
    dbbaff dbbban dbbbaf)
    (m6_0 rulesn rulesfa rulesfbaa rulesfbabaf text r23.fst r23.snd.fst r23.snd.snd.fst r23.snd.snd.snd.fst (0 : Int) (0 : Int) da dbaf dbban dbbafn
    dbbaff dbbban dbbbaf)
    [((1000 : Nat), some (4 : Nat))]))) _ _ (by kernel_rfl) (by kernel_rfl) (show True ∧
  True ∧
    True ∧
    ((0 : Nat) = (0 : Nat) ∧ True) ∧
    True ∧
    ∃ (r : Bool),
    ((True ∧ (True ∧ True ∧ True ∧ True ∧ True) ∧ True ∧ True) ∧
    True ∧
    Ok Proofs.Try.prog (28 : Nat)
    [AV.vec true (7 : Nat) rulesn rulesn fun (i : Nat) =>
    AV.cons (1 : Nat) (AV.sc (Value.int IntKind.i64 (rulesfa i)))
    (AV.cons (6 : Nat)
    (AV.cons (1 : Nat) (AV.sc (Value.int IntKind.i64 (rulesfbaa i)))
    (AV.cons (4 : Nat) (AV.ar (4 : Nat) (1 : Nat) fun (i_1 : Nat) => AV.sc (Value.int IntKind.u64 (rulesfbabaf i i_1)))
    (AV.cons (1 : Nat) AV.undef AV.nil)))
    AV.nil),
    AV.cons (1 : Nat) (AV.sc (Value.int IntKind.i64 da))
    (AV.cons (256 : Nat) (AV.ar (256 : Nat) (1 : Nat) fun (i : Nat) => AV.sc (Value.int IntKind.u8 (dbaf i)))
    (AV.cons (1 : Nat)
    (AV.vec true (1 : Nat) dbban dbban fun (i : Nat) =>
    AV.vec true (1 : Nat) (dbbafn i) (dbbafn i) fun (i_1 : Nat) => AV.sc (Value.int IntKind.i64 (dbbaff i i_1)))
    (AV.cons (1 : Nat) (AV.vec true (1 : Nat) dbbban dbbban fun (i : Nat) => AV.sc (Value.int IntKind.i64 (dbbbaf i))) AV.nil))),
    AV.sc (Value.string text)]
    [] (AV.sc (Value.bool r)) []) ∧
    True ∧
    ((!r) = true →
    True ∧
    True ∧
    ((True ∧ Sub (AV.sc (Value.bool true)) (AV.sc (Value.bool true)) ∧ True) ∧ True) ∧ Sub (AV.sc (Value.bool true)) res ∧ SubOut [] []) ∧
    ((!r) = false →
    True ∧
    ((0 : Nat) = (0 : Nat) ∧ True) ∧
    True ∧
    ∃ (r : Nat × (Nat → Int) × (Nat → Int) × (Nat → Int) × Int),
    ((True ∧ (True ∧ True ∧ True ∧ True ∧ True) ∧ True ∧ True) ∧
    True ∧
    Ok Proofs.Try.prog (23 : Nat)
    [AV.vec true (7 : Nat) rulesn rulesn fun (i : Nat) =>
    AV.cons (1 : Nat) (AV.sc (Value.int IntKind.i64 (rulesfa i)))
    (AV.cons (6 : Nat)
    (AV.cons (1 : Nat) (AV.sc (Value.int IntKind.i64 (rulesfbaa i)))
    (AV.cons (4 : Nat)
    (AV.ar (4 : Nat) (1 : Nat) fun (i_1 : Nat) => AV.sc (Value.int IntKind.u64 (rulesfbabaf i i_1)))
    (AV.cons (1 : Nat) AV.undef AV.nil)))
    AV.nil),
    AV.cons (1 : Nat) (AV.sc (Value.int IntKind.i64 da))
    (AV.cons (256 : Nat) (AV.ar (256 : Nat) (1 : Nat) fun (i : Nat) => AV.sc (Value.int IntKind.u8 (dbaf i)))
    (AV.cons (1 : Nat)
    (AV.vec true (1 : Nat) dbban dbban fun (i : Nat) =>
    AV.vec true (1 : Nat) (dbbafn i) (dbbafn i) fun (i_1 : Nat) => AV.sc (Value.int IntKind.i64 (dbbaff i i_1)))
    (AV.cons (1 : Nat) (AV.vec true (1 : Nat) dbbban dbbban fun (i : Nat) => AV.sc (Value.int IntKind.i64 (dbbbaf i)))
    AV.nil))),
    AV.sc (Value.string text)]
    []
    (AV.cons (1 : Nat)
    (AV.vec false (3 : Nat) r.fst r.fst fun (i0 : Nat) =>
    AV.cons (1 : Nat) (AV.sc (Value.int IntKind.i64 (r.snd.fst i0)))
    (AV.cons (1 : Nat) (AV.sc (Value.int IntKind.i64 (r.snd.snd.fst i0)))
    (AV.cons (1 : Nat) (AV.sc (Value.int IntKind.i64 (r.snd.snd.snd.fst i0))) AV.nil)))
    (AV.cons (1 : Nat) (AV.sc (Value.int IntKind.i64 r.snd.snd.snd.snd)) AV.nil)).tup
    []) ∧
    True ∧
    True ∧
    True ∧
    True ∧
    True ∧
    True ∧
    True ∧
    ((r.snd.snd.snd.snd != (0 : Int)) = true →
    True ∧
    True ∧
    True ∧
    True ∧
    (((↑r.fst : Int) == (0 : Int)) = true →
    ∃ (r : Bool),
    (True ∧ True ∧ Ok Proofs.Try.prog (27 : Nat) [] [] (AV.sc (Value.bool r)) []) ∧
    True ∧
    True ∧
    True ∧
    ((True ∧ Sub (AV.sc (Value.bool r)) (AV.sc (Value.bool r)) ∧ True) ∧ True) ∧
    Sub (AV.sc (Value.bool r)) res ∧ SubOut [] []) ∧
    (((↑r.fst : Int) == (0 : Int)) = !true →
    true = true ∧
    True ∧
    True ∧
    True ∧
    ((True ∧ Sub (AV.sc (Value.bool false)) (AV.sc (Value.bool false)) ∧ True) ∧ True) ∧
    Sub (AV.sc (Value.bool false)) res ∧ SubOut [] [])) ∧
    ((r.snd.snd.snd.snd != (0 : Int)) = false →
    True ∧
    True ∧
    ((True ∧
    Sub
    (AV.vec true (7 : Nat) rulesn rulesn fun (i0 : Nat) =>
    AV.cons (1 : Nat) (AV.sc (Value.int IntKind.i64 (rulesfa i0)))
    (AV.cons (6 : Nat)
    (AV.cons (1 : Nat) (AV.sc (Value.int IntKind.i64 (rulesfbaa i0)))
    (AV.cons (4 : Nat)
    (AV.ar (4 : Nat) (1 : Nat) fun (i1 : Nat) =>
    AV.sc (Value.int IntKind.u64 (rulesfbabaf i0 i1)))
    (AV.cons (1 : Nat) AV.undef AV.nil)))
    AV.nil))
    (AV.vec true (7 : Nat) rulesn rulesn fun (i0 : Nat) =>
    AV.cons (1 : Nat) (AV.sc (Value.int IntKind.i64 (rulesfa i0)))
    (AV.cons (6 : Nat)
    (AV.cons (1 : Nat) (AV.sc (Value.int IntKind.i64 (rulesfbaa i0)))
    (AV.cons (4 : Nat)
    (AV.ar (4 : Nat) (1 : Nat) fun (i1 : Nat) =>
    AV.sc (Value.int IntKind.u64 (rulesfbabaf i0 i1)))
    (AV.cons (1 : Nat) AV.undef AV.nil)))
    AV.nil)) ∧
    True ∧
    Sub (AV.sc (Value.string text)) (AV.sc (Value.string text)) ∧
    True ∧
    Sub (AV.pt (1000 : Nat) [] (0 : Nat)) (AV.pt (1000 : Nat) [] (0 : Nat)) ∧
    True ∧
    Sub
    (AV.vec false (3 : Nat) r.fst r.fst fun (i0 : Nat) =>
    AV.cons (1 : Nat) (AV.sc (Value.int IntKind.i64 (r.snd.fst i0)))
    (AV.cons (1 : Nat) (AV.sc (Value.int IntKind.i64 (r.snd.snd.fst i0)))
    (AV.cons (1 : Nat) (AV.sc (Value.int IntKind.i64 (r.snd.snd.snd.fst i0)))
    AV.nil)))
    (AV.vec false (3 : Nat) r.fst r.fst fun (i0 : Nat) =>
    AV.cons (1 : Nat) (AV.sc (Value.int IntKind.i64 (r.snd.fst i0)))
    (AV.cons (1 : Nat) (AV.sc (Value.int IntKind.i64 (r.snd.snd.fst i0)))
    (AV.cons (1 : Nat) (AV.sc (Value.int IntKind.i64 (r.snd.snd.snd.fst i0)))
    AV.nil))) ∧
    True ∧
    Sub (AV.sc (Value.int IntKind.i64 (0 : Int)))
    (AV.sc (Value.int IntKind.i64 (0 : Int))) ∧
    True ∧
    Sub (AV.sc (Value.int IntKind.i64 (0 : Int)))
    (AV.sc (Value.int IntKind.i64 (0 : Int))) ∧
    True) ∧
    (True ∧ True ∧ True ∧ True ∧ True) ∧
    SubB
    (AV.cons (1 : Nat) (AV.sc (Value.int IntKind.i64 da))
    (AV.cons (256 : Nat)
    (AV.ar (256 : Nat) (1 : Nat) fun (i0 : Nat) => AV.sc (Value.int IntKind.u8 (dbaf i0)))
    (AV.cons (1 : Nat)
    (AV.vec true (1 : Nat) dbban dbban fun (i0 : Nat) =>
    AV.vec true (1 : Nat) (dbbafn i0) (dbbafn i0) fun (i1 : Nat) =>
    AV.sc (Value.int IntKind.i64 (dbbaff i0 i1)))
    (AV.cons (1 : Nat)
    (AV.vec true (1 : Nat) dbbban dbbban fun (i0 : Nat) =>
    AV.sc (Value.int IntKind.i64 (dbbbaf i0)))
    AV.nil))))
    (AV.cons (1 : Nat) (AV.sc (Value.int IntKind.i64 da))
    (AV.cons (256 : Nat)
    (AV.ar (256 : Nat) (1 : Nat) fun (i0 : Nat) => AV.sc (Value.int IntKind.u8 (dbaf i0)))
    (AV.cons (1 : Nat)
    (AV.vec true (1 : Nat) dbban dbban fun (i0 : Nat) =>
    AV.vec true (1 : Nat) (dbbafn i0) (dbbafn i0) fun (i1 : Nat) =>
    AV.sc (Value.int IntKind.i64 (dbbaff i0 i1)))
    (AV.cons (1 : Nat)
    (AV.vec true (1 : Nat) dbbban dbbban fun (i0 : Nat) =>
    AV.sc (Value.int IntKind.i64 (dbbbaf i0)))
    AV.nil)))) ∧
    True) ∧
    L6_0 rulesn rulesfa rulesfbaa rulesfbabaf text r.fst r.snd.fst r.snd.snd.fst r.snd.snd.snd.fst (0 : Int)
    (0 : Int) da dbaf dbban dbbafn dbbaff dbbban dbbbaf res)) from
    ⟨trivial, ⟨trivial, ⟨trivial, ⟨⟨rfl, trivial⟩, ⟨trivial, (Exists.elim h fun x5 h5 => ⟨x5, (And.elim (fun h6 k6 => ⟨⟨⟨trivial, ⟨⟨trivial, ⟨trivial, ⟨trivial, ⟨trivial, trivial⟩⟩⟩⟩, ⟨trivial, trivial⟩⟩⟩, ⟨trivial, h6⟩⟩, ⟨trivial, (And.elim (fun h8 k8 => ⟨(fun x9 => (fun h9 => ⟨trivial, ⟨trivial, ⟨⟨⟨trivial, ⟨Sub.refl _, trivial⟩⟩, trivial⟩, ((fun h13 => ⟨h13, trivial⟩) h9)⟩⟩⟩) (h8 x9)), (fun x9 => (fun h9 => ⟨trivial, ⟨⟨rfl, trivial⟩, ⟨trivial, (Exists.elim h9 fun x13 h13 => ⟨x13, (And.elim (fun h14 k14 => ⟨⟨⟨trivial, ⟨⟨trivial, ⟨trivial, ⟨trivial, ⟨trivial, trivial⟩⟩⟩⟩, ⟨trivial, trivial⟩⟩⟩, ⟨trivial, h14⟩⟩, ⟨trivial, ⟨trivial, ⟨trivial, ⟨trivial, ⟨trivial, ⟨trivial, ⟨trivial, (And.elim (fun h22 k22 => ⟨(fun x23 => (fun h23 => ⟨trivial, ⟨trivial, ⟨trivial, ⟨trivial, (And.elim (fun h28 k28 => ⟨(fun x29 => (fun h29 => (Exists.elim h29 fun x30 h30 => ⟨x30, (And.elim (fun h31 k31 => ⟨⟨trivial, ⟨trivial, h31⟩⟩, ⟨trivial, ⟨trivial, ⟨trivial, ⟨⟨⟨trivial, ⟨Sub.refl _, trivial⟩⟩, trivial⟩, ((fun h36 => ⟨h36, trivial⟩) k31)⟩⟩⟩⟩⟩) h30)⟩)) (h28 x29)), (fun x29 => (fun h29 => ⟨rfl, ⟨trivial, ⟨trivial, ⟨trivial, ⟨⟨⟨trivial, ⟨Sub.refl _, trivial⟩⟩, trivial⟩, ((fun h35 => ⟨h35, trivial⟩) h29)⟩⟩⟩⟩⟩) (k28 x29))⟩) h23)⟩⟩⟩⟩) (h22 x23)), (fun x23 => (fun h23 => ⟨trivial, ⟨trivial, ⟨⟨⟨trivial, ⟨Sub.refl _, ⟨trivial, ⟨Sub.refl _, ⟨trivial, ⟨Sub.refl _, ⟨trivial, ⟨Sub.refl _, ⟨trivial, ⟨Sub.refl _, ⟨trivial, ⟨Sub.refl _, trivial⟩⟩⟩⟩⟩⟩⟩⟩⟩⟩⟩⟩, ⟨⟨trivial, ⟨trivial, ⟨trivial, ⟨trivial, trivial⟩⟩⟩⟩, ⟨SubB.refl _, trivial⟩⟩⟩, h23⟩⟩⟩) (k22 x23))⟩) k14)⟩⟩⟩⟩⟩⟩⟩⟩) h13)⟩)⟩⟩⟩) (k8 x9))⟩) k6)⟩⟩) h5)⟩)⟩⟩⟩⟩⟩)
theorem r6_0 (rulesn : Nat) (rulesfa : Nat → Int) (rulesfbaa : Nat → Int) (rulesfbabaf : Nat → Nat → Int) (text : ByteArray) (ln : Nat) (lfa : Nat → Int) (lfba : Nat → Int) (lfbba : Nat → Int) (at_ : Int) (i : Int) (b0a : Int) (b0baf : Nat → Int) (b0bban : Nat) (b0bbafn : Nat → Nat) (b0bbaff : Nat → Nat → Int) (b0bbban : Nat) (b0bbbaf : Nat → Int) (res : AV)
    (h : (decide (i < (↑ln : Int)) = true →
    ((0 : Int) ≤ i ∧ i < (↑ln : Int)) ∧
    ∃ (r : Int × Int × Int × Int),
    Ok Proofs.Try.prog (17 : Nat)
    [AV.cons (1 : Nat) (AV.sc (Value.int IntKind.i64 b0a))
    (AV.cons (256 : Nat) (AV.ar (256 : Nat) (1 : Nat) fun (i : Nat) => AV.sc (Value.int IntKind.u8 (b0baf i)))
    (AV.cons (1 : Nat)
    (AV.vec true (1 : Nat) b0bban b0bban fun (i : Nat) =>
    AV.vec true (1 : Nat) (b0bbafn i) (b0bbafn i) fun (i_1 : Nat) => AV.sc (Value.int IntKind.i64 (b0bbaff i i_1)))
    (AV.cons (1 : Nat) (AV.vec true (1 : Nat) b0bbban b0bbban fun (i : Nat) => AV.sc (Value.int IntKind.i64 (b0bbbaf i))) AV.nil))),
    AV.sc (Value.string text), AV.sc (Value.int IntKind.i64 at_)]
    []
    (AV.cons (1 : Nat)
    (AV.cons (1 : Nat) (AV.sc (Value.int IntKind.i64 r.fst))
    (AV.cons (1 : Nat) (AV.sc (Value.int IntKind.i64 r.snd.fst)) (AV.cons (1 : Nat) (AV.sc (Value.int IntKind.i64 r.snd.snd.fst)) AV.nil)))
    (AV.cons (1 : Nat) (AV.sc (Value.int IntKind.i64 r.snd.snd.snd)) AV.nil)).tup
    [] ∧
    ((r.snd.snd.snd != (0 : Int)) = false →
    (decide (lfba i.toNat < (1 : Int)) = false →
    ((lfbba i.toNat != r.snd.snd.fst) = true → Sub (AV.sc (Value.bool false)) res) ∧
    ((lfbba i.toNat != r.snd.snd.fst) = false →
    (decide (r.fst < (0 : Int)) = true →
    ((lfa i.toNat != (23 : Int)) = false →
    ((lfba i.toNat != (1 : Int)) = true → Sub (AV.sc (Value.bool false)) res) ∧
    ((lfba i.toNat != (1 : Int)) = false →
    L6_1 rulesn rulesfa rulesfbaa rulesfbabaf text ln lfa lfba lfbba at_ i b0a b0baf b0bban b0bbafn b0bbaff b0bbban b0bbbaf
    (lfa i.toNat) (lfba i.toNat) (lfbba i.toNat) res)) ∧
    ((lfa i.toNat != (23 : Int)) = !false → Sub (AV.sc (Value.bool false)) res)) ∧
    (decide (r.fst < (0 : Int)) = false →
    (decide (r.fst ≥ (↑rulesn : Int)) = false →
    ((0 : Int) ≤ r.fst ∧ r.fst < (↑rulesn : Int)) ∧
    ((lfa i.toNat != rulesfa r.fst.toNat) = false →
    ((lfba i.toNat != r.snd.fst) = true → Sub (AV.sc (Value.bool false)) res) ∧
    ((lfba i.toNat != r.snd.fst) = false →
    L6_1 rulesn rulesfa rulesfbaa rulesfbabaf text ln lfa lfba lfbba at_ i b0a b0baf b0bban b0bbafn b0bbaff b0bbban b0bbbaf
    (lfa i.toNat) (lfba i.toNat) (lfbba i.toNat) res)) ∧
    ((lfa i.toNat != rulesfa r.fst.toNat) = !false → Sub (AV.sc (Value.bool false)) res)) ∧
    (decide (r.fst ≥ (↑rulesn : Int)) = !false → Sub (AV.sc (Value.bool false)) res)))) ∧
    (decide (lfba i.toNat < (1 : Int)) = !false → Sub (AV.sc (Value.bool false)) res)) ∧
    ((r.snd.snd.snd != (0 : Int)) = !false → Sub (AV.sc (Value.bool false)) res)) ∧
  (decide (i < (↑ln : Int)) = false →
    ((at_ == (↑text.size : Int)) = true → ∃ (r : Bool), Ok Proofs.Try.prog (27 : Nat) [] [] (AV.sc (Value.bool r)) [] ∧ Sub (AV.sc (Value.bool r)) res) ∧
    ((at_ == (↑text.size : Int)) = !true → Sub (AV.sc (Value.bool false)) res))) :
    L6_0 rulesn rulesfa rulesfbaa rulesfbabaf text ln lfa lfba lfbba at_ i b0a b0baf b0bban b0bbafn b0bbaff b0bbban b0bbbaf res :=
  rule Go.Am.Seat.tabOk 6 [] Go.Proofs.Try.f6 hf6 [1, 1, 1, 1, 1, 0, 1, 0, 0] (s6_0 rulesn rulesfa rulesfbaa rulesfbabaf text ln lfa lfba lfbba at_ i b0a b0baf b0bban b0bbafn b0bbaff b0bbban b0bbbaf) (m6_0 rulesn rulesfa rulesfbaa rulesfbabaf text ln lfa lfba lfbba at_ i b0a b0baf b0bban b0bbafn b0bbaff b0bbban b0bbbaf) res [] 400
    ((Orc.call [] []
    (fun (r17 : Int × Int × Int × Int) =>
    (AV.cons (1 : Nat)
    (AV.cons (1 : Nat) (AV.sc (Value.int IntKind.i64 r17.fst))
    (AV.cons (1 : Nat) (AV.sc (Value.int IntKind.i64 r17.snd.fst)) (AV.cons (1 : Nat) (AV.sc (Value.int IntKind.i64 r17.snd.snd.fst)) AV.nil)))
    (AV.cons (1 : Nat) (AV.sc (Value.int IntKind.i64 r17.snd.snd.snd)) AV.nil)).tup)
    (fun (r17 : Int × Int × Int × Int) => []) fun (r17 : Int × Int × Int × Int) =>
    (((Orc.fin (AV.sc (Value.bool false)) [] []).br
    ((((Orc.fin (AV.sc (Value.bool false)) [] []).br
    (Orc.cut (nat_lit 1)
    (s6_1 rulesn rulesfa rulesfbaa rulesfbabaf text ln lfa lfba lfbba at_ i b0a b0baf b0bban b0bbafn b0bbaff b0bbban
    b0bbbaf (lfa i.toNat) (lfba i.toNat) (lfbba i.toNat))
    (m6_1 rulesn rulesfa rulesfbaa rulesfbabaf text ln lfa lfba lfbba at_ i b0a b0baf b0bban b0bbafn b0bbaff b0bbban
    b0bbbaf (lfa i.toNat) (lfba i.toNat) (lfbba i.toNat))
    [((1000 : Nat), some (1000 : Nat)), ((1001 : Nat), some (11 : Nat))])).yes.yes.br
    (Orc.fin (AV.sc (Value.bool false)) [] []).yes.no.no).br
    ((Orc.ch Ch.none
    (Orc.ch (Ch.p false)
    ((Orc.ch Ch.none
    (Orc.ch (Ch.p false)
    ((Orc.fin (AV.sc (Value.bool false)) [] []).br
    (Orc.cut (nat_lit 1)
    (s6_1 rulesn rulesfa rulesfbaa rulesfbabaf text ln lfa lfba lfbba at_ i b0a b0baf
    b0bban b0bbafn b0bbaff b0bbban b0bbbaf (lfa i.toNat) (lfba i.toNat) (lfbba i.toNat))
    (m6_1 rulesn rulesfa rulesfbaa rulesfbabaf text ln lfa lfba lfbba at_ i b0a b0baf
    b0bban b0bbafn b0bbaff b0bbban b0bbbaf (lfa i.toNat) (lfba i.toNat) (lfbba i.toNat))
    [((1000 : Nat), some (1000 : Nat)),
    ((1001 : Nat), some (11 : Nat))])))).yes.yes.yes.yes.br
    (Orc.ch (Ch.p true)
    (Orc.fin (AV.sc (Value.bool false)) []
    []).yes).no.no.no.no))).yes.yes.yes.yes.yes.yes.yes.yes.br
    (Orc.ch (Ch.p true)
    (Orc.ch (Ch.p true)
    (Orc.fin (AV.sc (Value.bool false)) []
    []).yes).no.no.no.no.no).no.no.no.no.no.no.no.no))).yes.yes.yes.yes.br
    (Orc.fin (AV.sc (Value.bool false)) [] []).yes.no.no.no.no).yes.yes.br
    (Orc.fin (AV.sc (Value.bool false)) [] []).yes.no.no.no.no.no.no.no).br
  ((Orc.call [] [] (fun (r27 : Bool) => AV.sc (Value.bool r27)) (fun (r27 : Bool) => []) fun (r27 : Bool) =>
    Orc.fin (AV.sc (Value.bool (bif true then r27 else false))) [] []).br
    (Orc.fin (AV.sc (Value.bool false)) [] []))) _ _ (by kernel_rfl) (by kernel_rfl) (show True ∧
  True ∧
    True ∧
    True ∧
    (decide (i < (↑ln : Int)) = true →
    True ∧
    True ∧
    ((0 : Int) ≤ i ∧ i < (↑ln : Int)) ∧
    True ∧
    True ∧
    ((0 : Nat) = (0 : Nat) ∧ True) ∧
    ((0 : Nat) = (0 : Nat) ∧ True) ∧
    True ∧
    True ∧
    ∃ (r : Int × Int × Int × Int),
    (((True ∧ True ∧ True ∧ True ∧ True) ∧ True ∧ True ∧ True) ∧
    True ∧
    Ok Proofs.Try.prog (17 : Nat)
    [AV.cons (1 : Nat) (AV.sc (Value.int IntKind.i64 b0a))
    (AV.cons (256 : Nat) (AV.ar (256 : Nat) (1 : Nat) fun (i : Nat) => AV.sc (Value.int IntKind.u8 (b0baf i)))
    (AV.cons (1 : Nat)
    (AV.vec true (1 : Nat) b0bban b0bban fun (i : Nat) =>
    AV.vec true (1 : Nat) (b0bbafn i) (b0bbafn i) fun (i_1 : Nat) =>
    AV.sc (Value.int IntKind.i64 (b0bbaff i i_1)))
    (AV.cons (1 : Nat)
    (AV.vec true (1 : Nat) b0bbban b0bbban fun (i : Nat) => AV.sc (Value.int IntKind.i64 (b0bbbaf i))) AV.nil))),
    AV.sc (Value.string text), AV.sc (Value.int IntKind.i64 at_)]
    []
    (AV.cons (1 : Nat)
    (AV.cons (1 : Nat) (AV.sc (Value.int IntKind.i64 r.fst))
    (AV.cons (1 : Nat) (AV.sc (Value.int IntKind.i64 r.snd.fst))
    (AV.cons (1 : Nat) (AV.sc (Value.int IntKind.i64 r.snd.snd.fst)) AV.nil)))
    (AV.cons (1 : Nat) (AV.sc (Value.int IntKind.i64 r.snd.snd.snd)) AV.nil)).tup
    []) ∧
    True ∧
    True ∧
    True ∧
    True ∧
    ((0 : Nat) = (0 : Nat) ∧ True) ∧
    True ∧
    True ∧
    True ∧
    True ∧
    ((r.snd.snd.snd != (0 : Int)) = false →
    True ∧
    false = false ∧
    ((1 : Nat) + (0 : Nat) = plus (0 : Nat) (1 : Nat) ∧ True) ∧
    false = false ∧
    True ∧
    True ∧
    True ∧
    (decide (lfba i.toNat < (1 : Int)) = false →
    True ∧
    false = false ∧
    ((1 : Nat) + ((1 : Nat) + (0 : Nat)) = plus (0 : Nat) (2 : Nat) ∧ True) ∧
    false = false ∧
    True ∧
    false = false ∧
    ((1 : Nat) + ((1 : Nat) + (0 : Nat)) = plus (0 : Nat) (2 : Nat) ∧ True) ∧
    false = false ∧
    True ∧
    True ∧
    ((lfbba i.toNat != r.snd.snd.fst) = true →
    True ∧
    True ∧
    ((True ∧
    Sub (AV.sc (Value.bool false))
    (AV.sc (Value.bool false)) ∧
    True) ∧
    True) ∧
    Sub (AV.sc (Value.bool false)) res ∧ SubOut [] []) ∧
    ((lfbba i.toNat != r.snd.snd.fst) = false →
    True ∧
    ((0 : Nat) = plus (0 : Nat) (0 : Nat) ∧ True) ∧
    True ∧
    (decide (r.fst < (0 : Int)) = true →
    True ∧
    ((0 : Nat) = plus (0 : Nat) (0 : Nat) ∧ True) ∧
    True ∧
    True ∧
    ((lfa i.toNat != (23 : Int)) = false →
    True ∧
    false = false ∧
    ((1 : Nat) + (0 : Nat) =
    plus (0 : Nat) (1 : Nat) ∧
    True) ∧
    false = false ∧
    True ∧
    True ∧
    ((lfba i.toNat !=
    (1 : Int)) =
    true →
    True ∧
    True ∧
    ((True ∧
    Sub
    (AV.sc
    (Value.bool
    false))
    (AV.sc
    (Value.bool
    false)) ∧
    True) ∧
    True) ∧
    Sub
    (AV.sc
    (Value.bool
    false))
    res ∧
    SubOut [] []) ∧
    ((lfba i.toNat !=
    (1 : Int)) =
    false →
    ((True ∧
    Sub
    (AV.vec true
    (7 : Nat)
    rulesn
    rulesn
    fun
    (i0 :
    Nat) =>
    AV.cons
    (1 : Nat)
    (AV.sc
    (Value.int
    IntKind.i64
    (rulesfa
    i0)))
    (AV.cons
    (6 :
    Nat)
    (AV.cons
    (1 :
    Nat)
    (AV.sc
    (Value.int
    IntKind.i64
    (rulesfbaa
    i0)))
    (AV.cons
    (4 :
    Nat)
    (AV.ar
    (4 :
    Nat)
    (1 :
    Nat)
    fun
    (i1 :
    Nat) =>
    AV.sc
    (Value.int
    IntKind.u64
    (rulesfbabaf
    i0
    i1)))
    (AV.cons
    (1 :
    Nat)
    AV.undef
    AV.nil)))
    AV.nil))
    (AV.vec true
    (7 : Nat)
    rulesn
    rulesn
    fun
    (i0 :
    Nat) =>
    AV.cons
    (1 : Nat)
    (AV.sc
    (Value.int
    IntKind.i64
    (rulesfa
    i0)))
    (AV.cons
    (6 :
    Nat)
    (AV.cons
    (1 :
    Nat)
    (AV.sc
    (Value.int
    IntKind.i64
    (rulesfbaa
    i0)))
    (AV.cons
    (4 :
    Nat)
    (AV.ar
    (4 :
    Nat)
    (1 :
    Nat)
    fun
    (i1 :
    Nat) =>
    AV.sc
    (Value.int
    IntKind.u64
    (rulesfbabaf
    i0
    i1)))
    (AV.cons
    (1 :
    Nat)
    AV.undef
    AV.nil)))
    AV.nil)) ∧
    True ∧
    Sub
    (AV.sc
    (Value.string
    text))
    (AV.sc
    (Value.string
    text)) ∧
    True ∧
    Sub
    (AV.pt
    (1000 :
    Nat)
    []
    (0 :
    Nat))
    (AV.pt
    (1000 :
    Nat)
    []
    (0 :
    Nat)) ∧
    True ∧
    Sub
    (AV.vec
    false
    (3 :
    Nat)
    ln
    ln
    fun
    (i0 :
    Nat) =>
    AV.cons
    (1 :
    Nat)
    (AV.sc
    (Value.int
    IntKind.i64
    (lfa
    i0)))
    (AV.cons
    (1 :
    Nat)
    (AV.sc
    (Value.int
    IntKind.i64
    (lfba
    i0)))
    (AV.cons
    (1 :
    Nat)
    (AV.sc
    (Value.int
    IntKind.i64
    (lfbba
    i0)))
    AV.nil)))
    (AV.vec
    false
    (3 :
    Nat)
    ln
    ln
    fun
    (i0 :
    Nat) =>
    AV.cons
    (1 :
    Nat)
    (AV.sc
    (Value.int
    IntKind.i64
    (lfa
    i0)))
    (AV.cons
    (1 :
    Nat)
    (AV.sc
    (Value.int
    IntKind.i64
    (lfba
    i0)))
    (AV.cons
    (1 :
    Nat)
    (AV.sc
    (Value.int
    IntKind.i64
    (lfbba
    i0)))
    AV.nil))) ∧
    True ∧
    Sub
    (AV.sc
    (Value.int
    IntKind.i64
    at_))
    (AV.sc
    (Value.int
    IntKind.i64
    at_)) ∧
    True ∧
    Sub
    (AV.sc
    (Value.int
    IntKind.i64
    i))
    (AV.sc
    (Value.int
    IntKind.i64
    i)) ∧
    True ∧
    Sub
    (AV.pt
    (1001 :
    Nat)
    []
    (0 :
    Nat))
    (AV.pt
    (1001 :
    Nat)
    []
    (0 :
    Nat)) ∧
    True) ∧
    (True ∧
    True ∧
    True ∧
    True ∧
    True) ∧
    SubB
    (AV.cons
    (1 : Nat)
    (AV.sc
    (Value.int
    IntKind.i64
    b0a))
    (AV.cons
    (256 :
    Nat)
    (AV.ar
    (256 :
    Nat)
    (1 :
    Nat)
    fun
    (i0 :
    Nat) =>
    AV.sc
    (Value.int
    IntKind.u8
    (b0baf
    i0)))
    (AV.cons
    (1 :
    Nat)
    (AV.vec
    true
    (1 :
    Nat)
    b0bban
    b0bban
    fun
    (i0 :
    Nat) =>
    AV.vec
    true
    (1 :
    Nat)
    (b0bbafn
    i0)
    (b0bbafn
    i0)
    fun
    (i1 :
    Nat) =>
    AV.sc
    (Value.int
    IntKind.i64
    (b0bbaff
    i0
    i1)))
    (AV.cons
    (1 :
    Nat)
    (AV.vec
    true
    (1 :
    Nat)
    b0bbban
    b0bbban
    fun
    (i0 :
    Nat) =>
    AV.sc
    (Value.int
    IntKind.i64
    (b0bbbaf
    i0)))
    AV.nil))))
    (AV.cons
    (1 : Nat)
    (AV.sc
    (Value.int
    IntKind.i64
    b0a))
    (AV.cons
    (256 :
    Nat)
    (AV.ar
    (256 :
    Nat)
    (1 :
    Nat)
    fun
    (i0 :
    Nat) =>
    AV.sc
    (Value.int
    IntKind.u8
    (b0baf
    i0)))
    (AV.cons
    (1 :
    Nat)
    (AV.vec
    true
    (1 :
    Nat)
    b0bban
    b0bban
    fun
    (i0 :
    Nat) =>
    AV.vec
    true
    (1 :
    Nat)
    (b0bbafn
    i0)
    (b0bbafn
    i0)
    fun
    (i1 :
    Nat) =>
    AV.sc
    (Value.int
    IntKind.i64
    (b0bbaff
    i0
    i1)))
    (AV.cons
    (1 :
    Nat)
    (AV.vec
    true
    (1 :
    Nat)
    b0bbban
    b0bbban
    fun
    (i0 :
    Nat) =>
    AV.sc
    (Value.int
    IntKind.i64
    (b0bbbaf
    i0)))
    AV.nil)))) ∧
    (True ∧
    True ∧
    True ∧
    True) ∧
    SubB
    (AV.cons
    (1 :
    Nat)
    (AV.sc
    (Value.int
    IntKind.i64
    (lfa
    i.toNat)))
    (AV.cons
    (1 :
    Nat)
    (AV.sc
    (Value.int
    IntKind.i64
    (lfba
    i.toNat)))
    (AV.cons
    (1 :
    Nat)
    (AV.sc
    (Value.int
    IntKind.i64
    (lfbba
    i.toNat)))
    AV.nil)))
    (AV.cons
    (1 :
    Nat)
    (AV.sc
    (Value.int
    IntKind.i64
    (lfa
    i.toNat)))
    (AV.cons
    (1 :
    Nat)
    (AV.sc
    (Value.int
    IntKind.i64
    (lfba
    i.toNat)))
    (AV.cons
    (1 :
    Nat)
    (AV.sc
    (Value.int
    IntKind.i64
    (lfbba
    i.toNat)))
    AV.nil))) ∧
    True) ∧
    L6_1 rulesn rulesfa
    rulesfbaa
    rulesfbabaf text ln
    lfa lfba lfbba at_ i
    b0a b0baf b0bban
    b0bbafn b0bbaff
    b0bbban b0bbbaf
    (lfa i.toNat)
    (lfba i.toNat)
    (lfbba i.toNat)
    res)) ∧
    ((lfa i.toNat != (23 : Int)) = !false →
    true = true ∧
    (!false) = !false ∧
    true = true ∧
    (!false) = !false ∧
    true = true ∧
    True ∧
    true = true ∧
    True ∧
    True ∧
    ((True ∧
    Sub
    (AV.sc
    (Value.bool
    false))
    (AV.sc
    (Value.bool
    false)) ∧
    True) ∧
    True) ∧
    Sub
    (AV.sc
    (Value.bool
    false))
    res ∧
    SubOut [] [])) ∧
    (decide (r.fst < (0 : Int)) = false →
    True ∧
    ((0 : Nat) = plus (0 : Nat) (0 : Nat) ∧ True) ∧
    True ∧
    True ∧
    True ∧
    True ∧
    (decide (r.fst ≥ (↑rulesn : Int)) =
    false →
    True ∧
    decide (r.fst ≥ (↑rulesn : Int)) =
    false ∧
    ((0 : Nat) =
    plus (0 : Nat) (0 : Nat) ∧
    True) ∧
    decide
    (r.fst ≥
    (↑rulesn : Int)) =
    false ∧
    True ∧
    decide
    (r.fst ≥
    (↑rulesn : Int)) =
    false ∧
    True ∧
    decide
    (r.fst ≥
    (↑rulesn :
    Int)) =
    false ∧
    ((0 : Nat) =
    plus (0 : Nat)
    (0 : Nat) ∧
    True) ∧
    decide
    (r.fst ≥
    (↑rulesn :
    Int)) =
    false ∧
    ((0 : Int) ≤
    r.fst ∧
    r.fst <
    (↑rulesn :
    Int)) ∧
    decide
    (r.fst ≥
    (↑rulesn :
    Int)) =
    false ∧
    True ∧
    decide
    (r.fst ≥
    (↑rulesn :
    Int)) =
    false ∧
    True ∧
    decide
    (r.fst ≥
    (↑rulesn :
    Int)) =
    false ∧
    True ∧
    decide
    (r.fst ≥
    (↑rulesn :
    Int)) =
    false ∧
    True ∧
    ((lfa
    i.toNat !=
    rulesfa
    r.fst.toNat) =
    false →
    True ∧
    (lfa
    i.toNat !=
    rulesfa
    r.fst.toNat) =
    false ∧
    ((1 :
    Nat) +
    (0 :
    Nat) =
    plus
    (0 :
    Nat)
    (1 :
    Nat) ∧
    True) ∧
    (lfa
    i.toNat !=
    rulesfa
    r.fst.toNat) =
    false ∧
    True ∧
    (lfa
    i.toNat !=
    rulesfa
    r.fst.toNat) =
    false ∧
    ((1 :
    Nat) +
    (0 :
    Nat) =
    plus
    (0 :
    Nat)
    (1 :
    Nat) ∧
    True) ∧
    (lfa
    i.toNat !=
    rulesfa
    r.fst.toNat) =
    false ∧
    True ∧
    (lfa
    i.toNat !=
    rulesfa
    r.fst.toNat) =
    false ∧
    ((lfba
    i.toNat !=
    r.snd.fst) =
    true →
    True ∧
    True ∧
    ((True ∧
    Sub
    (AV.sc
    (Value.bool
    false))
    (AV.sc
    (Value.bool
    false)) ∧
    True) ∧
    True) ∧
    Sub
    (AV.sc
    (Value.bool
    false))
    res ∧
    SubOut
    []
    []) ∧
    ((lfba
    i.toNat !=
    r.snd.fst) =
    false →
    ((True ∧
    Sub
    (AV.vec
    true
    (7 :
    Nat)
    rulesn
    rulesn
    fun
    (i0 :
    Nat) =>
    AV.cons
    (1 :
    Nat)
    (AV.sc
    (Value.int
    IntKind.i64
    (rulesfa
    i0)))
    (AV.cons
    (6 :
    Nat)
    (AV.cons
    (1 :
    Nat)
    (AV.sc
    (Value.int
    IntKind.i64
    (rulesfbaa
    i0)))
    (AV.cons
    (4 :
    Nat)
    (AV.ar
    (4 :
    Nat)
    (1 :
    Nat)
    fun
    (i1 :
    Nat) =>
    AV.sc
    (Value.int
    IntKind.u64
    (rulesfbabaf
    i0
    i1)))
    (AV.cons
    (1 :
    Nat)
    AV.undef
    AV.nil)))
    AV.nil))
    (AV.vec
    true
    (7 :
    Nat)
    rulesn
    rulesn
    fun
    (i0 :
    Nat) =>
    AV.cons
    (1 :
    Nat)
    (AV.sc
    (Value.int
    IntKind.i64
    (rulesfa
    i0)))
    (AV.cons
    (6 :
    Nat)
    (AV.cons
    (1 :
    Nat)
    (AV.sc
    (Value.int
    IntKind.i64
    (rulesfbaa
    i0)))
    (AV.cons
    (4 :
    Nat)
    (AV.ar
    (4 :
    Nat)
    (1 :
    Nat)
    fun
    (i1 :
    Nat) =>
    AV.sc
    (Value.int
    IntKind.u64
    (rulesfbabaf
    i0
    i1)))
    (AV.cons
    (1 :
    Nat)
    AV.undef
    AV.nil)))
    AV.nil)) ∧
    True ∧
    Sub
    (AV.sc
    (Value.string
    text))
    (AV.sc
    (Value.string
    text)) ∧
    True ∧
    Sub
    (AV.pt
    (1000 :
    Nat)
    []
    (0 :
    Nat))
    (AV.pt
    (1000 :
    Nat)
    []
    (0 :
    Nat)) ∧
    True ∧
    Sub
    (AV.vec
    false
    (3 :
    Nat)
    ln
    ln
    fun
    (i0 :
    Nat) =>
    AV.cons
    (1 :
    Nat)
    (AV.sc
    (Value.int
    IntKind.i64
    (lfa
    i0)))
    (AV.cons
    (1 :
    Nat)
    (AV.sc
    (Value.int
    IntKind.i64
    (lfba
    i0)))
    (AV.cons
    (1 :
    Nat)
    (AV.sc
    (Value.int
    IntKind.i64
    (lfbba
    i0)))
    AV.nil)))
    (AV.vec
    false
    (3 :
    Nat)
    ln
    ln
    fun
    (i0 :
    Nat) =>
    AV.cons
    (1 :
    Nat)
    (AV.sc
    (Value.int
    IntKind.i64
    (lfa
    i0)))
    (AV.cons
    (1 :
    Nat)
    (AV.sc
    (Value.int
    IntKind.i64
    (lfba
    i0)))
    (AV.cons
    (1 :
    Nat)
    (AV.sc
    (Value.int
    IntKind.i64
    (lfbba
    i0)))
    AV.nil))) ∧
    True ∧
    Sub
    (AV.sc
    (Value.int
    IntKind.i64
    at_))
    (AV.sc
    (Value.int
    IntKind.i64
    at_)) ∧
    True ∧
    Sub
    (AV.sc
    (Value.int
    IntKind.i64
    i))
    (AV.sc
    (Value.int
    IntKind.i64
    i)) ∧
    True ∧
    Sub
    (AV.pt
    (1001 :
    Nat)
    []
    (0 :
    Nat))
    (AV.pt
    (1001 :
    Nat)
    []
    (0 :
    Nat)) ∧
    True) ∧
    (True ∧
    True ∧
    True ∧
    True ∧
    True) ∧
    SubB
    (AV.cons
    (1 :
    Nat)
    (AV.sc
    (Value.int
    IntKind.i64
    b0a))
    (AV.cons
    (256 :
    Nat)
    (AV.ar
    (256 :
    Nat)
    (1 :
    Nat)
    fun
    (i0 :
    Nat) =>
    AV.sc
    (Value.int
    IntKind.u8
    (b0baf
    i0)))
    (AV.cons
    (1 :
    Nat)
    (AV.vec
    true
    (1 :
    Nat)
    b0bban
    b0bban
    fun
    (i0 :
    Nat) =>
    AV.vec
    true
    (1 :
    Nat)
    (b0bbafn
    i0)
    (b0bbafn
    i0)
    fun
    (i1 :
    Nat) =>
    AV.sc
    (Value.int
    IntKind.i64
    (b0bbaff
    i0
    i1)))
    (AV.cons
    (1 :
    Nat)
    (AV.vec
    true
    (1 :
    Nat)
    b0bbban
    b0bbban
    fun
    (i0 :
    Nat) =>
    AV.sc
    (Value.int
    IntKind.i64
    (b0bbbaf
    i0)))
    AV.nil))))
    (AV.cons
    (1 :
    Nat)
    (AV.sc
    (Value.int
    IntKind.i64
    b0a))
    (AV.cons
    (256 :
    Nat)
    (AV.ar
    (256 :
    Nat)
    (1 :
    Nat)
    fun
    (i0 :
    Nat) =>
    AV.sc
    (Value.int
    IntKind.u8
    (b0baf
    i0)))
    (AV.cons
    (1 :
    Nat)
    (AV.vec
    true
    (1 :
    Nat)
    b0bban
    b0bban
    fun
    (i0 :
    Nat) =>
    AV.vec
    true
    (1 :
    Nat)
    (b0bbafn
    i0)
    (b0bbafn
    i0)
    fun
    (i1 :
    Nat) =>
    AV.sc
    (Value.int
    IntKind.i64
    (b0bbaff
    i0
    i1)))
    (AV.cons
    (1 :
    Nat)
    (AV.vec
    true
    (1 :
    Nat)
    b0bbban
    b0bbban
    fun
    (i0 :
    Nat) =>
    AV.sc
    (Value.int
    IntKind.i64
    (b0bbbaf
    i0)))
    AV.nil)))) ∧
    (True ∧
    True ∧
    True ∧
    True) ∧
    SubB
    (AV.cons
    (1 :
    Nat)
    (AV.sc
    (Value.int
    IntKind.i64
    (lfa
    i.toNat)))
    (AV.cons
    (1 :
    Nat)
    (AV.sc
    (Value.int
    IntKind.i64
    (lfba
    i.toNat)))
    (AV.cons
    (1 :
    Nat)
    (AV.sc
    (Value.int
    IntKind.i64
    (lfbba
    i.toNat)))
    AV.nil)))
    (AV.cons
    (1 :
    Nat)
    (AV.sc
    (Value.int
    IntKind.i64
    (lfa
    i.toNat)))
    (AV.cons
    (1 :
    Nat)
    (AV.sc
    (Value.int
    IntKind.i64
    (lfba
    i.toNat)))
    (AV.cons
    (1 :
    Nat)
    (AV.sc
    (Value.int
    IntKind.i64
    (lfbba
    i.toNat)))
    AV.nil))) ∧
    True) ∧
    L6_1
    rulesn
    rulesfa
    rulesfbaa
    rulesfbabaf
    text
    ln
    lfa
    lfba
    lfbba
    at_
    i
    b0a
    b0baf
    b0bban
    b0bbafn
    b0bbaff
    b0bbban
    b0bbbaf
    (lfa
    i.toNat)
    (lfba
    i.toNat)
    (lfbba
    i.toNat)
    res)) ∧
    ((lfa
    i.toNat !=
    rulesfa
    r.fst.toNat) =
    !false →
    true =
    true ∧
    (lfa
    i.toNat !=
    rulesfa
    r.fst.toNat) =
    !false ∧
    true =
    true ∧
    (lfa
    i.toNat !=
    rulesfa
    r.fst.toNat) =
    !false ∧
    true =
    true ∧
    (lfa
    i.toNat !=
    rulesfa
    r.fst.toNat) =
    !false ∧
    true =
    true ∧
    (lfa
    i.toNat !=
    rulesfa
    r.fst.toNat) =
    !false ∧
    true =
    true ∧
    (lfa
    i.toNat !=
    rulesfa
    r.fst.toNat) =
    true ∧
    true =
    true ∧
    True ∧
    True ∧
    ((True ∧
    Sub
    (AV.sc
    (Value.bool
    false))
    (AV.sc
    (Value.bool
    false)) ∧
    True) ∧
    True) ∧
    Sub
    (AV.sc
    (Value.bool
    false))
    res ∧
    SubOut
    []
    [])) ∧
    (decide (r.fst ≥ (↑rulesn : Int)) =
    !false →
    true = true ∧
    decide (r.fst ≥ (↑rulesn : Int)) =
    !false ∧
    true = true ∧
    decide
    (r.fst ≥
    (↑rulesn : Int)) =
    !false ∧
    true = true ∧
    decide
    (r.fst ≥
    (↑rulesn : Int)) =
    !false ∧
    true = true ∧
    decide
    (r.fst ≥
    (↑rulesn :
    Int)) =
    !false ∧
    true = true ∧
    decide
    (r.fst ≥
    (↑rulesn :
    Int)) =
    !false ∧
    true = true ∧
    decide
    (r.fst ≥
    (↑rulesn :
    Int)) =
    !false ∧
    true =
    true ∧
    decide
    (r.fst ≥
    (↑rulesn :
    Int)) =
    !false ∧
    true =
    true ∧
    decide
    (r.fst ≥
    (↑rulesn :
    Int)) =
    !false ∧
    true =
    true ∧
    decide
    (r.fst ≥
    (↑rulesn :
    Int)) =
    true ∧
    True ∧
    true =
    !false ∧
    true =
    true ∧
    true =
    !false ∧
    true =
    true ∧
    true =
    !false ∧
    true =
    true ∧
    true =
    !false ∧
    true =
    true ∧
    true =
    !false ∧
    true =
    true ∧
    true =
    true ∧
    true =
    true ∧
    True ∧
    True ∧
    ((True ∧
    Sub
    (AV.sc
    (Value.bool
    false))
    (AV.sc
    (Value.bool
    false)) ∧
    True) ∧
    True) ∧
    Sub
    (AV.sc
    (Value.bool
    false))
    res ∧
    SubOut
    []
    [])))) ∧
    (decide (lfba i.toNat < (1 : Int)) = !false →
    true = true ∧
    (!false) = !false ∧
    true = true ∧
    (!false) = !false ∧
    true = true ∧
    (!false) = !false ∧
    true = true ∧
    (!false) = !false ∧
    true = true ∧
    True ∧
    true = true ∧
    True ∧
    True ∧
    ((True ∧
    Sub (AV.sc (Value.bool false))
    (AV.sc (Value.bool false)) ∧
    True) ∧
    True) ∧
    Sub (AV.sc (Value.bool false)) res ∧ SubOut [] [])) ∧
    ((r.snd.snd.snd != (0 : Int)) = !false →
    true = true ∧
    (!false) = !false ∧
    true = true ∧
    (!false) = !false ∧
    true = true ∧
    True ∧
    True ∧
    true = !false ∧
    true = true ∧
    (!false) = !false ∧
    true = true ∧
    (!false) = !false ∧
    true = true ∧
    (!false) = !false ∧
    true = true ∧
    (!false) = !false ∧
    true = true ∧
    True ∧
    true = true ∧
    True ∧
    True ∧
    ((True ∧
    Sub (AV.sc (Value.bool false))
    (AV.sc (Value.bool false)) ∧
    True) ∧
    True) ∧
    Sub (AV.sc (Value.bool false)) res ∧ SubOut [] [])) ∧
    (decide (i < (↑ln : Int)) = false →
    True ∧
    True ∧
    True ∧
    True ∧
    True ∧
    ((at_ == (↑text.size : Int)) = true →
    ∃ (r : Bool),
    (True ∧ True ∧ Ok Proofs.Try.prog (27 : Nat) [] [] (AV.sc (Value.bool r)) []) ∧
    True ∧
    True ∧
    True ∧
    ((True ∧ Sub (AV.sc (Value.bool r)) (AV.sc (Value.bool r)) ∧ True) ∧ True) ∧
    Sub (AV.sc (Value.bool r)) res ∧ SubOut [] []) ∧
    ((at_ == (↑text.size : Int)) = !true →
    true = true ∧
    True ∧
    True ∧
    True ∧
    ((True ∧ Sub (AV.sc (Value.bool false)) (AV.sc (Value.bool false)) ∧ True) ∧ True) ∧
    Sub (AV.sc (Value.bool false)) res ∧ SubOut [] [])) from
    ⟨trivial, ⟨trivial, ⟨trivial, ⟨trivial, (And.elim (fun h4 k4 => ⟨(fun x5 => (fun h5 => ⟨trivial, ⟨trivial, (And.elim (fun h8 k8 => ⟨(And.elim (fun h9 k9 => ⟨h9, k9⟩) h8), ⟨trivial, ⟨trivial, ⟨⟨rfl, trivial⟩, ⟨⟨rfl, trivial⟩, ⟨trivial, ⟨trivial, (Exists.elim k8 fun x15 h15 => ⟨x15, (And.elim (fun h16 k16 => ⟨⟨⟨⟨trivial, ⟨trivial, ⟨trivial, ⟨trivial, trivial⟩⟩⟩⟩, ⟨trivial, ⟨trivial, trivial⟩⟩⟩, ⟨trivial, h16⟩⟩, ⟨trivial, ⟨trivial, ⟨trivial, ⟨trivial, ⟨⟨rfl, trivial⟩, ⟨trivial, ⟨trivial, ⟨trivial, ⟨trivial, (And.elim (fun h26 k26 => ⟨(fun x27 => (fun h27 => ⟨trivial, ⟨rfl, ⟨⟨rfl, trivial⟩, ⟨rfl, ⟨trivial, ⟨trivial, ⟨trivial, (And.elim (fun h35 k35 => ⟨(fun x36 => (fun h36 => ⟨trivial, ⟨rfl, ⟨⟨rfl, trivial⟩, ⟨rfl, ⟨trivial, ⟨rfl, ⟨⟨rfl, trivial⟩, ⟨rfl, ⟨trivial, ⟨trivial, (And.elim (fun h47 k47 => ⟨(fun x48 => (fun h48 => ⟨trivial, ⟨trivial, ⟨⟨⟨trivial, ⟨Sub.refl _, trivial⟩⟩, trivial⟩, ((fun h52 => ⟨h52, trivial⟩) h48)⟩⟩⟩) (h47 x48)), (fun x48 => (fun h48 => ⟨trivial, ⟨⟨rfl, trivial⟩, ⟨trivial, (And.elim (fun h52 k52 => ⟨(fun x53 => (fun h53 => ⟨trivial, ⟨⟨rfl, trivial⟩, ⟨trivial, ⟨trivial, (And.elim (fun h58 k58 => ⟨(fun x59 => (fun h59 => ⟨trivial, ⟨rfl, ⟨⟨rfl, trivial⟩, ⟨rfl, ⟨trivial, ⟨trivial, (And.elim (fun h66 k66 => ⟨(fun x67 => (fun h67 => ⟨trivial, ⟨trivial, ⟨⟨⟨trivial, ⟨Sub.refl _, trivial⟩⟩, trivial⟩, ((fun h71 => ⟨h71, trivial⟩) h67)⟩⟩⟩) (h66 x67)), (fun x67 => (fun h67 => ⟨⟨⟨trivial, ⟨Sub.refl _, ⟨trivial, ⟨Sub.refl _, ⟨trivial, ⟨Sub.refl _, ⟨trivial, ⟨Sub.refl _, ⟨trivial, ⟨Sub.refl _, ⟨trivial, ⟨Sub.refl _, ⟨trivial, ⟨Sub.refl _, trivial⟩⟩⟩⟩⟩⟩⟩⟩⟩⟩⟩⟩⟩⟩, ⟨⟨trivial, ⟨trivial, ⟨trivial, ⟨trivial, trivial⟩⟩⟩⟩, ⟨SubB.refl _, ⟨⟨trivial, ⟨trivial, ⟨trivial, trivial⟩⟩⟩, ⟨SubB.refl _, trivial⟩⟩⟩⟩⟩, h67⟩) (k66 x67))⟩) h59)⟩⟩⟩⟩⟩⟩) (h58 x59)), (fun x59 => (fun h59 => ⟨rfl, ⟨rfl, ⟨rfl, ⟨rfl, ⟨rfl, ⟨trivial, ⟨rfl, ⟨trivial, ⟨trivial, ⟨⟨⟨trivial, ⟨Sub.refl _, trivial⟩⟩, trivial⟩, ((fun h70 => ⟨h70, trivial⟩) h59)⟩⟩⟩⟩⟩⟩⟩⟩⟩⟩) (k58 x59))⟩) h53)⟩⟩⟩⟩) (h52 x53)), (fun x53 => (fun h53 => ⟨trivial, ⟨⟨rfl, trivial⟩, ⟨trivial, ⟨trivial, ⟨trivial, ⟨trivial, (And.elim (fun h60 k60 => ⟨(fun x61 => (fun h61 => ⟨trivial, ⟨x61, ⟨⟨rfl, trivial⟩, ⟨x61, ⟨trivial, ⟨x61, ⟨trivial, ⟨x61, ⟨⟨rfl, trivial⟩, ⟨x61, (And.elim (fun h72 k72 => ⟨(And.elim (fun h73 k73 => ⟨h73, k73⟩) h72), ⟨x61, ⟨trivial, ⟨x61, ⟨trivial, ⟨x61, ⟨trivial, ⟨x61, ⟨trivial, (And.elim (fun h81 k81 => ⟨(fun x82 => (fun h82 => ⟨trivial, ⟨x82, ⟨⟨rfl, trivial⟩, ⟨x82, ⟨trivial, ⟨x82, ⟨⟨rfl, trivial⟩, ⟨x82, ⟨trivial, ⟨x82, (And.elim (fun h93 k93 => ⟨(fun x94 => (fun h94 => ⟨trivial, ⟨trivial, ⟨⟨⟨trivial, ⟨Sub.refl _, trivial⟩⟩, trivial⟩, ((fun h98 => ⟨h98, trivial⟩) h94)⟩⟩⟩) (h93 x94)), (fun x94 => (fun h94 => ⟨⟨⟨trivial, ⟨Sub.refl _, ⟨trivial, ⟨Sub.refl _, ⟨trivial, ⟨Sub.refl _, ⟨trivial, ⟨Sub.refl _, ⟨trivial, ⟨Sub.refl _, ⟨trivial, ⟨Sub.refl _, ⟨trivial, ⟨Sub.refl _, trivial⟩⟩⟩⟩⟩⟩⟩⟩⟩⟩⟩⟩⟩⟩, ⟨⟨trivial, ⟨trivial, ⟨trivial, ⟨trivial, trivial⟩⟩⟩⟩, ⟨SubB.refl _, ⟨⟨trivial, ⟨trivial, ⟨trivial, trivial⟩⟩⟩, ⟨SubB.refl _, trivial⟩⟩⟩⟩⟩, h94⟩) (k93 x94))⟩) h82)⟩⟩⟩⟩⟩⟩⟩⟩⟩⟩) (h81 x82)), (fun x82 => (fun h82 => ⟨rfl, ⟨x82, ⟨rfl, ⟨x82, ⟨rfl, ⟨x82, ⟨rfl, ⟨x82, ⟨rfl, ⟨x82, ⟨rfl, ⟨trivial, ⟨trivial, ⟨⟨⟨trivial, ⟨Sub.refl _, trivial⟩⟩, trivial⟩, ((fun h97 => ⟨h97, trivial⟩) h82)⟩⟩⟩⟩⟩⟩⟩⟩⟩⟩⟩⟩⟩⟩) (k81 x82))⟩) k72)⟩⟩⟩⟩⟩⟩⟩⟩⟩) h61)⟩⟩⟩⟩⟩⟩⟩⟩⟩⟩) (h60 x61)), (fun x61 => (fun h61 => ⟨rfl, ⟨x61, ⟨rfl, ⟨x61, ⟨rfl, ⟨x61, ⟨rfl, ⟨x61, ⟨rfl, ⟨x61, ⟨rfl, ⟨x61, ⟨rfl, ⟨x61, ⟨rfl, ⟨x61, ⟨rfl, ⟨x61, ⟨trivial, ⟨rfl, ⟨rfl, ⟨rfl, ⟨rfl, ⟨rfl, ⟨rfl, ⟨rfl, ⟨rfl, ⟨rfl, ⟨rfl, ⟨rfl, ⟨rfl, ⟨trivial, ⟨trivial, ⟨⟨⟨trivial, ⟨Sub.refl _, trivial⟩⟩, trivial⟩, ((fun h96 => ⟨h96, trivial⟩) h61)⟩⟩⟩⟩⟩⟩⟩⟩⟩⟩⟩⟩⟩⟩⟩⟩⟩⟩⟩⟩⟩⟩⟩⟩⟩⟩⟩⟩⟩⟩⟩⟩⟩⟩) (k60 x61))⟩) h53)⟩⟩⟩⟩⟩⟩) (k52 x53))⟩) h48)⟩⟩⟩) (k47 x48))⟩) h36)⟩⟩⟩⟩⟩⟩⟩⟩⟩⟩) (h35 x36)), (fun x36 => (fun h36 => ⟨rfl, ⟨rfl, ⟨rfl, ⟨rfl, ⟨rfl, ⟨rfl, ⟨rfl, ⟨rfl, ⟨rfl, ⟨trivial, ⟨rfl, ⟨trivial, ⟨trivial, ⟨⟨⟨trivial, ⟨Sub.refl _, trivial⟩⟩, trivial⟩, ((fun h51 => ⟨h51, trivial⟩) h36)⟩⟩⟩⟩⟩⟩⟩⟩⟩⟩⟩⟩⟩⟩) (k35 x36))⟩) h27)⟩⟩⟩⟩⟩⟩⟩) (h26 x27)), (fun x27 => (fun h27 => ⟨rfl, ⟨rfl, ⟨rfl, ⟨rfl, ⟨rfl, ⟨trivial, ⟨trivial, ⟨rfl, ⟨rfl, ⟨rfl, ⟨rfl, ⟨rfl, ⟨rfl, ⟨rfl, ⟨rfl, ⟨rfl, ⟨rfl, ⟨trivial, ⟨rfl, ⟨trivial, ⟨trivial, ⟨⟨⟨trivial, ⟨Sub.refl _, trivial⟩⟩, trivial⟩, ((fun h50 => ⟨h50, trivial⟩) h27)⟩⟩⟩⟩⟩⟩⟩⟩⟩⟩⟩⟩⟩⟩⟩⟩⟩⟩⟩⟩⟩⟩) (k26 x27))⟩) k16)⟩⟩⟩⟩⟩⟩⟩⟩⟩⟩) h15)⟩)⟩⟩⟩⟩⟩⟩⟩) h5)⟩⟩) (h4 x5)), (fun x5 => (fun h5 => ⟨trivial, ⟨trivial, ⟨trivial, ⟨trivial, ⟨trivial, (And.elim (fun h11 k11 => ⟨(fun x12 => (fun h12 => (Exists.elim h12 fun x13 h13 => ⟨x13, (And.elim (fun h14 k14 => ⟨⟨trivial, ⟨trivial, h14⟩⟩, ⟨trivial, ⟨trivial, ⟨trivial, ⟨⟨⟨trivial, ⟨Sub.refl _, trivial⟩⟩, trivial⟩, ((fun h19 => ⟨h19, trivial⟩) k14)⟩⟩⟩⟩⟩) h13)⟩)) (h11 x12)), (fun x12 => (fun h12 => ⟨rfl, ⟨trivial, ⟨trivial, ⟨trivial, ⟨⟨⟨trivial, ⟨Sub.refl _, trivial⟩⟩, trivial⟩, ((fun h18 => ⟨h18, trivial⟩) h12)⟩⟩⟩⟩⟩) (k11 x12))⟩) h5)⟩⟩⟩⟩⟩) (k4 x5))⟩) h)⟩⟩⟩⟩)
theorem r6_1 (rulesn : Nat) (rulesfa : Nat → Int) (rulesfbaa : Nat → Int) (rulesfbabaf : Nat → Nat → Int) (text : ByteArray) (ln : Nat) (lfa : Nat → Int) (lfba : Nat → Int) (lfbba : Nat → Int) (at_ : Int) (i : Int) (b0a : Int) (b0baf : Nat → Int) (b0bban : Nat) (b0bbafn : Nat → Nat) (b0bbaff : Nat → Nat → Int) (b0bbban : Nat) (b0bbbaf : Nat → Int) (b1a : Int) (b1ba : Int) (b1bba : Int) (res : AV)
    (h : (decide (b1ba > IntKind.i64.wrap ((↑text.size : Int) - at_)) = true → Sub (AV.sc (Value.bool false)) res) ∧
  (decide (b1ba > IntKind.i64.wrap ((↑text.size : Int) - at_)) = false →
    L6_2 rulesn rulesfa rulesfbaa rulesfbabaf text ln lfa lfba lfbba (IntKind.i64.wrap (at_ + b1ba)) i b0a b0baf b0bban b0bbafn b0bbaff b0bbban b0bbbaf res)) :
    L6_1 rulesn rulesfa rulesfbaa rulesfbabaf text ln lfa lfba lfbba at_ i b0a b0baf b0bban b0bbafn b0bbaff b0bbban b0bbbaf b1a b1ba b1bba res :=
  rule Go.Am.Seat.tabOk 6 [] Go.Proofs.Try.f6 hf6 [1, 1, 1, 1, 1, 0, 1, 0, 0, 1, 0, 0, 1, 1, 1, 1] (s6_1 rulesn rulesfa rulesfbaa rulesfbabaf text ln lfa lfba lfbba at_ i b0a b0baf b0bban b0bbafn b0bbaff b0bbban b0bbbaf b1a b1ba b1bba) (m6_1 rulesn rulesfa rulesfbaa rulesfbabaf text ln lfa lfba lfbba at_ i b0a b0baf b0bban b0bbafn b0bbaff b0bbban b0bbbaf b1a b1ba b1bba) res [] 400
    ((Orc.fin (AV.sc (Value.bool false)) [] []).br
  (Orc.cut (nat_lit 3)
    (s6_2 rulesn rulesfa rulesfbaa rulesfbabaf text ln lfa lfba lfbba (IntKind.i64.wrap (at_ + b1ba)) i b0a b0baf b0bban b0bbafn b0bbaff b0bbban b0bbbaf)
    (m6_2 rulesn rulesfa rulesfbaa rulesfbabaf text ln lfa lfba lfbba (IntKind.i64.wrap (at_ + b1ba)) i b0a b0baf b0bban b0bbafn b0bbaff b0bbban b0bbbaf)
    [((1000 : Nat), some (1000 : Nat))])) _ _ (by kernel_rfl) (by kernel_rfl) (show True ∧
  ((1 : Nat) + (0 : Nat) = plus (0 : Nat) (1 : Nat) ∧ True) ∧
    True ∧
    True ∧
    True ∧
    True ∧
    True ∧
    (decide (b1ba > IntKind.i64.wrap ((↑text.size : Int) - at_)) = true →
    True ∧
    True ∧
    ((True ∧ Sub (AV.sc (Value.bool false)) (AV.sc (Value.bool false)) ∧ True) ∧ True) ∧ Sub (AV.sc (Value.bool false)) res ∧ SubOut [] []) ∧
    (decide (b1ba > IntKind.i64.wrap ((↑text.size : Int) - at_)) = false →
    True ∧
    True ∧
    ((1 : Nat) + (0 : Nat) = plus (0 : Nat) (1 : Nat) ∧ True) ∧
    True ∧
    True ∧
    ((True ∧
    Sub
    (AV.vec true (7 : Nat) rulesn rulesn fun (i0 : Nat) =>
    AV.cons (1 : Nat) (AV.sc (Value.int IntKind.i64 (rulesfa i0)))
    (AV.cons (6 : Nat)
    (AV.cons (1 : Nat) (AV.sc (Value.int IntKind.i64 (rulesfbaa i0)))
    (AV.cons (4 : Nat) (AV.ar (4 : Nat) (1 : Nat) fun (i1 : Nat) => AV.sc (Value.int IntKind.u64 (rulesfbabaf i0 i1)))
    (AV.cons (1 : Nat) AV.undef AV.nil)))
    AV.nil))
    (AV.vec true (7 : Nat) rulesn rulesn fun (i0 : Nat) =>
    AV.cons (1 : Nat) (AV.sc (Value.int IntKind.i64 (rulesfa i0)))
    (AV.cons (6 : Nat)
    (AV.cons (1 : Nat) (AV.sc (Value.int IntKind.i64 (rulesfbaa i0)))
    (AV.cons (4 : Nat) (AV.ar (4 : Nat) (1 : Nat) fun (i1 : Nat) => AV.sc (Value.int IntKind.u64 (rulesfbabaf i0 i1)))
    (AV.cons (1 : Nat) AV.undef AV.nil)))
    AV.nil)) ∧
    True ∧
    Sub (AV.sc (Value.string text)) (AV.sc (Value.string text)) ∧
    True ∧
    Sub (AV.pt (1000 : Nat) [] (0 : Nat)) (AV.pt (1000 : Nat) [] (0 : Nat)) ∧
    True ∧
    Sub
    (AV.vec false (3 : Nat) ln ln fun (i0 : Nat) =>
    AV.cons (1 : Nat) (AV.sc (Value.int IntKind.i64 (lfa i0)))
    (AV.cons (1 : Nat) (AV.sc (Value.int IntKind.i64 (lfba i0)))
    (AV.cons (1 : Nat) (AV.sc (Value.int IntKind.i64 (lfbba i0))) AV.nil)))
    (AV.vec false (3 : Nat) ln ln fun (i0 : Nat) =>
    AV.cons (1 : Nat) (AV.sc (Value.int IntKind.i64 (lfa i0)))
    (AV.cons (1 : Nat) (AV.sc (Value.int IntKind.i64 (lfba i0)))
    (AV.cons (1 : Nat) (AV.sc (Value.int IntKind.i64 (lfbba i0))) AV.nil))) ∧
    True ∧
    Sub (AV.sc (Value.int IntKind.i64 (IntKind.i64.wrap (at_ + b1ba))))
    (AV.sc (Value.int IntKind.i64 (IntKind.i64.wrap (at_ + b1ba)))) ∧
    True ∧ Sub (AV.sc (Value.int IntKind.i64 i)) (AV.sc (Value.int IntKind.i64 i)) ∧ True) ∧
    (True ∧ True ∧ True ∧ True ∧ True) ∧
    SubB
    (AV.cons (1 : Nat) (AV.sc (Value.int IntKind.i64 b0a))
    (AV.cons (256 : Nat) (AV.ar (256 : Nat) (1 : Nat) fun (i0 : Nat) => AV.sc (Value.int IntKind.u8 (b0baf i0)))
    (AV.cons (1 : Nat)
    (AV.vec true (1 : Nat) b0bban b0bban fun (i0 : Nat) =>
    AV.vec true (1 : Nat) (b0bbafn i0) (b0bbafn i0) fun (i1 : Nat) => AV.sc (Value.int IntKind.i64 (b0bbaff i0 i1)))
    (AV.cons (1 : Nat)
    (AV.vec true (1 : Nat) b0bbban b0bbban fun (i0 : Nat) => AV.sc (Value.int IntKind.i64 (b0bbbaf i0))) AV.nil))))
    (AV.cons (1 : Nat) (AV.sc (Value.int IntKind.i64 b0a))
    (AV.cons (256 : Nat) (AV.ar (256 : Nat) (1 : Nat) fun (i0 : Nat) => AV.sc (Value.int IntKind.u8 (b0baf i0)))
    (AV.cons (1 : Nat)
    (AV.vec true (1 : Nat) b0bban b0bban fun (i0 : Nat) =>
    AV.vec true (1 : Nat) (b0bbafn i0) (b0bbafn i0) fun (i1 : Nat) => AV.sc (Value.int IntKind.i64 (b0bbaff i0 i1)))
    (AV.cons (1 : Nat)
    (AV.vec true (1 : Nat) b0bbban b0bbban fun (i0 : Nat) => AV.sc (Value.int IntKind.i64 (b0bbbaf i0))) AV.nil)))) ∧
    True) ∧
    L6_2 rulesn rulesfa rulesfbaa rulesfbabaf text ln lfa lfba lfbba (IntKind.i64.wrap (at_ + b1ba)) i b0a b0baf b0bban b0bbafn
    b0bbaff b0bbban b0bbbaf res) from
    ⟨trivial, ⟨⟨rfl, trivial⟩, ⟨trivial, ⟨trivial, ⟨trivial, ⟨trivial, ⟨trivial, (And.elim (fun h7 k7 => ⟨(fun x8 => (fun h8 => ⟨trivial, ⟨trivial, ⟨⟨⟨trivial, ⟨Sub.refl _, trivial⟩⟩, trivial⟩, ((fun h12 => ⟨h12, trivial⟩) h8)⟩⟩⟩) (h7 x8)), (fun x8 => (fun h8 => ⟨trivial, ⟨trivial, ⟨⟨rfl, trivial⟩, ⟨trivial, ⟨trivial, ⟨⟨⟨trivial, ⟨Sub.refl _, ⟨trivial, ⟨Sub.refl _, ⟨trivial, ⟨Sub.refl _, ⟨trivial, ⟨Sub.refl _, ⟨trivial, ⟨Sub.refl _, ⟨trivial, ⟨Sub.refl _, trivial⟩⟩⟩⟩⟩⟩⟩⟩⟩⟩⟩⟩, ⟨⟨trivial, ⟨trivial, ⟨trivial, ⟨trivial, trivial⟩⟩⟩⟩, ⟨SubB.refl _, trivial⟩⟩⟩, h8⟩⟩⟩⟩⟩⟩) (k7 x8))⟩) h)⟩⟩⟩⟩⟩⟩⟩)
theorem r6_2 (rulesn : Nat) (rulesfa : Nat → Int) (rulesfbaa : Nat → Int) (rulesfbabaf : Nat → Nat → Int) (text : ByteArray) (ln : Nat) (lfa : Nat → Int) (lfba : Nat → Int) (lfbba : Nat → Int) (at_ : Int) (i : Int) (b0a : Int) (b0baf : Nat → Int) (b0bban : Nat) (b0bbafn : Nat → Nat) (b0bbaff : Nat → Nat → Int) (b0bbban : Nat) (b0bbbaf : Nat → Int) (res : AV)
    (h : L6_0 rulesn rulesfa rulesfbaa rulesfbabaf text ln lfa lfba lfbba at_ (IntKind.i64.wrap (i + (1 : Int))) b0a b0baf b0bban b0bbafn b0bbaff b0bbban b0bbbaf res) :
    L6_2 rulesn rulesfa rulesfbaa rulesfbabaf text ln lfa lfba lfbba at_ i b0a b0baf b0bban b0bbafn b0bbaff b0bbban b0bbbaf res :=
  rule Go.Am.Seat.tabOk 6 [] Go.Proofs.Try.f6 hf6 [1, 1, 1, 1, 1, 0, 1, 0, 0, 1, 1] (s6_2 rulesn rulesfa rulesfbaa rulesfbabaf text ln lfa lfba lfbba at_ i b0a b0baf b0bban b0bbafn b0bbaff b0bbban b0bbbaf) (m6_2 rulesn rulesfa rulesfbaa rulesfbabaf text ln lfa lfba lfbba at_ i b0a b0baf b0bban b0bbafn b0bbaff b0bbban b0bbbaf) res [] 400
    (Orc.cut (nat_lit 2)
  (s6_0 rulesn rulesfa rulesfbaa rulesfbabaf text ln lfa lfba lfbba at_ (IntKind.i64.wrap (i + (1 : Int))) b0a b0baf b0bban b0bbafn b0bbaff b0bbban b0bbbaf)
  (m6_0 rulesn rulesfa rulesfbaa rulesfbabaf text ln lfa lfba lfbba at_ (IntKind.i64.wrap (i + (1 : Int))) b0a b0baf b0bban b0bbafn b0bbaff b0bbban b0bbbaf)
  [((1000 : Nat), some (1000 : Nat))]) _ _ (by kernel_rfl) (by kernel_rfl) (show True ∧
  True ∧
    True ∧
    ((True ∧
    Sub
    (AV.vec true (7 : Nat) rulesn rulesn fun (i0 : Nat) =>
    AV.cons (1 : Nat) (AV.sc (Value.int IntKind.i64 (rulesfa i0)))
    (AV.cons (6 : Nat)
    (AV.cons (1 : Nat) (AV.sc (Value.int IntKind.i64 (rulesfbaa i0)))
    (AV.cons (4 : Nat) (AV.ar (4 : Nat) (1 : Nat) fun (i1 : Nat) => AV.sc (Value.int IntKind.u64 (rulesfbabaf i0 i1)))
    (AV.cons (1 : Nat) AV.undef AV.nil)))
    AV.nil))
    (AV.vec true (7 : Nat) rulesn rulesn fun (i0 : Nat) =>
    AV.cons (1 : Nat) (AV.sc (Value.int IntKind.i64 (rulesfa i0)))
    (AV.cons (6 : Nat)
    (AV.cons (1 : Nat) (AV.sc (Value.int IntKind.i64 (rulesfbaa i0)))
    (AV.cons (4 : Nat) (AV.ar (4 : Nat) (1 : Nat) fun (i1 : Nat) => AV.sc (Value.int IntKind.u64 (rulesfbabaf i0 i1)))
    (AV.cons (1 : Nat) AV.undef AV.nil)))
    AV.nil)) ∧
    True ∧
    Sub (AV.sc (Value.string text)) (AV.sc (Value.string text)) ∧
    True ∧
    Sub (AV.pt (1000 : Nat) [] (0 : Nat)) (AV.pt (1000 : Nat) [] (0 : Nat)) ∧
    True ∧
    Sub
    (AV.vec false (3 : Nat) ln ln fun (i0 : Nat) =>
    AV.cons (1 : Nat) (AV.sc (Value.int IntKind.i64 (lfa i0)))
    (AV.cons (1 : Nat) (AV.sc (Value.int IntKind.i64 (lfba i0)))
    (AV.cons (1 : Nat) (AV.sc (Value.int IntKind.i64 (lfbba i0))) AV.nil)))
    (AV.vec false (3 : Nat) ln ln fun (i0 : Nat) =>
    AV.cons (1 : Nat) (AV.sc (Value.int IntKind.i64 (lfa i0)))
    (AV.cons (1 : Nat) (AV.sc (Value.int IntKind.i64 (lfba i0)))
    (AV.cons (1 : Nat) (AV.sc (Value.int IntKind.i64 (lfbba i0))) AV.nil))) ∧
    True ∧
    Sub (AV.sc (Value.int IntKind.i64 at_)) (AV.sc (Value.int IntKind.i64 at_)) ∧
    True ∧
    Sub (AV.sc (Value.int IntKind.i64 (IntKind.i64.wrap (i + (1 : Int)))))
    (AV.sc (Value.int IntKind.i64 (IntKind.i64.wrap (i + (1 : Int))))) ∧
    True) ∧
    (True ∧ True ∧ True ∧ True ∧ True) ∧
    SubB
    (AV.cons (1 : Nat) (AV.sc (Value.int IntKind.i64 b0a))
    (AV.cons (256 : Nat) (AV.ar (256 : Nat) (1 : Nat) fun (i0 : Nat) => AV.sc (Value.int IntKind.u8 (b0baf i0)))
    (AV.cons (1 : Nat)
    (AV.vec true (1 : Nat) b0bban b0bban fun (i0 : Nat) =>
    AV.vec true (1 : Nat) (b0bbafn i0) (b0bbafn i0) fun (i1 : Nat) => AV.sc (Value.int IntKind.i64 (b0bbaff i0 i1)))
    (AV.cons (1 : Nat) (AV.vec true (1 : Nat) b0bbban b0bbban fun (i0 : Nat) => AV.sc (Value.int IntKind.i64 (b0bbbaf i0))) AV.nil))))
    (AV.cons (1 : Nat) (AV.sc (Value.int IntKind.i64 b0a))
    (AV.cons (256 : Nat) (AV.ar (256 : Nat) (1 : Nat) fun (i0 : Nat) => AV.sc (Value.int IntKind.u8 (b0baf i0)))
    (AV.cons (1 : Nat)
    (AV.vec true (1 : Nat) b0bban b0bban fun (i0 : Nat) =>
    AV.vec true (1 : Nat) (b0bbafn i0) (b0bbafn i0) fun (i1 : Nat) => AV.sc (Value.int IntKind.i64 (b0bbaff i0 i1)))
    (AV.cons (1 : Nat) (AV.vec true (1 : Nat) b0bbban b0bbban fun (i0 : Nat) => AV.sc (Value.int IntKind.i64 (b0bbbaf i0))) AV.nil)))) ∧
    True) ∧
    L6_0 rulesn rulesfa rulesfbaa rulesfbabaf text ln lfa lfba lfbba at_ (IntKind.i64.wrap (i + (1 : Int))) b0a b0baf b0bban b0bbafn b0bbaff b0bbban b0bbbaf
    res from
    ⟨trivial, ⟨trivial, ⟨trivial, ⟨⟨⟨trivial, ⟨Sub.refl _, ⟨trivial, ⟨Sub.refl _, ⟨trivial, ⟨Sub.refl _, ⟨trivial, ⟨Sub.refl _, ⟨trivial, ⟨Sub.refl _, ⟨trivial, ⟨Sub.refl _, trivial⟩⟩⟩⟩⟩⟩⟩⟩⟩⟩⟩⟩, ⟨⟨trivial, ⟨trivial, ⟨trivial, ⟨trivial, trivial⟩⟩⟩⟩, ⟨SubB.refl _, trivial⟩⟩⟩, h⟩⟩⟩⟩)
theorem hf7 : Go.Proofs.Try.prog.funcs[7]? = some Go.Proofs.Try.f7 := by kernel_rfl
abbrev s7_e (xan : Nat) (xafa : Nat → Int) (xafbaa : Nat → Int) (xafbabaf : Nat → Nat → Int) (xbaa : Int) (xbabaf : Nat → Int) (xbabban : Nat) (xbabbafn : Nat → Nat) (xbabbaff : Nat → Nat → Int) (xbabbban : Nat) (xbabbbaf : Nat → Int) (text : ByteArray) (ea : Int) (eba : Int) (ebba : ByteArray) : List (Nat × AV) := [(0, (.cons 1 (.vec true 7 xan xan (fun i0 => (.cons 1 (.sc (.int .i64 (xafa i0))) (.cons 6 (.cons 1 (.sc (.int .i64 (xafbaa i0))) (.cons 4 (.ar 4 1 (fun i1 => (.sc (.int .u64 (xafbabaf i0 i1))))) (.cons 1 .undef .nil))) .nil)))) (.cons 259 (.cons 1 (.sc (.int .i64 xbaa)) (.cons 256 (.ar 256 1 (fun i0 => (.sc (.int .u8 (xbabaf i0))))) (.cons 1 (.vec true 1 xbabban xbabban (fun i0 => (.vec true 1 (xbabbafn i0) (xbabbafn i0) (fun i1 => (.sc (.int .i64 (xbabbaff i0 i1))))))) (.cons 1 (.vec true 1 xbabbban xbabbban (fun i0 => (.sc (.int .i64 (xbabbbaf i0))))) .nil)))) .nil))), (1, (.sc (.string text))), (2, (.cons 1 (.sc (.int .i64 ea)) (.cons 1 (.sc (.int .i64 eba)) (.cons 1 (.sc (.string ebba)) .nil))))]
abbrev m7_e (xan : Nat) (xafa : Nat → Int) (xafbaa : Nat → Int) (xafbabaf : Nat → Nat → Int) (xbaa : Int) (xbabaf : Nat → Int) (xbabban : Nat) (xbabbafn : Nat → Nat) (xbabbaff : Nat → Nat → Int) (xbabbban : Nat) (xbabbbaf : Nat → Int) (text : ByteArray) (ea : Int) (eba : Int) (ebba : ByteArray) : List (Nat × Nat × AV) := []
def L7_e (xan : Nat) (xafa : Nat → Int) (xafbaa : Nat → Int) (xafbabaf : Nat → Nat → Int) (xbaa : Int) (xbabaf : Nat → Int) (xbabban : Nat) (xbabbafn : Nat → Nat) (xbabbaff : Nat → Nat → Int) (xbabbban : Nat) (xbabbbaf : Nat → Int) (text : ByteArray) (ea : Int) (eba : Int) (ebba : ByteArray) (res : AV) : Prop := Goes ⟨Go.Proofs.Try.prog, 7, [], res, []⟩ (place Go.Proofs.Try.f7 []) (s7_e xan xafa xafbaa xafbabaf xbaa xbabaf xbabban xbabbafn xbabbaff xbabbban xbabbbaf text ea eba ebba) (m7_e xan xafa xafbaa xafbabaf xbaa xbabaf xbabban xbabbafn xbabbaff xbabbban xbabbbaf text ea eba ebba)
theorem a7_e (xan : Nat) (xafa : Nat → Int) (xafbaa : Nat → Int) (xafbabaf : Nat → Nat → Int) (xbaa : Int) (xbabaf : Nat → Int) (xbabban : Nat) (xbabbafn : Nat → Nat) (xbabbaff : Nat → Nat → Int) (xbabbban : Nat) (xbabbbaf : Nat → Int) (text : ByteArray) (ea : Int) (eba : Int) (ebba : ByteArray) (res : AV) (h : (∀ slot, fact (look .undef (s7_e xan xafa xafbaa xafbabaf xbaa xbabaf xbabban xbabbafn xbabbaff xbabbban xbabbbaf text ea eba ebba) slot)) → L7_e xan xafa xafbaa xafbabaf xbaa xbabaf xbabban xbabbafn xbabbaff xbabbban xbabbbaf text ea eba ebba res) : L7_e xan xafa xafbaa xafbabaf xbaa xbabaf xbabban xbabbafn xbabbaff xbabbban xbabbbaf text ea eba ebba res :=
  assumeRule 7 [] Go.Proofs.Try.f7 hf7 [] (s7_e xan xafa xafbaa xafbabaf xbaa xbabaf xbabban xbabbafn xbabbaff xbabbban xbabbbaf text ea eba ebba) (m7_e xan xafa xafbaa xafbabaf xbaa xbabaf xbabban xbabbafn xbabbaff xbabbban xbabbbaf text ea eba ebba) res [] _ (by kernel_rfl) h
abbrev s7_0 (ln : Nat) (lfa : Nat → Int) (lfba : Nat → Int) (lfbba : Nat → Int) (mn : Nat) (mfa : Nat → Int) (mfba : Nat → Int) (mfbba : Nat → Int) (at_ : Int) (i : Int) (b0a : Int) (b0ba : Int) (b0bba : ByteArray) : List (Nat × AV) := [(5, (.pt 1000 [] 0)), (9, (.vec false 3 ln ln (fun i0 => (.cons 1 (.sc (.int .i64 (lfa i0))) (.cons 1 (.sc (.int .i64 (lfba i0))) (.cons 1 (.sc (.int .i64 (lfbba i0))) .nil)))))), (11, (.vec false 3 mn mn (fun i0 => (.cons 1 (.sc (.int .i64 (mfa i0))) (.cons 1 (.sc (.int .i64 (mfba i0))) (.cons 1 (.sc (.int .i64 (mfbba i0))) .nil)))))), (13, (.sc (.int .i64 at_))), (14, (.sc (.int .i64 i)))]
abbrev m7_0 (ln : Nat) (lfa : Nat → Int) (lfba : Nat → Int) (lfbba : Nat → Int) (mn : Nat) (mfa : Nat → Int) (mfba : Nat → Int) (mfbba : Nat → Int) (at_ : Int) (i : Int) (b0a : Int) (b0ba : Int) (b0bba : ByteArray) : List (Nat × Nat × AV) := [(1000, 59, (.cons 1 (.sc (.int .i64 b0a)) (.cons 1 (.sc (.int .i64 b0ba)) (.cons 1 (.sc (.string b0bba)) .nil))))]
def L7_0 (ln : Nat) (lfa : Nat → Int) (lfba : Nat → Int) (lfbba : Nat → Int) (mn : Nat) (mfa : Nat → Int) (mfba : Nat → Int) (mfbba : Nat → Int) (at_ : Int) (i : Int) (b0a : Int) (b0ba : Int) (b0bba : ByteArray) (res : AV) : Prop := Goes ⟨Go.Proofs.Try.prog, 7, [], res, []⟩ (place Go.Proofs.Try.f7 [1, 1, 1, 1, 1, 1, 1, 0, 1, 0, 0]) (s7_0 ln lfa lfba lfbba mn mfa mfba mfbba at_ i b0a b0ba b0bba) (m7_0 ln lfa lfba lfbba mn mfa mfba mfbba at_ i b0a b0ba b0bba)
theorem a7_0 (ln : Nat) (lfa : Nat → Int) (lfba : Nat → Int) (lfbba : Nat → Int) (mn : Nat) (mfa : Nat → Int) (mfba : Nat → Int) (mfbba : Nat → Int) (at_ : Int) (i : Int) (b0a : Int) (b0ba : Int) (b0bba : ByteArray) (res : AV) (h : (∀ slot, fact (look .undef (s7_0 ln lfa lfba lfbba mn mfa mfba mfbba at_ i b0a b0ba b0bba) slot)) → L7_0 ln lfa lfba lfbba mn mfa mfba mfbba at_ i b0a b0ba b0bba res) : L7_0 ln lfa lfba lfbba mn mfa mfba mfbba at_ i b0a b0ba b0bba res :=
  assumeRule 7 [] Go.Proofs.Try.f7 hf7 [1, 1, 1, 1, 1, 1, 1, 0, 1, 0, 0] (s7_0 ln lfa lfba lfbba mn mfa mfba mfbba at_ i b0a b0ba b0bba) (m7_0 ln lfa lfba lfbba mn mfa mfba mfbba at_ i b0a b0ba b0bba) res [] _ (by kernel_rfl) h
theorem o7 (xan : Nat) (xafa : Nat → Int) (xafbaa : Nat → Int) (xafbabaf : Nat → Nat → Int) (xbaa : Int) (xbabaf : Nat → Int) (xbabban : Nat) (xbabbafn : Nat → Nat) (xbabbaff : Nat → Nat → Int) (xbabbban : Nat) (xbabbbaf : Nat → Int) (text : ByteArray) (ea : Int) (eba : Int) (ebba : ByteArray) (res : AV) (hnew : newOnly res) (h : L7_e xan xafa xafbaa xafbabaf xbaa xbabaf xbabban xbabbafn xbabbaff xbabbban xbabbbaf text ea eba ebba res) : Ok Go.Proofs.Try.prog 7 [(.cons 1 (.vec true 7 xan xan (fun i0 => (.cons 1 (.sc (.int .i64 (xafa i0))) (.cons 6 (.cons 1 (.sc (.int .i64 (xafbaa i0))) (.cons 4 (.ar 4 1 (fun i1 => (.sc (.int .u64 (xafbabaf i0 i1))))) (.cons 1 .undef .nil))) .nil)))) (.cons 259 (.cons 1 (.sc (.int .i64 xbaa)) (.cons 256 (.ar 256 1 (fun i0 => (.sc (.int .u8 (xbabaf i0))))) (.cons 1 (.vec true 1 xbabban xbabban (fun i0 => (.vec true 1 (xbabbafn i0) (xbabbafn i0) (fun i1 => (.sc (.int .i64 (xbabbaff i0 i1))))))) (.cons 1 (.vec true 1 xbabbban xbabbban (fun i0 => (.sc (.int .i64 (xbabbbaf i0))))) .nil)))) .nil)), (.sc (.string text)), (.cons 1 (.sc (.int .i64 ea)) (.cons 1 (.sc (.int .i64 eba)) (.cons 1 (.sc (.string ebba)) .nil)))] [] res [] :=
  okRule2 7 Go.Proofs.Try.f7 hf7 [(.cons 1 (.vec true 7 xan xan (fun i0 => (.cons 1 (.sc (.int .i64 (xafa i0))) (.cons 6 (.cons 1 (.sc (.int .i64 (xafbaa i0))) (.cons 4 (.ar 4 1 (fun i1 => (.sc (.int .u64 (xafbabaf i0 i1))))) (.cons 1 .undef .nil))) .nil)))) (.cons 259 (.cons 1 (.sc (.int .i64 xbaa)) (.cons 256 (.ar 256 1 (fun i0 => (.sc (.int .u8 (xbabaf i0))))) (.cons 1 (.vec true 1 xbabban xbabban (fun i0 => (.vec true 1 (xbabbafn i0) (xbabbafn i0) (fun i1 => (.sc (.int .i64 (xbabbaff i0 i1))))))) (.cons 1 (.vec true 1 xbabbban xbabbban (fun i0 => (.sc (.int .i64 (xbabbbaf i0))))) .nil)))) .nil)), (.sc (.string text)), (.cons 1 (.sc (.int .i64 ea)) (.cons 1 (.sc (.int .i64 eba)) (.cons 1 (.sc (.string ebba)) .nil)))] [] res [] [] rfl (by kernel_rfl) (by kernel_rfl) (by kernel_rfl) ⟨hnew, by simp⟩ (L7_e xan xafa xafbaa xafbabaf xbaa xbabaf xbabban xbabbafn xbabbaff xbabbban xbabbbaf text ea eba ebba res) (by kernel_rfl) h
theorem r7_e (xan : Nat) (xafa : Nat → Int) (xafbaa : Nat → Int) (xafbabaf : Nat → Nat → Int) (xbaa : Int) (xbabaf : Nat → Int) (xbabban : Nat) (xbabbafn : Nat → Nat) (xbabbaff : Nat → Nat → Int) (xbabbban : Nat) (xbabbbaf : Nat → Int) (text : ByteArray) (ea : Int) (eba : Int) (ebba : ByteArray) (res : AV)
    (h : ∃ (r : ByteArray × Int),
  Ok Proofs.Try.prog (29 : Nat)
    [AV.sc (Value.string text),
    AV.cons (1 : Nat) (AV.sc (Value.int IntKind.i64 ea))
    (AV.cons (1 : Nat) (AV.sc (Value.int IntKind.i64 eba)) (AV.cons (1 : Nat) (AV.sc (Value.string ebba)) AV.nil))]
    [] (AV.cons (1 : Nat) (AV.sc (Value.string r.fst)) (AV.cons (1 : Nat) (AV.sc (Value.int IntKind.i64 r.snd)) AV.nil)).tup [] ∧
    ((r.snd != (0 : Int)) = false →
    ∃ (r_1 : Bool),
    Ok Proofs.Try.prog (28 : Nat)
    [AV.vec true (7 : Nat) xan xan fun (i : Nat) =>
    AV.cons (1 : Nat) (AV.sc (Value.int IntKind.i64 (xafa i)))
    (AV.cons (6 : Nat)
    (AV.cons (1 : Nat) (AV.sc (Value.int IntKind.i64 (xafbaa i)))
    (AV.cons (4 : Nat) (AV.ar (4 : Nat) (1 : Nat) fun (i_1 : Nat) => AV.sc (Value.int IntKind.u64 (xafbabaf i i_1)))
    (AV.cons (1 : Nat) AV.undef AV.nil)))
    AV.nil),
    AV.cons (1 : Nat) (AV.sc (Value.int IntKind.i64 xbaa))
    (AV.cons (256 : Nat) (AV.ar (256 : Nat) (1 : Nat) fun (i : Nat) => AV.sc (Value.int IntKind.u8 (xbabaf i)))
    (AV.cons (1 : Nat)
    (AV.vec true (1 : Nat) xbabban xbabban fun (i : Nat) =>
    AV.vec true (1 : Nat) (xbabbafn i) (xbabbafn i) fun (i_1 : Nat) => AV.sc (Value.int IntKind.i64 (xbabbaff i i_1)))
    (AV.cons (1 : Nat) (AV.vec true (1 : Nat) xbabbban xbabbban fun (i : Nat) => AV.sc (Value.int IntKind.i64 (xbabbbaf i))) AV.nil))),
    AV.sc (Value.string text)]
    [] (AV.sc (Value.bool r_1)) [] ∧
    ((!r_1) = false →
    (decide ((↑r.fst.size : Int) > (300 : Int)) = true → Sub (AV.sc (Value.bool true)) res) ∧
    (decide ((↑r.fst.size : Int) > (300 : Int)) = false →
    ∃ (r_2 : Nat × (Nat → Int) × (Nat → Int) × (Nat → Int) × Int),
    Ok Proofs.Try.prog (23 : Nat)
    [AV.vec true (7 : Nat) xan xan fun (i : Nat) =>
    AV.cons (1 : Nat) (AV.sc (Value.int IntKind.i64 (xafa i)))
    (AV.cons (6 : Nat)
    (AV.cons (1 : Nat) (AV.sc (Value.int IntKind.i64 (xafbaa i)))
    (AV.cons (4 : Nat) (AV.ar (4 : Nat) (1 : Nat) fun (i_1 : Nat) => AV.sc (Value.int IntKind.u64 (xafbabaf i i_1)))
    (AV.cons (1 : Nat) AV.undef AV.nil)))
    AV.nil),
    AV.cons (1 : Nat) (AV.sc (Value.int IntKind.i64 xbaa))
    (AV.cons (256 : Nat) (AV.ar (256 : Nat) (1 : Nat) fun (i : Nat) => AV.sc (Value.int IntKind.u8 (xbabaf i)))
    (AV.cons (1 : Nat)
    (AV.vec true (1 : Nat) xbabban xbabban fun (i : Nat) =>
    AV.vec true (1 : Nat) (xbabbafn i) (xbabbafn i) fun (i_1 : Nat) => AV.sc (Value.int IntKind.i64 (xbabbaff i i_1)))
    (AV.cons (1 : Nat) (AV.vec true (1 : Nat) xbabbban xbabbban fun (i : Nat) => AV.sc (Value.int IntKind.i64 (xbabbbaf i)))
    AV.nil))),
    AV.sc (Value.string text)]
    []
    (AV.cons (1 : Nat)
    (AV.vec false (3 : Nat) r_2.fst r_2.fst fun (i0 : Nat) =>
    AV.cons (1 : Nat) (AV.sc (Value.int IntKind.i64 (r_2.snd.fst i0)))
    (AV.cons (1 : Nat) (AV.sc (Value.int IntKind.i64 (r_2.snd.snd.fst i0)))
    (AV.cons (1 : Nat) (AV.sc (Value.int IntKind.i64 (r_2.snd.snd.snd.fst i0))) AV.nil)))
    (AV.cons (1 : Nat) (AV.sc (Value.int IntKind.i64 r_2.snd.snd.snd.snd)) AV.nil)).tup
    [] ∧
    ∃ (r_3 : Nat × (Nat → Int) × (Nat → Int) × (Nat → Int) × Int),
    Ok Proofs.Try.prog (23 : Nat)
    [AV.vec true (7 : Nat) xan xan fun (i : Nat) =>
    AV.cons (1 : Nat) (AV.sc (Value.int IntKind.i64 (xafa i)))
    (AV.cons (6 : Nat)
    (AV.cons (1 : Nat) (AV.sc (Value.int IntKind.i64 (xafbaa i)))
    (AV.cons (4 : Nat) (AV.ar (4 : Nat) (1 : Nat) fun (i_1 : Nat) => AV.sc (Value.int IntKind.u64 (xafbabaf i i_1)))
    (AV.cons (1 : Nat) AV.undef AV.nil)))
    AV.nil),
    AV.cons (1 : Nat) (AV.sc (Value.int IntKind.i64 xbaa))
    (AV.cons (256 : Nat) (AV.ar (256 : Nat) (1 : Nat) fun (i : Nat) => AV.sc (Value.int IntKind.u8 (xbabaf i)))
    (AV.cons (1 : Nat)
    (AV.vec true (1 : Nat) xbabban xbabban fun (i : Nat) =>
    AV.vec true (1 : Nat) (xbabbafn i) (xbabbafn i) fun (i_1 : Nat) => AV.sc (Value.int IntKind.i64 (xbabbaff i i_1)))
    (AV.cons (1 : Nat) (AV.vec true (1 : Nat) xbabbban xbabbban fun (i : Nat) => AV.sc (Value.int IntKind.i64 (xbabbbaf i)))
    AV.nil))),
    AV.sc (Value.string r.fst)]
    []
    (AV.cons (1 : Nat)
    (AV.vec false (3 : Nat) r_3.fst r_3.fst fun (i0 : Nat) =>
    AV.cons (1 : Nat) (AV.sc (Value.int IntKind.i64 (r_3.snd.fst i0)))
    (AV.cons (1 : Nat) (AV.sc (Value.int IntKind.i64 (r_3.snd.snd.fst i0)))
    (AV.cons (1 : Nat) (AV.sc (Value.int IntKind.i64 (r_3.snd.snd.snd.fst i0))) AV.nil)))
    (AV.cons (1 : Nat) (AV.sc (Value.int IntKind.i64 r_3.snd.snd.snd.snd)) AV.nil)).tup
    [] ∧
    ((r_2.snd.snd.snd.snd != (0 : Int)) = false →
    ((r_3.snd.snd.snd.snd != (0 : Int)) = true →
    ((r_2.snd.snd.snd.snd == r_3.snd.snd.snd.snd) = true →
    ∃ (r : Bool), Ok Proofs.Try.prog (27 : Nat) [] [] (AV.sc (Value.bool r)) [] ∧ Sub (AV.sc (Value.bool r)) res) ∧
    ((r_2.snd.snd.snd.snd == r_3.snd.snd.snd.snd) = !true → Sub (AV.sc (Value.bool false)) res)) ∧
    ((r_3.snd.snd.snd.snd != (0 : Int)) = false →
    L7_0 r_2.fst r_2.snd.fst r_2.snd.snd.fst r_2.snd.snd.snd.fst r_3.fst r_3.snd.fst r_3.snd.snd.fst r_3.snd.snd.snd.fst
    (0 : Int) (0 : Int) ea eba ebba res)) ∧
    ((r_2.snd.snd.snd.snd != (0 : Int)) = !false →
    ((r_2.snd.snd.snd.snd == r_3.snd.snd.snd.snd) = true →
    ∃ (r : Bool), Ok Proofs.Try.prog (27 : Nat) [] [] (AV.sc (Value.bool r)) [] ∧ Sub (AV.sc (Value.bool r)) res) ∧
    ((r_2.snd.snd.snd.snd == r_3.snd.snd.snd.snd) = !true → Sub (AV.sc (Value.bool false)) res)))) ∧
    ((!r_1) = !false → Sub (AV.sc (Value.bool true)) res)) ∧
    ((r.snd != (0 : Int)) = !false → Sub (AV.sc (Value.bool true)) res)) :
    L7_e xan xafa xafbaa xafbabaf xbaa xbabaf xbabban xbabbafn xbabbaff xbabbban xbabbbaf text ea eba ebba res :=
  rule Go.Am.Seat.tabOk 7 [] Go.Proofs.Try.f7 hf7 [] (s7_e xan xafa xafbaa xafbabaf xbaa xbabaf xbabban xbabbafn xbabbaff xbabbban xbabbbaf text ea eba ebba) (m7_e xan xafa xafbaa xafbabaf xbaa xbabaf xbabban xbabbafn xbabbaff xbabbban xbabbbaf text ea eba ebba) res [] 400
    (Orc.call [] []
  (fun (r29 : ByteArray × Int) => (AV.cons (1 : Nat) (AV.sc (Value.string r29.fst)) (AV.cons (1 : Nat) (AV.sc (Value.int IntKind.i64 r29.snd)) AV.nil)).tup)
  (fun (r29 : ByteArray × Int) => []) fun (r29 : ByteArray × Int) =>
  (Orc.call [] [] (fun (r28 : Bool) => AV.sc (Value.bool r28)) (fun (r28 : Bool) => []) fun (r28 : Bool) =>
    (((Orc.fin (AV.sc (Value.bool true)) [] []).br
    (Orc.call [] []
    (fun (r23 : Nat × (Nat → Int) × (Nat → Int) × (Nat → Int) × Int) =>
    (AV.cons (1 : Nat)
    (AV.vec false (3 : Nat) r23.fst r23.fst fun (i0 : Nat) =>
    AV.cons (1 : Nat) (AV.sc (Value.int IntKind.i64 (r23.snd.fst i0)))
    (AV.cons (1 : Nat) (AV.sc (Value.int IntKind.i64 (r23.snd.snd.fst i0)))
    (AV.cons (1 : Nat) (AV.sc (Value.int IntKind.i64 (r23.snd.snd.snd.fst i0))) AV.nil)))
    (AV.cons (1 : Nat) (AV.sc (Value.int IntKind.i64 r23.snd.snd.snd.snd)) AV.nil)).tup)
    (fun (r23 : Nat × (Nat → Int) × (Nat → Int) × (Nat → Int) × Int) => [])
    fun (r23 : Nat × (Nat → Int) × (Nat → Int) × (Nat → Int) × Int) =>
    Orc.call [] []
    (fun (r23 : Nat × (Nat → Int) × (Nat → Int) × (Nat → Int) × Int) =>
    (AV.cons (1 : Nat)
    (AV.vec false (3 : Nat) r23.fst r23.fst fun (i0 : Nat) =>
    AV.cons (1 : Nat) (AV.sc (Value.int IntKind.i64 (r23.snd.fst i0)))
    (AV.cons (1 : Nat) (AV.sc (Value.int IntKind.i64 (r23.snd.snd.fst i0)))
    (AV.cons (1 : Nat) (AV.sc (Value.int IntKind.i64 (r23.snd.snd.snd.fst i0))) AV.nil)))
    (AV.cons (1 : Nat) (AV.sc (Value.int IntKind.i64 r23.snd.snd.snd.snd)) AV.nil)).tup)
    (fun (r23 : Nat × (Nat → Int) × (Nat → Int) × (Nat → Int) × Int) => [])
    fun (r23_1 : Nat × (Nat → Int) × (Nat → Int) × (Nat → Int) × Int) =>
    (((Orc.call [] [] (fun (r27 : Bool) => AV.sc (Value.bool r27)) (fun (r27 : Bool) => []) fun (r27 : Bool) =>
    Orc.fin (AV.sc (Value.bool (bif true then r27 else false))) [] []).br
    (Orc.fin (AV.sc (Value.bool false)) [] [])).br
    (Orc.cut (nat_lit 8)
    (s7_0 r23.fst r23.snd.fst r23.snd.snd.fst r23.snd.snd.snd.fst r23_1.fst r23_1.snd.fst r23_1.snd.snd.fst
    r23_1.snd.snd.snd.fst (0 : Int) (0 : Int) ea eba ebba)
    (m7_0 r23.fst r23.snd.fst r23.snd.snd.fst r23.snd.snd.snd.fst r23_1.fst r23_1.snd.fst r23_1.snd.snd.fst
    r23_1.snd.snd.snd.fst (0 : Int) (0 : Int) ea eba ebba)
    [((1000 : Nat), some (5 : Nat))])).yes.br
    ((Orc.call [] [] (fun (r27 : Bool) => AV.sc (Value.bool r27)) (fun (r27 : Bool) => []) fun (r27 : Bool) =>
    Orc.fin (AV.sc (Value.bool (bif true then r27 else false))) [] []).br
    (Orc.fin (AV.sc (Value.bool false)) [] [])).yes.no)).yes.yes.br
    (Orc.fin (AV.sc (Value.bool true)) [] []).yes.no.no).yes).yes.yes.yes.yes.yes.br
    (Orc.fin (AV.sc (Value.bool true)) [] []).yes.no.no.no.no.no.no.no.no.no) _ _ (by kernel_rfl) (by kernel_rfl) (show True ∧
  True ∧
    True ∧
    True ∧
    ((0 : Nat) = (0 : Nat) ∧ True) ∧
    ∃ (r : ByteArray × Int),
    ((True ∧ (True ∧ True ∧ True ∧ True) ∧ True) ∧
    True ∧
    Ok Proofs.Try.prog (29 : Nat)
    [AV.sc (Value.string text),
    AV.cons (1 : Nat) (AV.sc (Value.int IntKind.i64 ea))
    (AV.cons (1 : Nat) (AV.sc (Value.int IntKind.i64 eba)) (AV.cons (1 : Nat) (AV.sc (Value.string ebba)) AV.nil))]
    [] (AV.cons (1 : Nat) (AV.sc (Value.string r.fst)) (AV.cons (1 : Nat) (AV.sc (Value.int IntKind.i64 r.snd)) AV.nil)).tup []) ∧
    True ∧
    True ∧
    True ∧
    True ∧
    True ∧
    True ∧
    True ∧
    True ∧
    ((r.snd != (0 : Int)) = false →
    True ∧
    false = false ∧
    ((0 : Nat) = plus (0 : Nat) (0 : Nat) ∧ True) ∧
    false = false ∧
    True ∧
    false = false ∧
    ((1 : Nat) + (0 : Nat) = plus (0 : Nat) (1 : Nat) ∧ True) ∧
    false = false ∧
    True ∧
    false = false ∧
    ∃ (r_1 : Bool),
    ((True ∧ (True ∧ True ∧ True ∧ True ∧ True) ∧ True ∧ True) ∧
    True ∧
    Ok Proofs.Try.prog (28 : Nat)
    [AV.vec true (7 : Nat) xan xan fun (i : Nat) =>
    AV.cons (1 : Nat) (AV.sc (Value.int IntKind.i64 (xafa i)))
    (AV.cons (6 : Nat)
    (AV.cons (1 : Nat) (AV.sc (Value.int IntKind.i64 (xafbaa i)))
    (AV.cons (4 : Nat)
    (AV.ar (4 : Nat) (1 : Nat) fun (i_1 : Nat) =>
    AV.sc (Value.int IntKind.u64 (xafbabaf i i_1)))
    (AV.cons (1 : Nat) AV.undef AV.nil)))
    AV.nil),
    AV.cons (1 : Nat) (AV.sc (Value.int IntKind.i64 xbaa))
    (AV.cons (256 : Nat)
    (AV.ar (256 : Nat) (1 : Nat) fun (i : Nat) => AV.sc (Value.int IntKind.u8 (xbabaf i)))
    (AV.cons (1 : Nat)
    (AV.vec true (1 : Nat) xbabban xbabban fun (i : Nat) =>
    AV.vec true (1 : Nat) (xbabbafn i) (xbabbafn i) fun (i_1 : Nat) =>
    AV.sc (Value.int IntKind.i64 (xbabbaff i i_1)))
    (AV.cons (1 : Nat)
    (AV.vec true (1 : Nat) xbabbban xbabbban fun (i : Nat) =>
    AV.sc (Value.int IntKind.i64 (xbabbbaf i)))
    AV.nil))),
    AV.sc (Value.string text)]
    [] (AV.sc (Value.bool r_1)) []) ∧
    false = false ∧
    True ∧
    True ∧
    True ∧
    ((!r_1) = false →
    True ∧
    false = false ∧
    True ∧
    false = false ∧
    True ∧
    True ∧
    (decide ((↑r.fst.size : Int) > (300 : Int)) = true →
    True ∧
    True ∧
    ((True ∧
    Sub (AV.sc (Value.bool true)) (AV.sc (Value.bool true)) ∧
    True) ∧
    True) ∧
    Sub (AV.sc (Value.bool true)) res ∧ SubOut [] []) ∧
    (decide ((↑r.fst.size : Int) > (300 : Int)) = false →
    True ∧
    ((0 : Nat) = plus (0 : Nat) (0 : Nat) ∧ True) ∧
    True ∧
    ((1 : Nat) + (0 : Nat) = plus (0 : Nat) (1 : Nat) ∧ True) ∧
    True ∧
    ∃ (r_2 : Nat × (Nat → Int) × (Nat → Int) × (Nat → Int) × Int),
    ((True ∧ (True ∧ True ∧ True ∧ True ∧ True) ∧ True ∧ True) ∧
    True ∧
    Ok Proofs.Try.prog (23 : Nat)
    [AV.vec true (7 : Nat) xan xan fun (i : Nat) =>
    AV.cons (1 : Nat)
    (AV.sc (Value.int IntKind.i64 (xafa i)))
    (AV.cons (6 : Nat)
    (AV.cons (1 : Nat)
    (AV.sc (Value.int IntKind.i64 (xafbaa i)))
    (AV.cons (4 : Nat)
    (AV.ar (4 : Nat) (1 : Nat)
    fun (i_1 : Nat) =>
    AV.sc
    (Value.int IntKind.u64
    (xafbabaf i i_1)))
    (AV.cons (1 : Nat) AV.undef AV.nil)))
    AV.nil),
    AV.cons (1 : Nat)
    (AV.sc (Value.int IntKind.i64 xbaa))
    (AV.cons (256 : Nat)
    (AV.ar (256 : Nat) (1 : Nat) fun (i : Nat) =>
    AV.sc (Value.int IntKind.u8 (xbabaf i)))
    (AV.cons (1 : Nat)
    (AV.vec true (1 : Nat) xbabban xbabban
    fun (i : Nat) =>
    AV.vec true (1 : Nat) (xbabbafn i)
    (xbabbafn i) fun (i_1 : Nat) =>
    AV.sc
    (Value.int IntKind.i64
    (xbabbaff i i_1)))
    (AV.cons (1 : Nat)
    (AV.vec true (1 : Nat) xbabbban xbabbban
    fun (i : Nat) =>
    AV.sc
    (Value.int IntKind.i64 (xbabbbaf i)))
    AV.nil))),
    AV.sc (Value.string text)]
    []
    (AV.cons (1 : Nat)
    (AV.vec false (3 : Nat) r_2.fst r_2.fst
    fun (i0 : Nat) =>
    AV.cons (1 : Nat)
    (AV.sc
    (Value.int IntKind.i64 (r_2.snd.fst i0)))
    (AV.cons (1 : Nat)
    (AV.sc
    (Value.int IntKind.i64
    (r_2.snd.snd.fst i0)))
    (AV.cons (1 : Nat)
    (AV.sc
    (Value.int IntKind.i64
    (r_2.snd.snd.snd.fst i0)))
    AV.nil)))
    (AV.cons (1 : Nat)
    (AV.sc
    (Value.int IntKind.i64 r_2.snd.snd.snd.snd))
    AV.nil)).tup
    []) ∧
    True ∧
    True ∧
    True ∧
    True ∧
    True ∧
    True ∧
    ((0 : Nat) = plus (0 : Nat) (0 : Nat) ∧ True) ∧
    True ∧
    ((1 : Nat) + (0 : Nat) =
    plus (0 : Nat) (1 : Nat) ∧
    True) ∧
    True ∧
    ∃ (r_3 :
    Nat ×
    (Nat → Int) ×
    (Nat → Int) × (Nat → Int) × Int),
    ((True ∧
    (True ∧
    True ∧ True ∧ True ∧ True) ∧
    True ∧ True) ∧
    True ∧
    Ok Proofs.Try.prog (23 : Nat)
    [AV.vec true (7 : Nat) xan xan
    fun (i : Nat) =>
    AV.cons (1 : Nat)
    (AV.sc
    (Value.int IntKind.i64
    (xafa i)))
    (AV.cons (6 : Nat)
    (AV.cons (1 : Nat)
    (AV.sc
    (Value.int
    IntKind.i64
    (xafbaa i)))
    (AV.cons (4 : Nat)
    (AV.ar (4 : Nat)
    (1 : Nat)
    fun
    (i_1 : Nat) =>
    AV.sc
    (Value.int
    IntKind.u64
    (xafbabaf i
    i_1)))
    (AV.cons (1 : Nat)
    AV.undef
    AV.nil)))
    AV.nil),
    AV.cons (1 : Nat)
    (AV.sc
    (Value.int IntKind.i64
    xbaa))
    (AV.cons (256 : Nat)
    (AV.ar (256 : Nat)
    (1 : Nat)
    fun (i : Nat) =>
    AV.sc
    (Value.int
    IntKind.u8
    (xbabaf i)))
    (AV.cons (1 : Nat)
    (AV.vec true (1 : Nat)
    xbabban xbabban
    fun (i : Nat) =>
    AV.vec true
    (1 : Nat)
    (xbabbafn i)
    (xbabbafn i)
    fun (i_1 : Nat) =>
    AV.sc
    (Value.int
    IntKind.i64
    (xbabbaff i
    i_1)))
    (AV.cons (1 : Nat)
    (AV.vec true
    (1 : Nat) xbabbban
    xbabbban
    fun (i : Nat) =>
    AV.sc
    (Value.int
    IntKind.i64
    (xbabbbaf i)))
    AV.nil))),
    AV.sc (Value.string r.fst)]
    []
    (AV.cons (1 : Nat)
    (AV.vec false (3 : Nat)
    r_3.fst r_3.fst
    fun (i0 : Nat) =>
    AV.cons (1 : Nat)
    (AV.sc
    (Value.int
    IntKind.i64
    (r_3.snd.fst i0)))
    (AV.cons (1 : Nat)
    (AV.sc
    (Value.int
    IntKind.i64
    (r_3.snd.snd.fst
    i0)))
    (AV.cons (1 : Nat)
    (AV.sc
    (Value.int
    IntKind.i64
    (r_3.snd.snd.snd.fst
    i0)))
    AV.nil)))
    (AV.cons (1 : Nat)
    (AV.sc
    (Value.int IntKind.i64
    r_3.snd.snd.snd.snd))
    AV.nil)).tup
    []) ∧
    True ∧
    True ∧
    True ∧
    True ∧
    True ∧
    True ∧
    True ∧
    True ∧
    ((r_2.snd.snd.snd.snd !=
    (0 : Int)) =
    false →
    True ∧
    false =
    false ∧
    True ∧
    True ∧
    ((r_3.snd.snd.snd.snd !=
    (0 :
    Int)) =
    true →
    True ∧
    True ∧
    True ∧
    True ∧
    ((r_2.snd.snd.snd.snd ==
    r_3.snd.snd.snd.snd) =
    true →
    ∃
    (r
    :
    Bool),
    (True ∧
    True ∧
    Ok
    Proofs.Try.prog
    (27 :
    Nat)
    []
    []
    (AV.sc
    (Value.bool
    r))
    []) ∧
    True ∧
    True ∧
    True ∧
    ((True ∧
    Sub
    (AV.sc
    (Value.bool
    r))
    (AV.sc
    (Value.bool
    r)) ∧
    True) ∧
    True) ∧
    Sub
    (AV.sc
    (Value.bool
    r))
    res ∧
    SubOut
    []
    []) ∧
    ((r_2.snd.snd.snd.snd ==
    r_3.snd.snd.snd.snd) =
    !true →
    true =
    true ∧
    True ∧
    True ∧
    True ∧
    ((True ∧
    Sub
    (AV.sc
    (Value.bool
    false))
    (AV.sc
    (Value.bool
    false)) ∧
    True) ∧
    True) ∧
    Sub
    (AV.sc
    (Value.bool
    false))
    res ∧
    SubOut
    []
    [])) ∧
    ((r_3.snd.snd.snd.snd !=
    (0 :
    Int)) =
    false →
    True ∧
    True ∧
    ((True ∧
    Sub
    (AV.pt
    (1000 :
    Nat)
    []
    (0 :
    Nat))
    (AV.pt
    (1000 :
    Nat)
    []
    (0 :
    Nat)) ∧
    True ∧
    Sub
    (AV.vec
    false
    (3 :
    Nat)
    r_2.fst
    r_2.fst
    fun
    (i0 :
    Nat) =>
    AV.cons
    (1 :
    Nat)
    (AV.sc
    (Value.int
    IntKind.i64
    (r_2.snd.fst
    i0)))
    (AV.cons
    (1 :
    Nat)
    (AV.sc
    (Value.int
    IntKind.i64
    (r_2.snd.snd.fst
    i0)))
    (AV.cons
    (1 :
    Nat)
    (AV.sc
    (Value.int
    IntKind.i64
    (r_2.snd.snd.snd.fst
    i0)))
    AV.nil)))
    (AV.vec
    false
    (3 :
    Nat)
    r_2.fst
    r_2.fst
    fun
    (i0 :
    Nat) =>
    AV.cons
    (1 :
    Nat)
    (AV.sc
    (Value.int
    IntKind.i64
    (r_2.snd.fst
    i0)))
    (AV.cons
    (1 :
    Nat)
    (AV.sc
    (Value.int
    IntKind.i64
    (r_2.snd.snd.fst
    i0)))
    (AV.cons
    (1 :
    Nat)
    (AV.sc
    (Value.int
    IntKind.i64
    (r_2.snd.snd.snd.fst
    i0)))
    AV.nil))) ∧
    True ∧
    Sub
    (AV.vec
    false
    (3 :
    Nat)
    r_3.fst
    r_3.fst
    fun
    (i0 :
    Nat) =>
    AV.cons
    (1 :
    Nat)
    (AV.sc
    (Value.int
    IntKind.i64
    (r_3.snd.fst
    i0)))
    (AV.cons
    (1 :
    Nat)
    (AV.sc
    (Value.int
    IntKind.i64
    (r_3.snd.snd.fst
    i0)))
    (AV.cons
    (1 :
    Nat)
    (AV.sc
    (Value.int
    IntKind.i64
    (r_3.snd.snd.snd.fst
    i0)))
    AV.nil)))
    (AV.vec
    false
    (3 :
    Nat)
    r_3.fst
    r_3.fst
    fun
    (i0 :
    Nat) =>
    AV.cons
    (1 :
    Nat)
    (AV.sc
    (Value.int
    IntKind.i64
    (r_3.snd.fst
    i0)))
    (AV.cons
    (1 :
    Nat)
    (AV.sc
    (Value.int
    IntKind.i64
    (r_3.snd.snd.fst
    i0)))
    (AV.cons
    (1 :
    Nat)
    (AV.sc
    (Value.int
    IntKind.i64
    (r_3.snd.snd.snd.fst
    i0)))
    AV.nil))) ∧
    True ∧
    Sub
    (AV.sc
    (Value.int
    IntKind.i64
    (0 :
    Int)))
    (AV.sc
    (Value.int
    IntKind.i64
    (0 :
    Int))) ∧
    True ∧
    Sub
    (AV.sc
    (Value.int
    IntKind.i64
    (0 :
    Int)))
    (AV.sc
    (Value.int
    IntKind.i64
    (0 :
    Int))) ∧
    True) ∧
    (True ∧
    True ∧
    True ∧
    True) ∧
    SubB
    (AV.cons
    (1 :
    Nat)
    (AV.sc
    (Value.int
    IntKind.i64
    ea))
    (AV.cons
    (1 :
    Nat)
    (AV.sc
    (Value.int
    IntKind.i64
    eba))
    (AV.cons
    (1 :
    Nat)
    (AV.sc
    (Value.string
    ebba))
    AV.nil)))
    (AV.cons
    (1 :
    Nat)
    (AV.sc
    (Value.int
    IntKind.i64
    ea))
    (AV.cons
    (1 :
    Nat)
    (AV.sc
    (Value.int
    IntKind.i64
    eba))
    (AV.cons
    (1 :
    Nat)
    (AV.sc
    (Value.string
    ebba))
    AV.nil))) ∧
    True) ∧
    L7_0
    r_2.fst
    r_2.snd.fst
    r_2.snd.snd.fst
    r_2.snd.snd.snd.fst
    r_3.fst
    r_3.snd.fst
    r_3.snd.snd.fst
    r_3.snd.snd.snd.fst
    (0 :
    Int)
    (0 :
    Int)
    ea
    eba
    ebba
    res)) ∧
    ((r_2.snd.snd.snd.snd !=
    (0 : Int)) =
    !false →
    true = true ∧
    (!false) =
    !false ∧
    true =
    true ∧
    True ∧
    true =
    true ∧
    True ∧
    True ∧
    True ∧
    True ∧
    ((r_2.snd.snd.snd.snd ==
    r_3.snd.snd.snd.snd) =
    true →
    ∃
    (r
    :
    Bool),
    (True ∧
    True ∧
    Ok
    Proofs.Try.prog
    (27 :
    Nat)
    []
    []
    (AV.sc
    (Value.bool
    r))
    []) ∧
    True ∧
    True ∧
    True ∧
    ((True ∧
    Sub
    (AV.sc
    (Value.bool
    r))
    (AV.sc
    (Value.bool
    r)) ∧
    True) ∧
    True) ∧
    Sub
    (AV.sc
    (Value.bool
    r))
    res ∧
    SubOut
    []
    []) ∧
    ((r_2.snd.snd.snd.snd ==
    r_3.snd.snd.snd.snd) =
    !true →
    true =
    true ∧
    True ∧
    True ∧
    True ∧
    ((True ∧
    Sub
    (AV.sc
    (Value.bool
    false))
    (AV.sc
    (Value.bool
    false)) ∧
    True) ∧
    True) ∧
    Sub
    (AV.sc
    (Value.bool
    false))
    res ∧
    SubOut
    []
    [])))) ∧
    ((!r_1) = !false →
    true = true ∧
    (!false) = !false ∧
    true = true ∧
    (!false) = !false ∧
    true = true ∧
    True ∧
    true = true ∧
    True ∧
    True ∧
    ((True ∧
    Sub (AV.sc (Value.bool true)) (AV.sc (Value.bool true)) ∧ True) ∧
    True) ∧
    Sub (AV.sc (Value.bool true)) res ∧ SubOut [] [])) ∧
    ((r.snd != (0 : Int)) = !false →
    true = true ∧
    (!false) = !false ∧
    true = true ∧
    (!false) = !false ∧
    true = true ∧
    (!false) = !false ∧
    true = true ∧
    (!false) = !false ∧
    true = true ∧
    (!false) = !false ∧
    true = true ∧
    (!false) = !false ∧
    true = true ∧
    True ∧
    True ∧
    true = !false ∧
    true = true ∧
    (!false) = !false ∧
    true = true ∧
    (!false) = !false ∧
    true = true ∧
    True ∧
    true = true ∧
    True ∧
    True ∧
    ((True ∧ Sub (AV.sc (Value.bool true)) (AV.sc (Value.bool true)) ∧ True) ∧
    True) ∧
    Sub (AV.sc (Value.bool true)) res ∧ SubOut [] []) from
    ⟨trivial, ⟨trivial, ⟨trivial, ⟨trivial, ⟨⟨rfl, trivial⟩, (Exists.elim h fun x5 h5 => ⟨x5, (And.elim (fun h6 k6 => ⟨⟨⟨trivial, ⟨⟨trivial, ⟨trivial, ⟨trivial, trivial⟩⟩⟩, trivial⟩⟩, ⟨trivial, h6⟩⟩, ⟨trivial, ⟨trivial, ⟨trivial, ⟨trivial, ⟨trivial, ⟨trivial, ⟨trivial, ⟨trivial, (And.elim (fun h15 k15 => ⟨(fun x16 => (fun h16 => ⟨trivial, ⟨rfl, ⟨⟨rfl, trivial⟩, ⟨rfl, ⟨trivial, ⟨rfl, ⟨⟨rfl, trivial⟩, ⟨rfl, ⟨trivial, ⟨rfl, (Exists.elim h16 fun x27 h27 => ⟨x27, (And.elim (fun h28 k28 => ⟨⟨⟨trivial, ⟨⟨trivial, ⟨trivial, ⟨trivial, ⟨trivial, trivial⟩⟩⟩⟩, ⟨trivial, trivial⟩⟩⟩, ⟨trivial, h28⟩⟩, ⟨rfl, ⟨trivial, ⟨trivial, ⟨trivial, (And.elim (fun h33 k33 => ⟨(fun x34 => (fun h34 => ⟨trivial, ⟨rfl, ⟨trivial, ⟨rfl, ⟨trivial, ⟨trivial, (And.elim (fun h41 k41 => ⟨(fun x42 => (fun h42 => ⟨trivial, ⟨trivial, ⟨⟨⟨trivial, ⟨Sub.refl _, trivial⟩⟩, trivial⟩, ((fun h46 => ⟨h46, trivial⟩) h42)⟩⟩⟩) (h41 x42)), (fun x42 => (fun h42 => ⟨trivial, ⟨⟨rfl, trivial⟩, ⟨trivial, ⟨⟨rfl, trivial⟩, ⟨trivial, (Exists.elim h42 fun x48 h48 => ⟨x48, (And.elim (fun h49 k49 => ⟨⟨⟨trivial, ⟨⟨trivial, ⟨trivial, ⟨trivial, ⟨trivial, trivial⟩⟩⟩⟩, ⟨trivial, trivial⟩⟩⟩, ⟨trivial, h49⟩⟩, ⟨trivial, ⟨trivial, ⟨trivial, ⟨trivial, ⟨trivial, ⟨trivial, ⟨⟨rfl, trivial⟩, ⟨trivial, ⟨⟨rfl, trivial⟩, ⟨trivial, (Exists.elim k49 fun x60 h60 => ⟨x60, (And.elim (fun h61 k61 => ⟨⟨⟨trivial, ⟨⟨trivial, ⟨trivial, ⟨trivial, ⟨trivial, trivial⟩⟩⟩⟩, ⟨trivial, trivial⟩⟩⟩, ⟨trivial, h61⟩⟩, ⟨trivial, ⟨trivial, ⟨trivial, ⟨trivial, ⟨trivial, ⟨trivial, ⟨trivial, ⟨trivial, (And.elim (fun h70 k70 => ⟨(fun x71 => (fun h71 => ⟨trivial, ⟨rfl, ⟨trivial, ⟨trivial, (And.elim (fun h76 k76 => ⟨(fun x77 => (fun h77 => ⟨trivial, ⟨trivial, ⟨trivial, ⟨trivial, (And.elim (fun h82 k82 => ⟨(fun x83 => (fun h83 => (Exists.elim h83 fun x84 h84 => ⟨x84, (And.elim (fun h85 k85 => ⟨⟨trivial, ⟨trivial, h85⟩⟩, ⟨trivial, ⟨trivial, ⟨trivial, ⟨⟨⟨trivial, ⟨Sub.refl _, trivial⟩⟩, trivial⟩, ((fun h90 => ⟨h90, trivial⟩) k85)⟩⟩⟩⟩⟩) h84)⟩)) (h82 x83)), (fun x83 => (fun h83 => ⟨rfl, ⟨trivial, ⟨trivial, ⟨trivial, ⟨⟨⟨trivial, ⟨Sub.refl _, trivial⟩⟩, trivial⟩, ((fun h89 => ⟨h89, trivial⟩) h83)⟩⟩⟩⟩⟩) (k82 x83))⟩) h77)⟩⟩⟩⟩) (h76 x77)), (fun x77 => (fun h77 => ⟨trivial, ⟨trivial, ⟨⟨⟨trivial, ⟨Sub.refl _, ⟨trivial, ⟨Sub.refl _, ⟨trivial, ⟨Sub.refl _, ⟨trivial, ⟨Sub.refl _, ⟨trivial, ⟨Sub.refl _, trivial⟩⟩⟩⟩⟩⟩⟩⟩⟩⟩, ⟨⟨trivial, ⟨trivial, ⟨trivial, trivial⟩⟩⟩, ⟨SubB.refl _, trivial⟩⟩⟩, h77⟩⟩⟩) (k76 x77))⟩) h71)⟩⟩⟩⟩) (h70 x71)), (fun x71 => (fun h71 => ⟨rfl, ⟨rfl, ⟨rfl, ⟨trivial, ⟨rfl, ⟨trivial, ⟨trivial, ⟨trivial, ⟨trivial, (And.elim (fun h81 k81 => ⟨(fun x82 => (fun h82 => (Exists.elim h82 fun x83 h83 => ⟨x83, (And.elim (fun h84 k84 => ⟨⟨trivial, ⟨trivial, h84⟩⟩, ⟨trivial, ⟨trivial, ⟨trivial, ⟨⟨⟨trivial, ⟨Sub.refl _, trivial⟩⟩, trivial⟩, ((fun h89 => ⟨h89, trivial⟩) k84)⟩⟩⟩⟩⟩) h83)⟩)) (h81 x82)), (fun x82 => (fun h82 => ⟨rfl, ⟨trivial, ⟨trivial, ⟨trivial, ⟨⟨⟨trivial, ⟨Sub.refl _, trivial⟩⟩, trivial⟩, ((fun h88 => ⟨h88, trivial⟩) h82)⟩⟩⟩⟩⟩) (k81 x82))⟩) h71)⟩⟩⟩⟩⟩⟩⟩⟩⟩) (k70 x71))⟩) k61)⟩⟩⟩⟩⟩⟩⟩⟩⟩) h60)⟩)⟩⟩⟩⟩⟩⟩⟩⟩⟩⟩⟩) h48)⟩)⟩⟩⟩⟩⟩) (k41 x42))⟩) h34)⟩⟩⟩⟩⟩⟩) (h33 x34)), (fun x34 => (fun h34 => ⟨rfl, ⟨rfl, ⟨rfl, ⟨rfl, ⟨rfl, ⟨trivial, ⟨rfl, ⟨trivial, ⟨trivial, ⟨⟨⟨trivial, ⟨Sub.refl _, trivial⟩⟩, trivial⟩, ((fun h45 => ⟨h45, trivial⟩) h34)⟩⟩⟩⟩⟩⟩⟩⟩⟩⟩) (k33 x34))⟩) k28)⟩⟩⟩⟩⟩) h27)⟩)⟩⟩⟩⟩⟩⟩⟩⟩⟩⟩) (h15 x16)), (fun x16 => (fun h16 => ⟨rfl, ⟨rfl, ⟨rfl, ⟨rfl, ⟨rfl, ⟨rfl, ⟨rfl, ⟨rfl, ⟨rfl, ⟨rfl, ⟨rfl, ⟨rfl, ⟨rfl, ⟨trivial, ⟨trivial, ⟨rfl, ⟨rfl, ⟨rfl, ⟨rfl, ⟨rfl, ⟨rfl, ⟨trivial, ⟨rfl, ⟨trivial, ⟨trivial, ⟨⟨⟨trivial, ⟨Sub.refl _, trivial⟩⟩, trivial⟩, ((fun h43 => ⟨h43, trivial⟩) h16)⟩⟩⟩⟩⟩⟩⟩⟩⟩⟩⟩⟩⟩⟩⟩⟩⟩⟩⟩⟩⟩⟩⟩⟩⟩⟩) (k15 x16))⟩) k6)⟩⟩⟩⟩⟩⟩⟩⟩⟩) h5)⟩)⟩⟩⟩⟩⟩)
theorem r7_0 (ln : Nat) (lfa : Nat → Int) (lfba : Nat → Int) (lfbba : Nat → Int) (mn : Nat) (mfa : Nat → Int) (mfba : Nat → Int) (mfbba : Nat → Int) (at_ : Int) (i : Int) (b0a : Int) (b0ba : Int) (b0bba : ByteArray) (res : AV)
    (h : (decide (i < (↑ln : Int)) = true →
    ((0 : Int) ≤ i ∧ i < (↑ln : Int)) ∧
    (decide (lfbba i.toNat ≤ IntKind.i64.wrap (b0a - at_)) = true →
    (decide (i ≥ (↑mn : Int)) = false →
    ((0 : Int) ≤ i ∧ i < (↑mn : Int)) ∧
    ((!cdec (mfa i.toNat = lfa i.toNat ∧ mfba i.toNat = lfba i.toNat ∧ mfbba i.toNat = lfbba i.toNat ∧ True)) = true →
    Sub (AV.sc (Value.bool false)) res) ∧
    ((!cdec (mfa i.toNat = lfa i.toNat ∧ mfba i.toNat = lfba i.toNat ∧ mfbba i.toNat = lfbba i.toNat ∧ True)) = false →
    L7_0 ln lfa lfba lfbba mn mfa mfba mfbba (IntKind.i64.wrap (at_ + lfba i.toNat)) (IntKind.i64.wrap (i + (1 : Int))) b0a b0ba b0bba res)) ∧
    (decide (i ≥ (↑mn : Int)) = !false → Sub (AV.sc (Value.bool false)) res)) ∧
    (decide (lfbba i.toNat ≤ IntKind.i64.wrap (b0a - at_)) = false →
    ∃ (r : Bool), Ok Proofs.Try.prog (27 : Nat) [] [] (AV.sc (Value.bool r)) [] ∧ Sub (AV.sc (Value.bool r)) res)) ∧
  (decide (i < (↑ln : Int)) = !true → ∃ (r : Bool), Ok Proofs.Try.prog (27 : Nat) [] [] (AV.sc (Value.bool r)) [] ∧ Sub (AV.sc (Value.bool r)) res)) :
    L7_0 ln lfa lfba lfbba mn mfa mfba mfbba at_ i b0a b0ba b0bba res :=
  rule Go.Am.Seat.tabOk 7 [] Go.Proofs.Try.f7 hf7 [1, 1, 1, 1, 1, 1, 1, 0, 1, 0, 0] (s7_0 ln lfa lfba lfbba mn mfa mfba mfbba at_ i b0a b0ba b0bba) (m7_0 ln lfa lfba lfbba mn mfa mfba mfbba at_ i b0a b0ba b0bba) res [] 400
    ((Orc.ch Ch.none
    (Orc.ch (Ch.p true)
    (((Orc.ch Ch.none
    (Orc.ch (Ch.p false)
    ((Orc.fin (AV.sc (Value.bool false)) [] []).br
    (Orc.cut (nat_lit 5)
    (s7_0 ln lfa lfba lfbba mn mfa mfba mfbba (IntKind.i64.wrap (at_ + lfba i.toNat))
    (IntKind.i64.wrap (i + (1 : Int))) b0a b0ba b0bba)
    (m7_0 ln lfa lfba lfbba mn mfa mfba mfbba (IntKind.i64.wrap (at_ + lfba i.toNat))
    (IntKind.i64.wrap (i + (1 : Int))) b0a b0ba b0bba)
    [((1000 : Nat), some (1000 : Nat))])))).yes.yes.yes.yes.yes.yes.yes.yes.br
    (Orc.ch (Ch.p true) (Orc.fin (AV.sc (Value.bool false)) [] []).yes).no.no.no.no.no.no.no.no).br
    (Orc.call [] [] (fun (r27 : Bool) => AV.sc (Value.bool r27)) (fun (r27 : Bool) => []) fun (r27 : Bool) =>
    Orc.fin (AV.sc (Value.bool r27)) [] [])))).yes.yes.yes.yes.yes.yes.yes.yes.yes.br
  (Orc.ch (Ch.p false)
    (Orc.call [] [] (fun (r27 : Bool) => AV.sc (Value.bool r27)) (fun (r27 : Bool) => []) fun (r27 : Bool) =>
    Orc.fin (AV.sc (Value.bool r27)) [] []).no).no.no.no.no.no.no.no.no.no) _ _ (by kernel_rfl) (by kernel_rfl) (show True ∧
  True ∧
    True ∧
    True ∧
    True ∧
    (decide (i < (↑ln : Int)) = true →
    True ∧
    decide (i < (↑ln : Int)) = true ∧
    True ∧
    decide (i < (↑ln : Int)) = true ∧
    ((0 : Int) ≤ i ∧ i < (↑ln : Int)) ∧
    decide (i < (↑ln : Int)) = true ∧
    True ∧
    decide (i < (↑ln : Int)) = true ∧
    True ∧
    decide (i < (↑ln : Int)) = true ∧
    True ∧
    decide (i < (↑ln : Int)) = true ∧
    ((0 : Nat) = plus (0 : Nat) (0 : Nat) ∧ True) ∧
    decide (i < (↑ln : Int)) = true ∧
    True ∧
    decide (i < (↑ln : Int)) = true ∧
    True ∧
    decide (i < (↑ln : Int)) = true ∧
    True ∧
    decide (i < (↑ln : Int)) = true ∧
    (decide (lfbba i.toNat ≤ IntKind.i64.wrap (b0a - at_)) = true →
    True ∧
    True ∧
    True ∧
    True ∧
    True ∧
    (decide (i ≥ (↑mn : Int)) = false →
    True ∧
    decide (i ≥ (↑mn : Int)) = false ∧
    True ∧
    decide (i ≥ (↑mn : Int)) = false ∧
    ((0 : Int) ≤ i ∧ i < (↑mn : Int)) ∧
    decide (i ≥ (↑mn : Int)) = false ∧
    True ∧
    decide (i ≥ (↑mn : Int)) = false ∧
    True ∧
    decide (i ≥ (↑mn : Int)) = false ∧
    True ∧
    decide (i ≥ (↑mn : Int)) = false ∧
    ((0 : Int) ≤ i ∧ i < (↑ln : Int)) ∧
    decide (i ≥ (↑mn : Int)) = false ∧
    True ∧
    decide (i ≥ (↑mn : Int)) = false ∧
    ((True ∧ True) ∧
    True ∧
    (True ∧ True) ∧
    True ∧ (True ∧ True) ∧ True ∧ True) ∧
    decide (i ≥ (↑mn : Int)) = false ∧
    ((!cdec
    (mfa i.toNat = lfa i.toNat ∧
    mfba i.toNat = lfba i.toNat ∧
    mfbba i.toNat = lfbba i.toNat ∧
    True)) =
    true →
    True ∧
    True ∧
    ((True ∧
    Sub (AV.sc (Value.bool false))
    (AV.sc (Value.bool false)) ∧
    True) ∧
    True) ∧
    Sub (AV.sc (Value.bool false)) res ∧
    SubOut [] []) ∧
    ((!cdec
    (mfa i.toNat = lfa i.toNat ∧
    mfba i.toNat = lfba i.toNat ∧
    mfbba i.toNat = lfbba i.toNat ∧
    True)) =
    false →
    True ∧
    True ∧
    True ∧
    ((0 : Int) ≤ i ∧ i < (↑ln : Int)) ∧
    True ∧
    True ∧
    True ∧
    True ∧
    True ∧
    True ∧
    True ∧
    ((True ∧
    Sub
    (AV.pt
    (1000 : Nat)
    [] (0 : Nat))
    (AV.pt
    (1000 : Nat)
    []
    (0 : Nat)) ∧
    True ∧
    Sub
    (AV.vec
    false
    (3 : Nat)
    ln ln
    fun
    (i0 :
    Nat) =>
    AV.cons
    (1 :
    Nat)
    (AV.sc
    (Value.int
    IntKind.i64
    (lfa
    i0)))
    (AV.cons
    (1 :
    Nat)
    (AV.sc
    (Value.int
    IntKind.i64
    (lfba
    i0)))
    (AV.cons
    (1 :
    Nat)
    (AV.sc
    (Value.int
    IntKind.i64
    (lfbba
    i0)))
    AV.nil)))
    (AV.vec
    false
    (3 : Nat)
    ln ln
    fun
    (i0 :
    Nat) =>
    AV.cons
    (1 :
    Nat)
    (AV.sc
    (Value.int
    IntKind.i64
    (lfa
    i0)))
    (AV.cons
    (1 :
    Nat)
    (AV.sc
    (Value.int
    IntKind.i64
    (lfba
    i0)))
    (AV.cons
    (1 :
    Nat)
    (AV.sc
    (Value.int
    IntKind.i64
    (lfbba
    i0)))
    AV.nil))) ∧
    True ∧
    Sub
    (AV.vec
    false
    (3 :
    Nat)
    mn mn
    fun
    (i0 :
    Nat) =>
    AV.cons
    (1 :
    Nat)
    (AV.sc
    (Value.int
    IntKind.i64
    (mfa
    i0)))
    (AV.cons
    (1 :
    Nat)
    (AV.sc
    (Value.int
    IntKind.i64
    (mfba
    i0)))
    (AV.cons
    (1 :
    Nat)
    (AV.sc
    (Value.int
    IntKind.i64
    (mfbba
    i0)))
    AV.nil)))
    (AV.vec
    false
    (3 :
    Nat)
    mn mn
    fun
    (i0 :
    Nat) =>
    AV.cons
    (1 :
    Nat)
    (AV.sc
    (Value.int
    IntKind.i64
    (mfa
    i0)))
    (AV.cons
    (1 :
    Nat)
    (AV.sc
    (Value.int
    IntKind.i64
    (mfba
    i0)))
    (AV.cons
    (1 :
    Nat)
    (AV.sc
    (Value.int
    IntKind.i64
    (mfbba
    i0)))
    AV.nil))) ∧
    True ∧
    Sub
    (AV.sc
    (Value.int
    IntKind.i64
    (IntKind.i64.wrap
    (at_ +
    lfba
    i.toNat))))
    (AV.sc
    (Value.int
    IntKind.i64
    (IntKind.i64.wrap
    (at_ +
    lfba
    i.toNat)))) ∧
    True ∧
    Sub
    (AV.sc
    (Value.int
    IntKind.i64
    (IntKind.i64.wrap
    (i +
    (1 :
    Int)))))
    (AV.sc
    (Value.int
    IntKind.i64
    (IntKind.i64.wrap
    (i +
    (1 :
    Int))))) ∧
    True) ∧
    (True ∧
    True ∧
    True ∧ True) ∧
    SubB
    (AV.cons
    (1 : Nat)
    (AV.sc
    (Value.int
    IntKind.i64
    b0a))
    (AV.cons
    (1 : Nat)
    (AV.sc
    (Value.int
    IntKind.i64
    b0ba))
    (AV.cons
    (1 : Nat)
    (AV.sc
    (Value.string
    b0bba))
    AV.nil)))
    (AV.cons
    (1 : Nat)
    (AV.sc
    (Value.int
    IntKind.i64
    b0a))
    (AV.cons
    (1 : Nat)
    (AV.sc
    (Value.int
    IntKind.i64
    b0ba))
    (AV.cons
    (1 : Nat)
    (AV.sc
    (Value.string
    b0bba))
    AV.nil))) ∧
    True) ∧
    L7_0 ln lfa lfba lfbba
    mn mfa mfba mfbba
    (IntKind.i64.wrap
    (at_ +
    lfba i.toNat))
    (IntKind.i64.wrap
    (i + (1 : Int)))
    b0a b0ba b0bba res)) ∧
    (decide (i ≥ (↑mn : Int)) = !false →
    true = true ∧
    decide (i ≥ (↑mn : Int)) = !false ∧
    true = true ∧
    decide (i ≥ (↑mn : Int)) = !false ∧
    true = true ∧
    decide (i ≥ (↑mn : Int)) = !false ∧
    true = true ∧
    decide (i ≥ (↑mn : Int)) = !false ∧
    true = true ∧
    decide (i ≥ (↑mn : Int)) = !false ∧
    true = true ∧
    decide (i ≥ (↑mn : Int)) = !false ∧
    true = true ∧
    decide (i ≥ (↑mn : Int)) = !false ∧
    true = true ∧
    decide (i ≥ (↑mn : Int)) = !false ∧
    true = true ∧
    decide (i ≥ (↑mn : Int)) = true ∧
    true = true ∧
    True ∧
    True ∧
    ((True ∧
    Sub (AV.sc (Value.bool false))
    (AV.sc (Value.bool false)) ∧
    True) ∧
    True) ∧
    Sub (AV.sc (Value.bool false)) res ∧
    SubOut [] [])) ∧
    (decide (lfbba i.toNat ≤ IntKind.i64.wrap (b0a - at_)) = false →
    ∃ (r : Bool),
    (True ∧ True ∧ Ok Proofs.Try.prog (27 : Nat) [] [] (AV.sc (Value.bool r)) []) ∧
    True ∧
    True ∧
    ((True ∧ Sub (AV.sc (Value.bool r)) (AV.sc (Value.bool r)) ∧ True) ∧ True) ∧
    Sub (AV.sc (Value.bool r)) res ∧ SubOut [] [])) ∧
    (decide (i < (↑ln : Int)) = !true →
    true = true ∧
    decide (i < (↑ln : Int)) = !true ∧
    true = true ∧
    decide (i < (↑ln : Int)) = !true ∧
    true = true ∧
    decide (i < (↑ln : Int)) = !true ∧
    true = true ∧
    decide (i < (↑ln : Int)) = !true ∧
    true = true ∧
    decide (i < (↑ln : Int)) = !true ∧
    true = true ∧
    decide (i < (↑ln : Int)) = !true ∧
    true = true ∧
    decide (i < (↑ln : Int)) = !true ∧
    true = true ∧
    decide (i < (↑ln : Int)) = !true ∧
    true = true ∧
    decide (i < (↑ln : Int)) = !true ∧
    true = true ∧
    decide (i < (↑ln : Int)) = false ∧
    false = false ∧
    ∃ (r : Bool),
    (True ∧ True ∧ Ok Proofs.Try.prog (27 : Nat) [] [] (AV.sc (Value.bool r)) []) ∧
    True ∧
    True ∧
    ((True ∧ Sub (AV.sc (Value.bool r)) (AV.sc (Value.bool r)) ∧ True) ∧ True) ∧
    Sub (AV.sc (Value.bool r)) res ∧ SubOut [] []) from
    ⟨trivial, ⟨trivial, ⟨trivial, ⟨trivial, ⟨trivial, (And.elim (fun h5 k5 => ⟨(fun x6 => (fun h6 => ⟨trivial, ⟨x6, ⟨trivial, ⟨x6, (And.elim (fun h11 k11 => ⟨(And.elim (fun h12 k12 => ⟨h12, k12⟩) h11), ⟨x6, ⟨trivial, ⟨x6, ⟨trivial, ⟨x6, ⟨trivial, ⟨x6, ⟨⟨rfl, trivial⟩, ⟨x6, ⟨trivial, ⟨x6, ⟨trivial, ⟨x6, ⟨trivial, ⟨x6, (And.elim (fun h27 k27 => ⟨(fun x28 => (fun h28 => ⟨trivial, ⟨trivial, ⟨trivial, ⟨trivial, ⟨trivial, (And.elim (fun h34 k34 => ⟨(fun x35 => (fun h35 => ⟨trivial, ⟨x35, ⟨trivial, ⟨x35, (And.elim (fun h40 k40 => ⟨(And.elim (fun h41 k41 => ⟨h41, k41⟩) h40), ⟨x35, ⟨trivial, ⟨x35, ⟨trivial, ⟨x35, ⟨trivial, ⟨x35, ⟨(And.elim (fun h49 k49 => ⟨h49, k49⟩) h11), ⟨x35, ⟨trivial, ⟨x35, ⟨⟨⟨trivial, trivial⟩, ⟨trivial, ⟨⟨trivial, trivial⟩, ⟨trivial, ⟨⟨trivial, trivial⟩, ⟨trivial, trivial⟩⟩⟩⟩⟩⟩, ⟨x35, (And.elim (fun h54 k54 => ⟨(fun x55 => (fun h55 => ⟨trivial, ⟨trivial, ⟨⟨⟨trivial, ⟨Sub.refl _, trivial⟩⟩, trivial⟩, ((fun h59 => ⟨h59, trivial⟩) h55)⟩⟩⟩) (h54 x55)), (fun x55 => (fun h55 => ⟨trivial, ⟨trivial, ⟨trivial, ⟨(And.elim (fun h60 k60 => ⟨h60, k60⟩) h11), ⟨trivial, ⟨trivial, ⟨trivial, ⟨trivial, ⟨trivial, ⟨trivial, ⟨trivial, ⟨⟨⟨trivial, ⟨Sub.refl _, ⟨trivial, ⟨Sub.refl _, ⟨trivial, ⟨Sub.refl _, ⟨trivial, ⟨Sub.refl _, ⟨trivial, ⟨Sub.refl _, trivial⟩⟩⟩⟩⟩⟩⟩⟩⟩⟩, ⟨⟨trivial, ⟨trivial, ⟨trivial, trivial⟩⟩⟩, ⟨SubB.refl _, trivial⟩⟩⟩, h55⟩⟩⟩⟩⟩⟩⟩⟩⟩⟩⟩⟩) (k54 x55))⟩) k40)⟩⟩⟩⟩⟩⟩⟩⟩⟩⟩⟩⟩⟩⟩) h35)⟩⟩⟩⟩) (h34 x35)), (fun x35 => (fun h35 => ⟨rfl, ⟨x35, ⟨rfl, ⟨x35, ⟨rfl, ⟨x35, ⟨rfl, ⟨x35, ⟨rfl, ⟨x35, ⟨rfl, ⟨x35, ⟨rfl, ⟨x35, ⟨rfl, ⟨x35, ⟨rfl, ⟨x35, ⟨rfl, ⟨trivial, ⟨trivial, ⟨⟨⟨trivial, ⟨Sub.refl _, trivial⟩⟩, trivial⟩, ((fun h58 => ⟨h58, trivial⟩) h35)⟩⟩⟩⟩⟩⟩⟩⟩⟩⟩⟩⟩⟩⟩⟩⟩⟩⟩⟩⟩⟩⟩) (k34 x35))⟩) h28)⟩⟩⟩⟩⟩) (h27 x28)), (fun x28 => (fun h28 => (Exists.elim h28 fun x29 h29 => ⟨x29, (And.elim (fun h30 k30 => ⟨⟨trivial, ⟨trivial, h30⟩⟩, ⟨trivial, ⟨trivial, ⟨⟨⟨trivial, ⟨Sub.refl _, trivial⟩⟩, trivial⟩, ((fun h34 => ⟨h34, trivial⟩) k30)⟩⟩⟩⟩) h29)⟩)) (k27 x28))⟩) k11)⟩⟩⟩⟩⟩⟩⟩⟩⟩⟩⟩⟩⟩⟩⟩⟩) h6)⟩⟩⟩⟩) (h5 x6)), (fun x6 => (fun h6 => ⟨rfl, ⟨x6, ⟨rfl, ⟨x6, ⟨rfl, ⟨x6, ⟨rfl, ⟨x6, ⟨rfl, ⟨x6, ⟨rfl, ⟨x6, ⟨rfl, ⟨x6, ⟨rfl, ⟨x6, ⟨rfl, ⟨x6, ⟨rfl, ⟨x6, ⟨rfl, (Exists.elim h6 fun x28 h28 => ⟨x28, (And.elim (fun h29 k29 => ⟨⟨trivial, ⟨trivial, h29⟩⟩, ⟨trivial, ⟨trivial, ⟨⟨⟨trivial, ⟨Sub.refl _, trivial⟩⟩, trivial⟩, ((fun h33 => ⟨h33, trivial⟩) k29)⟩⟩⟩⟩) h28)⟩)⟩⟩⟩⟩⟩⟩⟩⟩⟩⟩⟩⟩⟩⟩⟩⟩⟩⟩⟩⟩⟩) (k5 x6))⟩) h)⟩⟩⟩⟩⟩)
theorem hf15 : Go.Proofs.Try.prog.funcs[15]? = some Go.Proofs.Try.f15 := by kernel_rfl
abbrev s15_e (da : Int) (dbaf : Nat → Int) (dbban : Nat) (dbbafn : Nat → Nat) (dbbaff : Nat → Nat → Int) (dbbban : Nat) (dbbbaf : Nat → Int) (most : Int) : List (Nat × AV) := [(0, (.cons 1 (.sc (.int .i64 da)) (.cons 256 (.ar 256 1 (fun i0 => (.sc (.int .u8 (dbaf i0))))) (.cons 1 (.vec true 1 dbban dbban (fun i0 => (.vec true 1 (dbbafn i0) (dbbafn i0) (fun i1 => (.sc (.int .i64 (dbbaff i0 i1))))))) (.cons 1 (.vec true 1 dbbban dbbban (fun i0 => (.sc (.int .i64 (dbbbaf i0))))) .nil))))), (1, (.sc (.int .i64 most)))]
abbrev m15_e (da : Int) (dbaf : Nat → Int) (dbban : Nat) (dbbafn : Nat → Nat) (dbbaff : Nat → Nat → Int) (dbbban : Nat) (dbbbaf : Nat → Int) (most : Int) : List (Nat × Nat × AV) := []
def L15_e (da : Int) (dbaf : Nat → Int) (dbban : Nat) (dbbafn : Nat → Nat) (dbbaff : Nat → Nat → Int) (dbbban : Nat) (dbbbaf : Nat → Int) (most : Int) (res : AV) : Prop := Goes ⟨Go.Proofs.Try.prog, 15, [], res, []⟩ (place Go.Proofs.Try.f15 []) (s15_e da dbaf dbban dbbafn dbbaff dbbban dbbbaf most) (m15_e da dbaf dbban dbbafn dbbaff dbbban dbbbaf most)
theorem a15_e (da : Int) (dbaf : Nat → Int) (dbban : Nat) (dbbafn : Nat → Nat) (dbbaff : Nat → Nat → Int) (dbbban : Nat) (dbbbaf : Nat → Int) (most : Int) (res : AV) (h : (∀ slot, fact (look .undef (s15_e da dbaf dbban dbbafn dbbaff dbbban dbbbaf most) slot)) → L15_e da dbaf dbban dbbafn dbbaff dbbban dbbbaf most res) : L15_e da dbaf dbban dbbafn dbbaff dbbban dbbbaf most res :=
  assumeRule 15 [] Go.Proofs.Try.f15 hf15 [] (s15_e da dbaf dbban dbbafn dbbaff dbbban dbbbaf most) (m15_e da dbaf dbban dbbafn dbbaff dbbban dbbbaf most) res [] _ (by kernel_rfl) h
abbrev s15_0 (most : Int) (k : Int) (i : Int) (b0a : Int) (b0baf : Nat → Int) (b0bban : Nat) (b0bbafn : Nat → Nat) (b0bbaff : Nat → Nat → Int) (b0bbban : Nat) (b0bbbaf : Nat → Int) : List (Nat × AV) := [(1, (.sc (.int .i64 most))), (2, (.pt 1000 [] 0)), (5, (.sc (.int .i64 k))), (6, (.sc (.int .i64 i)))]
abbrev m15_0 (most : Int) (k : Int) (i : Int) (b0a : Int) (b0baf : Nat → Int) (b0bban : Nat) (b0bbafn : Nat → Nat) (b0bbaff : Nat → Nat → Int) (b0bbban : Nat) (b0bbbaf : Nat → Int) : List (Nat × Nat × AV) := [(1000, 26, (.cons 1 (.sc (.int .i64 b0a)) (.cons 256 (.ar 256 1 (fun i0 => (.sc (.int .u8 (b0baf i0))))) (.cons 1 (.vec true 1 b0bban b0bban (fun i0 => (.vec true 1 (b0bbafn i0) (b0bbafn i0) (fun i1 => (.sc (.int .i64 (b0bbaff i0 i1))))))) (.cons 1 (.vec true 1 b0bbban b0bbban (fun i0 => (.sc (.int .i64 (b0bbbaf i0))))) .nil)))))]
def L15_0 (most : Int) (k : Int) (i : Int) (b0a : Int) (b0baf : Nat → Int) (b0bban : Nat) (b0bbafn : Nat → Nat) (b0bbaff : Nat → Nat → Int) (b0bbban : Nat) (b0bbbaf : Nat → Int) (res : AV) : Prop := Goes ⟨Go.Proofs.Try.prog, 15, [], res, []⟩ (place Go.Proofs.Try.f15 [1, 1, 0, 1, 0, 0]) (s15_0 most k i b0a b0baf b0bban b0bbafn b0bbaff b0bbban b0bbbaf) (m15_0 most k i b0a b0baf b0bban b0bbafn b0bbaff b0bbban b0bbbaf)
theorem a15_0 (most : Int) (k : Int) (i : Int) (b0a : Int) (b0baf : Nat → Int) (b0bban : Nat) (b0bbafn : Nat → Nat) (b0bbaff : Nat → Nat → Int) (b0bbban : Nat) (b0bbbaf : Nat → Int) (res : AV) (h : (∀ slot, fact (look .undef (s15_0 most k i b0a b0baf b0bban b0bbafn b0bbaff b0bbban b0bbbaf) slot)) → L15_0 most k i b0a b0baf b0bban b0bbafn b0bbaff b0bbban b0bbbaf res) : L15_0 most k i b0a b0baf b0bban b0bbafn b0bbaff b0bbban b0bbbaf res :=
  assumeRule 15 [] Go.Proofs.Try.f15 hf15 [1, 1, 0, 1, 0, 0] (s15_0 most k i b0a b0baf b0bban b0bbafn b0bbaff b0bbban b0bbbaf) (m15_0 most k i b0a b0baf b0bban b0bbafn b0bbaff b0bbban b0bbbaf) res [] _ (by kernel_rfl) h
theorem o15 (da : Int) (dbaf : Nat → Int) (dbban : Nat) (dbbafn : Nat → Nat) (dbbaff : Nat → Nat → Int) (dbbban : Nat) (dbbbaf : Nat → Int) (most : Int) (res : AV) (hnew : newOnly res) (h : L15_e da dbaf dbban dbbafn dbbaff dbbban dbbbaf most res) : Ok Go.Proofs.Try.prog 15 [(.cons 1 (.sc (.int .i64 da)) (.cons 256 (.ar 256 1 (fun i0 => (.sc (.int .u8 (dbaf i0))))) (.cons 1 (.vec true 1 dbban dbban (fun i0 => (.vec true 1 (dbbafn i0) (dbbafn i0) (fun i1 => (.sc (.int .i64 (dbbaff i0 i1))))))) (.cons 1 (.vec true 1 dbbban dbbban (fun i0 => (.sc (.int .i64 (dbbbaf i0))))) .nil)))), (.sc (.int .i64 most))] [] res [] :=
  okRule2 15 Go.Proofs.Try.f15 hf15 [(.cons 1 (.sc (.int .i64 da)) (.cons 256 (.ar 256 1 (fun i0 => (.sc (.int .u8 (dbaf i0))))) (.cons 1 (.vec true 1 dbban dbban (fun i0 => (.vec true 1 (dbbafn i0) (dbbafn i0) (fun i1 => (.sc (.int .i64 (dbbaff i0 i1))))))) (.cons 1 (.vec true 1 dbbban dbbban (fun i0 => (.sc (.int .i64 (dbbbaf i0))))) .nil)))), (.sc (.int .i64 most))] [] res [] [] rfl (by kernel_rfl) (by kernel_rfl) (by kernel_rfl) ⟨hnew, by simp⟩ (L15_e da dbaf dbban dbbafn dbbaff dbbban dbbbaf most res) (by kernel_rfl) h
theorem r15_e (da : Int) (dbaf : Nat → Int) (dbban : Nat) (dbbafn : Nat → Nat) (dbbaff : Nat → Nat → Int) (dbbban : Nat) (dbbbaf : Nat → Int) (most : Int) (res : AV)
    (h : L15_0 most
  (IntKind.i64.wrap
    ((if false = true then if IntKind.i64.wrap (most + (1 : Int)) > (↑dbban : Int) then IntKind.i64.wrap (most + (1 : Int)) else (↑dbban : Int)
    else if IntKind.i64.wrap (most + (1 : Int)) < (↑dbban : Int) then IntKind.i64.wrap (most + (1 : Int)) else (↑dbban : Int)) +
    if false = true then if IntKind.i64.wrap (most + (1 : Int)) > (↑dbbban : Int) then IntKind.i64.wrap (most + (1 : Int)) else (↑dbbban : Int)
    else if IntKind.i64.wrap (most + (1 : Int)) < (↑dbbban : Int) then IntKind.i64.wrap (most + (1 : Int)) else (↑dbbban : Int)))
  (0 : Int) da dbaf dbban dbbafn dbbaff dbbban dbbbaf res) :
    L15_e da dbaf dbban dbbafn dbbaff dbbban dbbbaf most res :=
  rule Go.Am.Seat.tabOk 15 [] Go.Proofs.Try.f15 hf15 [] (s15_e da dbaf dbban dbbafn dbbaff dbbban dbbbaf most) (m15_e da dbaf dbban dbbafn dbbaff dbbban dbbbaf most) res [] 400
    (Orc.cut (nat_lit 9)
  (s15_0 most
    (IntKind.i64.wrap
    ((if false = true then if IntKind.i64.wrap (most + (1 : Int)) > (↑dbban : Int) then IntKind.i64.wrap (most + (1 : Int)) else (↑dbban : Int)
    else if IntKind.i64.wrap (most + (1 : Int)) < (↑dbban : Int) then IntKind.i64.wrap (most + (1 : Int)) else (↑dbban : Int)) +
    if false = true then if IntKind.i64.wrap (most + (1 : Int)) > (↑dbbban : Int) then IntKind.i64.wrap (most + (1 : Int)) else (↑dbbban : Int)
    else if IntKind.i64.wrap (most + (1 : Int)) < (↑dbbban : Int) then IntKind.i64.wrap (most + (1 : Int)) else (↑dbbban : Int)))
    (0 : Int) da dbaf dbban dbbafn dbbaff dbbban dbbbaf)
  (m15_0 most
    (IntKind.i64.wrap
    ((if false = true then if IntKind.i64.wrap (most + (1 : Int)) > (↑dbban : Int) then IntKind.i64.wrap (most + (1 : Int)) else (↑dbban : Int)
    else if IntKind.i64.wrap (most + (1 : Int)) < (↑dbban : Int) then IntKind.i64.wrap (most + (1 : Int)) else (↑dbban : Int)) +
    if false = true then if IntKind.i64.wrap (most + (1 : Int)) > (↑dbbban : Int) then IntKind.i64.wrap (most + (1 : Int)) else (↑dbbban : Int)
    else if IntKind.i64.wrap (most + (1 : Int)) < (↑dbbban : Int) then IntKind.i64.wrap (most + (1 : Int)) else (↑dbbban : Int)))
    (0 : Int) da dbaf dbban dbbafn dbbaff dbbban dbbbaf)
  [((1000 : Nat), some (2 : Nat))]) _ _ (by kernel_rfl) (by kernel_rfl) (show True ∧
  True ∧
    True ∧
    ((1 : Nat) + ((256 : Nat) + (0 : Nat)) = plus (0 : Nat) (257 : Nat) ∧ True) ∧
    True ∧
    True ∧
    True ∧
    True ∧
    True ∧
    ((1 : Nat) + ((256 : Nat) + ((1 : Nat) + (0 : Nat))) = plus (0 : Nat) (258 : Nat) ∧ True) ∧
    True ∧
    True ∧
    True ∧
    True ∧
    True ∧
    True ∧
    True ∧
    ((True ∧
    Sub (AV.sc (Value.int IntKind.i64 most)) (AV.sc (Value.int IntKind.i64 most)) ∧
    True ∧
    Sub (AV.pt (1000 : Nat) [] (0 : Nat)) (AV.pt (1000 : Nat) [] (0 : Nat)) ∧
    True ∧
    Sub
    (AV.sc
    (Value.int IntKind.i64
    (IntKind.i64.wrap
    ((if false = true then
    if IntKind.i64.wrap (most + (1 : Int)) > (↑dbban : Int) then IntKind.i64.wrap (most + (1 : Int))
    else (↑dbban : Int)
    else
    if IntKind.i64.wrap (most + (1 : Int)) < (↑dbban : Int) then IntKind.i64.wrap (most + (1 : Int))
    else (↑dbban : Int)) +
    if false = true then
    if IntKind.i64.wrap (most + (1 : Int)) > (↑dbbban : Int) then IntKind.i64.wrap (most + (1 : Int))
    else (↑dbbban : Int)
    else
    if IntKind.i64.wrap (most + (1 : Int)) < (↑dbbban : Int) then IntKind.i64.wrap (most + (1 : Int))
    else (↑dbbban : Int)))))
    (AV.sc
    (Value.int IntKind.i64
    (IntKind.i64.wrap
    ((if false = true then
    if IntKind.i64.wrap (most + (1 : Int)) > (↑dbban : Int) then IntKind.i64.wrap (most + (1 : Int))
    else (↑dbban : Int)
    else
    if IntKind.i64.wrap (most + (1 : Int)) < (↑dbban : Int) then IntKind.i64.wrap (most + (1 : Int))
    else (↑dbban : Int)) +
    if false = true then
    if IntKind.i64.wrap (most + (1 : Int)) > (↑dbbban : Int) then IntKind.i64.wrap (most + (1 : Int))
    else (↑dbbban : Int)
    else
    if IntKind.i64.wrap (most + (1 : Int)) < (↑dbbban : Int) then IntKind.i64.wrap (most + (1 : Int))
    else (↑dbbban : Int))))) ∧
    True ∧ Sub (AV.sc (Value.int IntKind.i64 (0 : Int))) (AV.sc (Value.int IntKind.i64 (0 : Int))) ∧ True) ∧
    (True ∧ True ∧ True ∧ True ∧ True) ∧
    SubB
    (AV.cons (1 : Nat) (AV.sc (Value.int IntKind.i64 da))
    (AV.cons (256 : Nat) (AV.ar (256 : Nat) (1 : Nat) fun (i0 : Nat) => AV.sc (Value.int IntKind.u8 (dbaf i0)))
    (AV.cons (1 : Nat)
    (AV.vec true (1 : Nat) dbban dbban fun (i0 : Nat) =>
    AV.vec true (1 : Nat) (dbbafn i0) (dbbafn i0) fun (i1 : Nat) =>
    AV.sc (Value.int IntKind.i64 (dbbaff i0 i1)))
    (AV.cons (1 : Nat)
    (AV.vec true (1 : Nat) dbbban dbbban fun (i0 : Nat) => AV.sc (Value.int IntKind.i64 (dbbbaf i0))) AV.nil))))
    (AV.cons (1 : Nat) (AV.sc (Value.int IntKind.i64 da))
    (AV.cons (256 : Nat) (AV.ar (256 : Nat) (1 : Nat) fun (i0 : Nat) => AV.sc (Value.int IntKind.u8 (dbaf i0)))
    (AV.cons (1 : Nat)
    (AV.vec true (1 : Nat) dbban dbban fun (i0 : Nat) =>
    AV.vec true (1 : Nat) (dbbafn i0) (dbbafn i0) fun (i1 : Nat) =>
    AV.sc (Value.int IntKind.i64 (dbbaff i0 i1)))
    (AV.cons (1 : Nat)
    (AV.vec true (1 : Nat) dbbban dbbban fun (i0 : Nat) => AV.sc (Value.int IntKind.i64 (dbbbaf i0)))
    AV.nil)))) ∧
    True) ∧
    L15_0 most
    (IntKind.i64.wrap
    ((if false = true then
    if IntKind.i64.wrap (most + (1 : Int)) > (↑dbban : Int) then IntKind.i64.wrap (most + (1 : Int)) else (↑dbban : Int)
    else
    if IntKind.i64.wrap (most + (1 : Int)) < (↑dbban : Int) then IntKind.i64.wrap (most + (1 : Int))
    else (↑dbban : Int)) +
    if false = true then
    if IntKind.i64.wrap (most + (1 : Int)) > (↑dbbban : Int) then IntKind.i64.wrap (most + (1 : Int))
    else (↑dbbban : Int)
    else
    if IntKind.i64.wrap (most + (1 : Int)) < (↑dbbban : Int) then IntKind.i64.wrap (most + (1 : Int))
    else (↑dbbban : Int)))
    (0 : Int) da dbaf dbban dbbafn dbbaff dbbban dbbbaf res from
    ⟨trivial, ⟨trivial, ⟨trivial, ⟨⟨rfl, trivial⟩, ⟨trivial, ⟨trivial, ⟨trivial, ⟨trivial, ⟨trivial, ⟨⟨rfl, trivial⟩, ⟨trivial, ⟨trivial, ⟨trivial, ⟨trivial, ⟨trivial, ⟨trivial, ⟨trivial, ⟨⟨⟨trivial, ⟨Sub.refl _, ⟨trivial, ⟨Sub.refl _, ⟨trivial, ⟨Sub.refl _, ⟨trivial, ⟨Sub.refl _, trivial⟩⟩⟩⟩⟩⟩⟩⟩, ⟨⟨trivial, ⟨trivial, ⟨trivial, ⟨trivial, trivial⟩⟩⟩⟩, ⟨SubB.refl _, trivial⟩⟩⟩, h⟩⟩⟩⟩⟩⟩⟩⟩⟩⟩⟩⟩⟩⟩⟩⟩⟩⟩)
theorem r15_0 (most : Int) (k : Int) (i : Int) (b0a : Int) (b0baf : Nat → Int) (b0bban : Nat) (b0bbafn : Nat → Nat) (b0bbaff : Nat → Nat → Int) (b0bbban : Nat) (b0bbbaf : Nat → Int) (res : AV)
    (h : (decide (i < (↑b0bban : Int)) = true →
    (decide (k ≤ most) = true →
    ((0 : Int) ≤ i ∧ i < (↑b0bban : Int)) ∧
    L15_0 most
    (IntKind.i64.wrap
    (k +
    if false = true then
    if IntKind.i64.wrap (most + (1 : Int)) > (↑(b0bbafn i.toNat) : Int) then IntKind.i64.wrap (most + (1 : Int)) else (↑(b0bbafn i.toNat) : Int)
    else
    if IntKind.i64.wrap (most + (1 : Int)) < (↑(b0bbafn i.toNat) : Int) then IntKind.i64.wrap (most + (1 : Int)) else (↑(b0bbafn i.toNat) : Int)))
    (IntKind.i64.wrap (i + (1 : Int))) b0a b0baf b0bban b0bbafn b0bbaff b0bbban b0bbbaf res) ∧
    (decide (k ≤ most) = false → Sub (AV.sc (Value.bool (decide (k > most)))) res)) ∧
  (decide (i < (↑b0bban : Int)) = !true → Sub (AV.sc (Value.bool (decide (k > most)))) res)) :
    L15_0 most k i b0a b0baf b0bban b0bbafn b0bbaff b0bbban b0bbbaf res :=
  rule Go.Am.Seat.tabOk 15 [] Go.Proofs.Try.f15 hf15 [1, 1, 0, 1, 0, 0] (s15_0 most k i b0a b0baf b0bban b0bbafn b0bbaff b0bbban b0bbbaf) (m15_0 most k i b0a b0baf b0bban b0bbafn b0bbaff b0bbban b0bbbaf) res [] 400
    (((Orc.cut (nat_lit 7)
    (s15_0 most
    (IntKind.i64.wrap
    (k +
    if false = true then
    if IntKind.i64.wrap (most + (1 : Int)) > (↑(b0bbafn i.toNat) : Int) then IntKind.i64.wrap (most + (1 : Int))
    else (↑(b0bbafn i.toNat) : Int)
    else
    if IntKind.i64.wrap (most + (1 : Int)) < (↑(b0bbafn i.toNat) : Int) then IntKind.i64.wrap (most + (1 : Int))
    else (↑(b0bbafn i.toNat) : Int)))
    (IntKind.i64.wrap (i + (1 : Int))) b0a b0baf b0bban b0bbafn b0bbaff b0bbban b0bbbaf)
    (m15_0 most
    (IntKind.i64.wrap
    (k +
    if false = true then
    if IntKind.i64.wrap (most + (1 : Int)) > (↑(b0bbafn i.toNat) : Int) then IntKind.i64.wrap (most + (1 : Int))
    else (↑(b0bbafn i.toNat) : Int)
    else
    if IntKind.i64.wrap (most + (1 : Int)) < (↑(b0bbafn i.toNat) : Int) then IntKind.i64.wrap (most + (1 : Int))
    else (↑(b0bbafn i.toNat) : Int)))
    (IntKind.i64.wrap (i + (1 : Int))) b0a b0baf b0bban b0bbafn b0bbaff b0bbban b0bbbaf)
    [((1000 : Nat), some (1000 : Nat))]).br
    (Orc.fin (AV.sc (Value.bool (decide (k > most)))) [] [])).yes.yes.br
  (Orc.fin (AV.sc (Value.bool (decide (k > most)))) [] []).no.no.no) _ _ (by kernel_rfl) (by kernel_rfl) (show True ∧
  True ∧
    ((1 : Nat) + ((256 : Nat) + (0 : Nat)) = plus (0 : Nat) (257 : Nat) ∧ True) ∧
    True ∧
    True ∧
    True ∧
    (decide (i < (↑b0bban : Int)) = true →
    True ∧
    true = true ∧
    True ∧
    true = true ∧
    True ∧
    True ∧
    (decide (k ≤ most) = true →
    True ∧
    True ∧
    ((1 : Nat) + ((256 : Nat) + (0 : Nat)) = plus (0 : Nat) (257 : Nat) ∧ True) ∧
    True ∧
    ((0 : Int) ≤ i ∧ i < (↑b0bban : Int)) ∧
    True ∧
    True ∧
    True ∧
    True ∧
    True ∧
    True ∧
    True ∧
    True ∧
    True ∧
    True ∧
    ((True ∧
    Sub (AV.sc (Value.int IntKind.i64 most)) (AV.sc (Value.int IntKind.i64 most)) ∧
    True ∧
    Sub (AV.pt (1000 : Nat) [] (0 : Nat)) (AV.pt (1000 : Nat) [] (0 : Nat)) ∧
    True ∧
    Sub
    (AV.sc
    (Value.int IntKind.i64
    (IntKind.i64.wrap
    (k +
    if false = true then
    if
    IntKind.i64.wrap (most + (1 : Int)) >
    (↑(b0bbafn i.toNat) : Int) then
    IntKind.i64.wrap (most + (1 : Int))
    else (↑(b0bbafn i.toNat) : Int)
    else
    if
    IntKind.i64.wrap (most + (1 : Int)) <
    (↑(b0bbafn i.toNat) : Int) then
    IntKind.i64.wrap (most + (1 : Int))
    else (↑(b0bbafn i.toNat) : Int)))))
    (AV.sc
    (Value.int IntKind.i64
    (IntKind.i64.wrap
    (k +
    if false = true then
    if
    IntKind.i64.wrap (most + (1 : Int)) >
    (↑(b0bbafn i.toNat) : Int) then
    IntKind.i64.wrap (most + (1 : Int))
    else (↑(b0bbafn i.toNat) : Int)
    else
    if
    IntKind.i64.wrap (most + (1 : Int)) <
    (↑(b0bbafn i.toNat) : Int) then
    IntKind.i64.wrap (most + (1 : Int))
    else (↑(b0bbafn i.toNat) : Int))))) ∧
    True ∧
    Sub (AV.sc (Value.int IntKind.i64 (IntKind.i64.wrap (i + (1 : Int)))))
    (AV.sc (Value.int IntKind.i64 (IntKind.i64.wrap (i + (1 : Int))))) ∧
    True) ∧
    (True ∧ True ∧ True ∧ True ∧ True) ∧
    SubB
    (AV.cons (1 : Nat) (AV.sc (Value.int IntKind.i64 b0a))
    (AV.cons (256 : Nat)
    (AV.ar (256 : Nat) (1 : Nat) fun (i0 : Nat) =>
    AV.sc (Value.int IntKind.u8 (b0baf i0)))
    (AV.cons (1 : Nat)
    (AV.vec true (1 : Nat) b0bban b0bban fun (i0 : Nat) =>
    AV.vec true (1 : Nat) (b0bbafn i0) (b0bbafn i0) fun (i1 : Nat) =>
    AV.sc (Value.int IntKind.i64 (b0bbaff i0 i1)))
    (AV.cons (1 : Nat)
    (AV.vec true (1 : Nat) b0bbban b0bbban fun (i0 : Nat) =>
    AV.sc (Value.int IntKind.i64 (b0bbbaf i0)))
    AV.nil))))
    (AV.cons (1 : Nat) (AV.sc (Value.int IntKind.i64 b0a))
    (AV.cons (256 : Nat)
    (AV.ar (256 : Nat) (1 : Nat) fun (i0 : Nat) =>
    AV.sc (Value.int IntKind.u8 (b0baf i0)))
    (AV.cons (1 : Nat)
    (AV.vec true (1 : Nat) b0bban b0bban fun (i0 : Nat) =>
    AV.vec true (1 : Nat) (b0bbafn i0) (b0bbafn i0) fun (i1 : Nat) =>
    AV.sc (Value.int IntKind.i64 (b0bbaff i0 i1)))
    (AV.cons (1 : Nat)
    (AV.vec true (1 : Nat) b0bbban b0bbban fun (i0 : Nat) =>
    AV.sc (Value.int IntKind.i64 (b0bbbaf i0)))
    AV.nil)))) ∧
    True) ∧
    L15_0 most
    (IntKind.i64.wrap
    (k +
    if false = true then
    if IntKind.i64.wrap (most + (1 : Int)) > (↑(b0bbafn i.toNat) : Int) then
    IntKind.i64.wrap (most + (1 : Int))
    else (↑(b0bbafn i.toNat) : Int)
    else
    if IntKind.i64.wrap (most + (1 : Int)) < (↑(b0bbafn i.toNat) : Int) then
    IntKind.i64.wrap (most + (1 : Int))
    else (↑(b0bbafn i.toNat) : Int)))
    (IntKind.i64.wrap (i + (1 : Int))) b0a b0baf b0bban b0bbafn b0bbaff b0bbban b0bbbaf res) ∧
    (decide (k ≤ most) = false →
    True ∧
    True ∧
    True ∧
    True ∧
    True ∧
    ((True ∧ Sub (AV.sc (Value.bool (decide (k > most)))) (AV.sc (Value.bool (decide (k > most)))) ∧ True) ∧ True) ∧
    Sub (AV.sc (Value.bool (decide (k > most)))) res ∧ SubOut [] [])) ∧
    (decide (i < (↑b0bban : Int)) = !true →
    true = true ∧
    (!true) = !true ∧
    true = true ∧
    (!true) = !true ∧
    true = true ∧
    True ∧
    false = false ∧
    True ∧
    True ∧
    True ∧
    True ∧
    True ∧
    ((True ∧ Sub (AV.sc (Value.bool (decide (k > most)))) (AV.sc (Value.bool (decide (k > most)))) ∧ True) ∧ True) ∧
    Sub (AV.sc (Value.bool (decide (k > most)))) res ∧ SubOut [] []) from
    ⟨trivial, ⟨trivial, ⟨⟨rfl, trivial⟩, ⟨trivial, ⟨trivial, ⟨trivial, (And.elim (fun h6 k6 => ⟨(fun x7 => (fun h7 => ⟨trivial, ⟨rfl, ⟨trivial, ⟨rfl, ⟨trivial, ⟨trivial, (And.elim (fun h14 k14 => ⟨(fun x15 => (fun h15 => ⟨trivial, ⟨trivial, ⟨⟨rfl, trivial⟩, ⟨trivial, (And.elim (fun h20 k20 => ⟨(And.elim (fun h21 k21 => ⟨h21, k21⟩) h20), ⟨trivial, ⟨trivial, ⟨trivial, ⟨trivial, ⟨trivial, ⟨trivial, ⟨trivial, ⟨trivial, ⟨trivial, ⟨trivial, ⟨⟨⟨trivial, ⟨Sub.refl _, ⟨trivial, ⟨Sub.refl _, ⟨trivial, ⟨Sub.refl _, ⟨trivial, ⟨Sub.refl _, trivial⟩⟩⟩⟩⟩⟩⟩⟩, ⟨⟨trivial, ⟨trivial, ⟨trivial, ⟨trivial, trivial⟩⟩⟩⟩, ⟨SubB.refl _, trivial⟩⟩⟩, k20⟩⟩⟩⟩⟩⟩⟩⟩⟩⟩⟩⟩) h15)⟩⟩⟩⟩) (h14 x15)), (fun x15 => (fun h15 => ⟨trivial, ⟨trivial, ⟨trivial, ⟨trivial, ⟨trivial, ⟨⟨⟨trivial, ⟨Sub.refl _, trivial⟩⟩, trivial⟩, ((fun h22 => ⟨h22, trivial⟩) h15)⟩⟩⟩⟩⟩⟩) (k14 x15))⟩) h7)⟩⟩⟩⟩⟩⟩) (h6 x7)), (fun x7 => (fun h7 => ⟨rfl, ⟨rfl, ⟨rfl, ⟨rfl, ⟨rfl, ⟨trivial, ⟨rfl, ⟨trivial, ⟨trivial, ⟨trivial, ⟨trivial, ⟨trivial, ⟨⟨⟨trivial, ⟨Sub.refl _, trivial⟩⟩, trivial⟩, ((fun h21 => ⟨h21, trivial⟩) h7)⟩⟩⟩⟩⟩⟩⟩⟩⟩⟩⟩⟩⟩) (k6 x7))⟩) h)⟩⟩⟩⟩⟩⟩)
theorem hf17 : Go.Proofs.Try.prog.funcs[17]? = some Go.Proofs.Try.f17 := by kernel_rfl
abbrev s17_e (da : Int) (dbaf : Nat → Int) (dbban : Nat) (dbbafn : Nat → Nat) (dbbaff : Nat → Nat → Int) (dbbban : Nat) (dbbbaf : Nat → Int) (text : ByteArray) (at_ : Int) : List (Nat × AV) := [(0, (.cons 1 (.sc (.int .i64 da)) (.cons 256 (.ar 256 1 (fun i0 => (.sc (.int .u8 (dbaf i0))))) (.cons 1 (.vec true 1 dbban dbban (fun i0 => (.vec true 1 (dbbafn i0) (dbbafn i0) (fun i1 => (.sc (.int .i64 (dbbaff i0 i1))))))) (.cons 1 (.vec true 1 dbbban dbbban (fun i0 => (.sc (.int .i64 (dbbbaf i0))))) .nil))))), (1, (.sc (.string text))), (2, (.sc (.int .i64 at_)))]
abbrev m17_e (da : Int) (dbaf : Nat → Int) (dbban : Nat) (dbbafn : Nat → Nat) (dbbaff : Nat → Nat → Int) (dbbban : Nat) (dbbbaf : Nat → Int) (text : ByteArray) (at_ : Int) : List (Nat × Nat × AV) := []
def L17_e (da : Int) (dbaf : Nat → Int) (dbban : Nat) (dbbafn : Nat → Nat) (dbbaff : Nat → Nat → Int) (dbbban : Nat) (dbbbaf : Nat → Int) (text : ByteArray) (at_ : Int) (res : AV) : Prop := Goes ⟨Go.Proofs.Try.prog, 17, [], res, []⟩ (place Go.Proofs.Try.f17 []) (s17_e da dbaf dbban dbbafn dbbaff dbbban dbbbaf text at_) (m17_e da dbaf dbban dbbafn dbbaff dbbban dbbbaf text at_)
theorem a17_e (da : Int) (dbaf : Nat → Int) (dbban : Nat) (dbbafn : Nat → Nat) (dbbaff : Nat → Nat → Int) (dbbban : Nat) (dbbbaf : Nat → Int) (text : ByteArray) (at_ : Int) (res : AV) (h : (∀ slot, fact (look .undef (s17_e da dbaf dbban dbbafn dbbaff dbbban dbbbaf text at_) slot)) → L17_e da dbaf dbban dbbafn dbbaff dbbban dbbbaf text at_ res) : L17_e da dbaf dbban dbbafn dbbaff dbbban dbbbaf text at_ res :=
  assumeRule 17 [] Go.Proofs.Try.f17 hf17 [] (s17_e da dbaf dbban dbbafn dbbaff dbbban dbbbaf text at_) (m17_e da dbaf dbban dbbafn dbbaff dbbban dbbbaf text at_) res [] _ (by kernel_rfl) h
theorem o17 (da : Int) (dbaf : Nat → Int) (dbban : Nat) (dbbafn : Nat → Nat) (dbbaff : Nat → Nat → Int) (dbbban : Nat) (dbbbaf : Nat → Int) (text : ByteArray) (at_ : Int) (res : AV) (hnew : newOnly res) (h : L17_e da dbaf dbban dbbafn dbbaff dbbban dbbbaf text at_ res) : Ok Go.Proofs.Try.prog 17 [(.cons 1 (.sc (.int .i64 da)) (.cons 256 (.ar 256 1 (fun i0 => (.sc (.int .u8 (dbaf i0))))) (.cons 1 (.vec true 1 dbban dbban (fun i0 => (.vec true 1 (dbbafn i0) (dbbafn i0) (fun i1 => (.sc (.int .i64 (dbbaff i0 i1))))))) (.cons 1 (.vec true 1 dbbban dbbban (fun i0 => (.sc (.int .i64 (dbbbaf i0))))) .nil)))), (.sc (.string text)), (.sc (.int .i64 at_))] [] res [] :=
  okRule2 17 Go.Proofs.Try.f17 hf17 [(.cons 1 (.sc (.int .i64 da)) (.cons 256 (.ar 256 1 (fun i0 => (.sc (.int .u8 (dbaf i0))))) (.cons 1 (.vec true 1 dbban dbban (fun i0 => (.vec true 1 (dbbafn i0) (dbbafn i0) (fun i1 => (.sc (.int .i64 (dbbaff i0 i1))))))) (.cons 1 (.vec true 1 dbbban dbbban (fun i0 => (.sc (.int .i64 (dbbbaf i0))))) .nil)))), (.sc (.string text)), (.sc (.int .i64 at_))] [] res [] [] rfl (by kernel_rfl) (by kernel_rfl) (by kernel_rfl) ⟨hnew, by simp⟩ (L17_e da dbaf dbban dbbafn dbbaff dbbban dbbbaf text at_ res) (by kernel_rfl) h
theorem r17_e (da : Int) (dbaf : Nat → Int) (dbban : Nat) (dbbafn : Nat → Nat) (dbbaff : Nat → Nat → Int) (dbbban : Nat) (dbbbaf : Nat → Int) (text : ByteArray) (at_ : Int) (res : AV)
    (h : ∃ (r : Int),
  Ok Proofs.Try.prog (54 : Nat)
    [AV.cons (1 : Nat) (AV.sc (Value.int IntKind.i64 da))
    (AV.cons (256 : Nat) (AV.ar (256 : Nat) (1 : Nat) fun (i : Nat) => AV.sc (Value.int IntKind.u8 (dbaf i)))
    (AV.cons (1 : Nat)
    (AV.vec true (1 : Nat) dbban dbban fun (i : Nat) =>
    AV.vec true (1 : Nat) (dbbafn i) (dbbafn i) fun (i_1 : Nat) => AV.sc (Value.int IntKind.i64 (dbbaff i i_1)))
    (AV.cons (1 : Nat) (AV.vec true (1 : Nat) dbbban dbbban fun (i : Nat) => AV.sc (Value.int IntKind.i64 (dbbbaf i))) AV.nil)))]
    [] (AV.sc (Value.int IntKind.i64 r)) [] ∧
    ((r != (0 : Int)) = true →
    Sub
    (AV.cons (1 : Nat)
    (AV.cons (1 : Nat) (AV.sc (Value.int IntKind.i64 (0 : Int)))
    (AV.cons (1 : Nat) (AV.sc (Value.int IntKind.i64 (0 : Int))) (AV.cons (1 : Nat) (AV.sc (Value.int IntKind.i64 (0 : Int))) AV.nil)))
    (AV.cons (1 : Nat) (AV.sc (Value.int IntKind.i64 r)) AV.nil)).tup
    res) ∧
    ((r != (0 : Int)) = false →
    (decide (at_ < (0 : Int)) = false →
    (decide (at_ ≥ (↑text.size : Int)) = true →
    Sub
    (AV.cons (1 : Nat)
    (AV.cons (1 : Nat) (AV.sc (Value.int IntKind.i64 (0 : Int)))
    (AV.cons (1 : Nat) (AV.sc (Value.int IntKind.i64 (0 : Int))) (AV.cons (1 : Nat) (AV.sc (Value.int IntKind.i64 (0 : Int))) AV.nil)))
    (AV.cons (1 : Nat) (AV.sc (Value.int IntKind.i64 (4 : Int))) AV.nil)).tup
    res) ∧
    (decide (at_ ≥ (↑text.size : Int)) = false →
    ∃ (r : Int × Int × Int),
    Ok Proofs.Try.prog (55 : Nat)
    [AV.cons (1 : Nat) (AV.sc (Value.int IntKind.i64 da))
    (AV.cons (256 : Nat) (AV.ar (256 : Nat) (1 : Nat) fun (i : Nat) => AV.sc (Value.int IntKind.u8 (dbaf i)))
    (AV.cons (1 : Nat)
    (AV.vec true (1 : Nat) dbban dbban fun (i : Nat) =>
    AV.vec true (1 : Nat) (dbbafn i) (dbbafn i) fun (i_1 : Nat) => AV.sc (Value.int IntKind.i64 (dbbaff i i_1)))
    (AV.cons (1 : Nat) (AV.vec true (1 : Nat) dbbban dbbban fun (i : Nat) => AV.sc (Value.int IntKind.i64 (dbbbaf i))) AV.nil))),
    AV.sc (Value.string text), AV.sc (Value.int IntKind.i64 at_)]
    []
    (AV.cons (1 : Nat) (AV.sc (Value.int IntKind.i64 r.fst))
    (AV.cons (1 : Nat) (AV.sc (Value.int IntKind.i64 r.snd.fst)) (AV.cons (1 : Nat) (AV.sc (Value.int IntKind.i64 r.snd.snd)) AV.nil)))
    [] ∧
    Sub
    (AV.cons (1 : Nat)
    (AV.cons (1 : Nat) (AV.sc (Value.int IntKind.i64 r.fst))
    (AV.cons (1 : Nat) (AV.sc (Value.int IntKind.i64 r.snd.fst)) (AV.cons (1 : Nat) (AV.sc (Value.int IntKind.i64 r.snd.snd)) AV.nil)))
    (AV.cons (1 : Nat) (AV.sc (Value.int IntKind.i64 (0 : Int))) AV.nil)).tup
    res)) ∧
    (decide (at_ < (0 : Int)) = !false →
    Sub
    (AV.cons (1 : Nat)
    (AV.cons (1 : Nat) (AV.sc (Value.int IntKind.i64 (0 : Int)))
    (AV.cons (1 : Nat) (AV.sc (Value.int IntKind.i64 (0 : Int))) (AV.cons (1 : Nat) (AV.sc (Value.int IntKind.i64 (0 : Int))) AV.nil)))
    (AV.cons (1 : Nat) (AV.sc (Value.int IntKind.i64 (4 : Int))) AV.nil)).tup
    res))) :
    L17_e da dbaf dbban dbbafn dbbaff dbbban dbbbaf text at_ res :=
  rule Go.Am.Seat.tabOk 17 [] Go.Proofs.Try.f17 hf17 [] (s17_e da dbaf dbban dbbafn dbbaff dbbban dbbbaf text at_) (m17_e da dbaf dbban dbbafn dbbaff dbbban dbbbaf text at_) res [] 400
    (Orc.call [] [] (fun (r54 : Int) => AV.sc (Value.int IntKind.i64 r54)) (fun (r54 : Int) => []) fun (r54 : Int) =>
  (Orc.fin
    (AV.cons (1 : Nat)
    (AV.cons (1 : Nat) (AV.sc (Value.int IntKind.i64 (0 : Int)))
    (AV.cons (1 : Nat) (AV.sc (Value.int IntKind.i64 (0 : Int))) (AV.cons (1 : Nat) (AV.sc (Value.int IntKind.i64 (0 : Int))) AV.nil)))
    (AV.cons (1 : Nat) (AV.sc (Value.int IntKind.i64 r54)) AV.nil)).tup
    [] []).br
    (((Orc.fin
    (AV.cons (1 : Nat)
    (AV.cons (1 : Nat) (AV.sc (Value.int IntKind.i64 (0 : Int)))
    (AV.cons (1 : Nat) (AV.sc (Value.int IntKind.i64 (0 : Int))) (AV.cons (1 : Nat) (AV.sc (Value.int IntKind.i64 (0 : Int))) AV.nil)))
    (AV.cons (1 : Nat) (AV.sc (Value.int IntKind.i64 (4 : Int))) AV.nil)).tup
    [] []).br
    (Orc.call [] []
    (fun (r55 : Int × Int × Int) =>
    AV.cons (1 : Nat) (AV.sc (Value.int IntKind.i64 r55.fst))
    (AV.cons (1 : Nat) (AV.sc (Value.int IntKind.i64 r55.snd.fst)) (AV.cons (1 : Nat) (AV.sc (Value.int IntKind.i64 r55.snd.snd)) AV.nil)))
    (fun (r55 : Int × Int × Int) => []) fun (r55 : Int × Int × Int) =>
    Orc.fin
    (AV.cons (1 : Nat)
    (AV.cons (1 : Nat) (AV.sc (Value.int IntKind.i64 r55.fst))
    (AV.cons (1 : Nat) (AV.sc (Value.int IntKind.i64 r55.snd.fst))
    (AV.cons (1 : Nat) (AV.sc (Value.int IntKind.i64 r55.snd.snd)) AV.nil)))
    (AV.cons (1 : Nat) (AV.sc (Value.int IntKind.i64 (0 : Int))) AV.nil)).tup
    [] [])).yes.yes.yes.br
    (Orc.fin
    (AV.cons (1 : Nat)
    (AV.cons (1 : Nat) (AV.sc (Value.int IntKind.i64 (0 : Int)))
    (AV.cons (1 : Nat) (AV.sc (Value.int IntKind.i64 (0 : Int))) (AV.cons (1 : Nat) (AV.sc (Value.int IntKind.i64 (0 : Int))) AV.nil)))
    (AV.cons (1 : Nat) (AV.sc (Value.int IntKind.i64 (4 : Int))) AV.nil)).tup
    [] []).yes.no.no.no)) _ _ (by kernel_rfl) (by kernel_rfl) (show True ∧
  True ∧
    True ∧
    ((0 : Nat) = (0 : Nat) ∧ True) ∧
    ∃ (r : Int),
    (((True ∧ True ∧ True ∧ True ∧ True) ∧ True) ∧
    True ∧
    Ok Proofs.Try.prog (54 : Nat)
    [AV.cons (1 : Nat) (AV.sc (Value.int IntKind.i64 da))
    (AV.cons (256 : Nat) (AV.ar (256 : Nat) (1 : Nat) fun (i : Nat) => AV.sc (Value.int IntKind.u8 (dbaf i)))
    (AV.cons (1 : Nat)
    (AV.vec true (1 : Nat) dbban dbban fun (i : Nat) =>
    AV.vec true (1 : Nat) (dbbafn i) (dbbafn i) fun (i_1 : Nat) => AV.sc (Value.int IntKind.i64 (dbbaff i i_1)))
    (AV.cons (1 : Nat) (AV.vec true (1 : Nat) dbbban dbbban fun (i : Nat) => AV.sc (Value.int IntKind.i64 (dbbbaf i))) AV.nil)))]
    [] (AV.sc (Value.int IntKind.i64 r)) []) ∧
    True ∧
    True ∧
    True ∧
    ((r != (0 : Int)) = true →
    True ∧
    True ∧
    ((0 : Nat) = (0 : Nat) ∧ True) ∧
    True ∧
    (((0 : Nat) = (0 : Nat) ∧ True) ∧ True ∧ True) ∧
    ((((True ∧ True ∧ True ∧ True) ∧ True ∧ True) ∧
    Sub
    (AV.cons (1 : Nat)
    (AV.cons (1 : Nat) (AV.sc (Value.int IntKind.i64 (0 : Int)))
    (AV.cons (1 : Nat) (AV.sc (Value.int IntKind.i64 (0 : Int)))
    (AV.cons (1 : Nat) (AV.sc (Value.int IntKind.i64 (0 : Int))) AV.nil)))
    (AV.cons (1 : Nat) (AV.sc (Value.int IntKind.i64 r)) AV.nil)).tup
    (AV.cons (1 : Nat)
    (AV.cons (1 : Nat) (AV.sc (Value.int IntKind.i64 (0 : Int)))
    (AV.cons (1 : Nat) (AV.sc (Value.int IntKind.i64 (0 : Int)))
    (AV.cons (1 : Nat) (AV.sc (Value.int IntKind.i64 (0 : Int))) AV.nil)))
    (AV.cons (1 : Nat) (AV.sc (Value.int IntKind.i64 r)) AV.nil)).tup ∧
    True) ∧
    True) ∧
    Sub
    (AV.cons (1 : Nat)
    (AV.cons (1 : Nat) (AV.sc (Value.int IntKind.i64 (0 : Int)))
    (AV.cons (1 : Nat) (AV.sc (Value.int IntKind.i64 (0 : Int)))
    (AV.cons (1 : Nat) (AV.sc (Value.int IntKind.i64 (0 : Int))) AV.nil)))
    (AV.cons (1 : Nat) (AV.sc (Value.int IntKind.i64 r)) AV.nil)).tup
    res ∧
    SubOut [] []) ∧
    ((r != (0 : Int)) = false →
    True ∧
    True ∧
    True ∧
    (decide (at_ < (0 : Int)) = false →
    True ∧
    false = false ∧
    True ∧
    false = false ∧
    True ∧
    false = false ∧
    True ∧
    True ∧
    (decide (at_ ≥ (↑text.size : Int)) = true →
    True ∧
    ((0 : Nat) = (0 : Nat) ∧ True) ∧
    True ∧
    (((0 : Nat) = (0 : Nat) ∧ True) ∧ True ∧ True) ∧
    ((((True ∧ True ∧ True ∧ True) ∧ True ∧ True) ∧
    Sub
    (AV.cons (1 : Nat)
    (AV.cons (1 : Nat) (AV.sc (Value.int IntKind.i64 (0 : Int)))
    (AV.cons (1 : Nat) (AV.sc (Value.int IntKind.i64 (0 : Int)))
    (AV.cons (1 : Nat) (AV.sc (Value.int IntKind.i64 (0 : Int))) AV.nil)))
    (AV.cons (1 : Nat) (AV.sc (Value.int IntKind.i64 (4 : Int))) AV.nil)).tup
    (AV.cons (1 : Nat)
    (AV.cons (1 : Nat) (AV.sc (Value.int IntKind.i64 (0 : Int)))
    (AV.cons (1 : Nat) (AV.sc (Value.int IntKind.i64 (0 : Int)))
    (AV.cons (1 : Nat) (AV.sc (Value.int IntKind.i64 (0 : Int))) AV.nil)))
    (AV.cons (1 : Nat) (AV.sc (Value.int IntKind.i64 (4 : Int))) AV.nil)).tup ∧
    True) ∧
    True) ∧
    Sub
    (AV.cons (1 : Nat)
    (AV.cons (1 : Nat) (AV.sc (Value.int IntKind.i64 (0 : Int)))
    (AV.cons (1 : Nat) (AV.sc (Value.int IntKind.i64 (0 : Int)))
    (AV.cons (1 : Nat) (AV.sc (Value.int IntKind.i64 (0 : Int))) AV.nil)))
    (AV.cons (1 : Nat) (AV.sc (Value.int IntKind.i64 (4 : Int))) AV.nil)).tup
    res ∧
    SubOut [] []) ∧
    (decide (at_ ≥ (↑text.size : Int)) = false →
    ((0 : Nat) = (0 : Nat) ∧ True) ∧
    True ∧
    True ∧
    ∃ (r : Int × Int × Int),
    (((True ∧ True ∧ True ∧ True ∧ True) ∧ True ∧ True ∧ True) ∧
    True ∧
    Ok Proofs.Try.prog (55 : Nat)
    [AV.cons (1 : Nat) (AV.sc (Value.int IntKind.i64 da))
    (AV.cons (256 : Nat)
    (AV.ar (256 : Nat) (1 : Nat) fun (i : Nat) => AV.sc (Value.int IntKind.u8 (dbaf i)))
    (AV.cons (1 : Nat)
    (AV.vec true (1 : Nat) dbban dbban fun (i : Nat) =>
    AV.vec true (1 : Nat) (dbbafn i) (dbbafn i) fun (i_1 : Nat) =>
    AV.sc (Value.int IntKind.i64 (dbbaff i i_1)))
    (AV.cons (1 : Nat)
    (AV.vec true (1 : Nat) dbbban dbbban fun (i : Nat) =>
    AV.sc (Value.int IntKind.i64 (dbbbaf i)))
    AV.nil))),
    AV.sc (Value.string text), AV.sc (Value.int IntKind.i64 at_)]
    []
    (AV.cons (1 : Nat) (AV.sc (Value.int IntKind.i64 r.fst))
    (AV.cons (1 : Nat) (AV.sc (Value.int IntKind.i64 r.snd.fst))
    (AV.cons (1 : Nat) (AV.sc (Value.int IntKind.i64 r.snd.snd)) AV.nil)))
    []) ∧
    ((0 : Nat) = (0 : Nat) ∧ True) ∧
    True ∧
    (((0 : Nat) = (0 : Nat) ∧ True) ∧ True ∧ True) ∧
    ((((True ∧ True ∧ True ∧ True) ∧ True ∧ True) ∧
    Sub
    (AV.cons (1 : Nat)
    (AV.cons (1 : Nat) (AV.sc (Value.int IntKind.i64 r.fst))
    (AV.cons (1 : Nat) (AV.sc (Value.int IntKind.i64 r.snd.fst))
    (AV.cons (1 : Nat) (AV.sc (Value.int IntKind.i64 r.snd.snd)) AV.nil)))
    (AV.cons (1 : Nat) (AV.sc (Value.int IntKind.i64 (0 : Int))) AV.nil)).tup
    (AV.cons (1 : Nat)
    (AV.cons (1 : Nat) (AV.sc (Value.int IntKind.i64 r.fst))
    (AV.cons (1 : Nat) (AV.sc (Value.int IntKind.i64 r.snd.fst))
    (AV.cons (1 : Nat) (AV.sc (Value.int IntKind.i64 r.snd.snd)) AV.nil)))
    (AV.cons (1 : Nat) (AV.sc (Value.int IntKind.i64 (0 : Int))) AV.nil)).tup ∧
    True) ∧
    True) ∧
    Sub
    (AV.cons (1 : Nat)
    (AV.cons (1 : Nat) (AV.sc (Value.int IntKind.i64 r.fst))
    (AV.cons (1 : Nat) (AV.sc (Value.int IntKind.i64 r.snd.fst))
    (AV.cons (1 : Nat) (AV.sc (Value.int IntKind.i64 r.snd.snd)) AV.nil)))
    (AV.cons (1 : Nat) (AV.sc (Value.int IntKind.i64 (0 : Int))) AV.nil)).tup
    res ∧
    SubOut [] [])) ∧
    (decide (at_ < (0 : Int)) = !false →
    true = true ∧
    (!false) = !false ∧
    true = true ∧
    (!false) = !false ∧
    true = true ∧
    (!false) = !false ∧
    true = true ∧
    True ∧
    true = true ∧
    True ∧
    ((0 : Nat) = (0 : Nat) ∧ True) ∧
    True ∧
    (((0 : Nat) = (0 : Nat) ∧ True) ∧ True ∧ True) ∧
    ((((True ∧ True ∧ True ∧ True) ∧ True ∧ True) ∧
    Sub
    (AV.cons (1 : Nat)
    (AV.cons (1 : Nat) (AV.sc (Value.int IntKind.i64 (0 : Int)))
    (AV.cons (1 : Nat) (AV.sc (Value.int IntKind.i64 (0 : Int)))
    (AV.cons (1 : Nat) (AV.sc (Value.int IntKind.i64 (0 : Int))) AV.nil)))
    (AV.cons (1 : Nat) (AV.sc (Value.int IntKind.i64 (4 : Int))) AV.nil)).tup
    (AV.cons (1 : Nat)
    (AV.cons (1 : Nat) (AV.sc (Value.int IntKind.i64 (0 : Int)))
    (AV.cons (1 : Nat) (AV.sc (Value.int IntKind.i64 (0 : Int)))
    (AV.cons (1 : Nat) (AV.sc (Value.int IntKind.i64 (0 : Int))) AV.nil)))
    (AV.cons (1 : Nat) (AV.sc (Value.int IntKind.i64 (4 : Int))) AV.nil)).tup ∧
    True) ∧
    True) ∧
    Sub
    (AV.cons (1 : Nat)
    (AV.cons (1 : Nat) (AV.sc (Value.int IntKind.i64 (0 : Int)))
    (AV.cons (1 : Nat) (AV.sc (Value.int IntKind.i64 (0 : Int)))
    (AV.cons (1 : Nat) (AV.sc (Value.int IntKind.i64 (0 : Int))) AV.nil)))
    (AV.cons (1 : Nat) (AV.sc (Value.int IntKind.i64 (4 : Int))) AV.nil)).tup
    res ∧
    SubOut [] [])) from
    ⟨trivial, ⟨trivial, ⟨trivial, ⟨⟨rfl, trivial⟩, (Exists.elim h fun x4 h4 => ⟨x4, (And.elim (fun h5 k5 => ⟨⟨⟨⟨trivial, ⟨trivial, ⟨trivial, ⟨trivial, trivial⟩⟩⟩⟩, trivial⟩, ⟨trivial, h5⟩⟩, ⟨trivial, ⟨trivial, ⟨trivial, (And.elim (fun h9 k9 => ⟨(fun x10 => (fun h10 => ⟨trivial, ⟨trivial, ⟨⟨rfl, trivial⟩, ⟨trivial, ⟨⟨⟨rfl, trivial⟩, ⟨trivial, trivial⟩⟩, ⟨⟨⟨⟨⟨trivial, ⟨trivial, ⟨trivial, trivial⟩⟩⟩, ⟨trivial, trivial⟩⟩, ⟨Sub.refl _, trivial⟩⟩, trivial⟩, ((fun h17 => ⟨h17, trivial⟩) h10)⟩⟩⟩⟩⟩⟩) (h9 x10)), (fun x10 => (fun h10 => ⟨trivial, ⟨trivial, ⟨trivial, (And.elim (fun h14 k14 => ⟨(fun x15 => (fun h15 => ⟨trivial, ⟨rfl, ⟨trivial, ⟨rfl, ⟨trivial, ⟨rfl, ⟨trivial, ⟨trivial, (And.elim (fun h24 k24 => ⟨(fun x25 => (fun h25 => ⟨trivial, ⟨⟨rfl, trivial⟩, ⟨trivial, ⟨⟨⟨rfl, trivial⟩, ⟨trivial, trivial⟩⟩, ⟨⟨⟨⟨⟨trivial, ⟨trivial, ⟨trivial, trivial⟩⟩⟩, ⟨trivial, trivial⟩⟩, ⟨Sub.refl _, trivial⟩⟩, trivial⟩, ((fun h31 => ⟨h31, trivial⟩) h25)⟩⟩⟩⟩⟩) (h24 x25)), (fun x25 => (fun h25 => ⟨⟨rfl, trivial⟩, ⟨trivial, ⟨trivial, (Exists.elim h25 fun x29 h29 => ⟨x29, (And.elim (fun h30 k30 => ⟨⟨⟨⟨trivial, ⟨trivial, ⟨trivial, ⟨trivial, trivial⟩⟩⟩⟩, ⟨trivial, ⟨trivial, trivial⟩⟩⟩, ⟨trivial, h30⟩⟩, ⟨⟨rfl, trivial⟩, ⟨trivial, ⟨⟨⟨rfl, trivial⟩, ⟨trivial, trivial⟩⟩, ⟨⟨⟨⟨⟨trivial, ⟨trivial, ⟨trivial, trivial⟩⟩⟩, ⟨trivial, trivial⟩⟩, ⟨Sub.refl _, trivial⟩⟩, trivial⟩, ((fun h35 => ⟨h35, trivial⟩) k30)⟩⟩⟩⟩⟩) h29)⟩)⟩⟩⟩) (k24 x25))⟩) h15)⟩⟩⟩⟩⟩⟩⟩⟩) (h14 x15)), (fun x15 => (fun h15 => ⟨rfl, ⟨rfl, ⟨rfl, ⟨rfl, ⟨rfl, ⟨rfl, ⟨rfl, ⟨trivial, ⟨rfl, ⟨trivial, ⟨⟨rfl, trivial⟩, ⟨trivial, ⟨⟨⟨rfl, trivial⟩, ⟨trivial, trivial⟩⟩, ⟨⟨⟨⟨⟨trivial, ⟨trivial, ⟨trivial, trivial⟩⟩⟩, ⟨trivial, trivial⟩⟩, ⟨Sub.refl _, trivial⟩⟩, trivial⟩, ((fun h30 => ⟨h30, trivial⟩) h15)⟩⟩⟩⟩⟩⟩⟩⟩⟩⟩⟩⟩⟩⟩) (k14 x15))⟩) h10)⟩⟩⟩) (k9 x10))⟩) k5)⟩⟩⟩⟩) h4)⟩)⟩⟩⟩⟩)
theorem hf23 : Go.Proofs.Try.prog.funcs[23]? = some Go.Proofs.Try.f23 := by kernel_rfl
abbrev s23_e (rulesn : Nat) (rulesfa : Nat → Int) (rulesfbaa : Nat → Int) (rulesfbabaf : Nat → Nat → Int) (da : Int) (dbaf : Nat → Int) (dbban : Nat) (dbbafn : Nat → Nat) (dbbaff : Nat → Nat → Int) (dbbban : Nat) (dbbbaf : Nat → Int) (text : ByteArray) : List (Nat × AV) := [(0, (.vec true 7 rulesn rulesn (fun i0 => (.cons 1 (.sc (.int .i64 (rulesfa i0))) (.cons 6 (.cons 1 (.sc (.int .i64 (rulesfbaa i0))) (.cons 4 (.ar 4 1 (fun i1 => (.sc (.int .u64 (rulesfbabaf i0 i1))))) (.cons 1 .undef .nil))) .nil))))), (1, (.cons 1 (.sc (.int .i64 da)) (.cons 256 (.ar 256 1 (fun i0 => (.sc (.int .u8 (dbaf i0))))) (.cons 1 (.vec true 1 dbban dbban (fun i0 => (.vec true 1 (dbbafn i0) (dbbafn i0) (fun i1 => (.sc (.int .i64 (dbbaff i0 i1))))))) (.cons 1 (.vec true 1 dbbban dbbban (fun i0 => (.sc (.int .i64 (dbbbaf i0))))) .nil))))), (2, (.sc (.string text)))]
abbrev m23_e (rulesn : Nat) (rulesfa : Nat → Int) (rulesfbaa : Nat → Int) (rulesfbabaf : Nat → Nat → Int) (da : Int) (dbaf : Nat → Int) (dbban : Nat) (dbbafn : Nat → Nat) (dbbaff : Nat → Nat → Int) (dbbban : Nat) (dbbbaf : Nat → Int) (text : ByteArray) : List (Nat × Nat × AV) := []
def L23_e (rulesn : Nat) (rulesfa : Nat → Int) (rulesfbaa : Nat → Int) (rulesfbabaf : Nat → Nat → Int) (da : Int) (dbaf : Nat → Int) (dbban : Nat) (dbbafn : Nat → Nat) (dbbaff : Nat → Nat → Int) (dbbban : Nat) (dbbbaf : Nat → Int) (text : ByteArray) (res : AV) : Prop := Goes ⟨Go.Proofs.Try.prog, 23, [], res, []⟩ (place Go.Proofs.Try.f23 []) (s23_e rulesn rulesfa rulesfbaa rulesfbabaf da dbaf dbban dbbafn dbbaff dbbban dbbbaf text) (m23_e rulesn rulesfa rulesfbaa rulesfbabaf da dbaf dbban dbbafn dbbaff dbbban dbbbaf text)
theorem a23_e (rulesn : Nat) (rulesfa : Nat → Int) (rulesfbaa : Nat → Int) (rulesfbabaf : Nat → Nat → Int) (da : Int) (dbaf : Nat → Int) (dbban : Nat) (dbbafn : Nat → Nat) (dbbaff : Nat → Nat → Int) (dbbban : Nat) (dbbbaf : Nat → Int) (text : ByteArray) (res : AV) (h : (∀ slot, fact (look .undef (s23_e rulesn rulesfa rulesfbaa rulesfbabaf da dbaf dbban dbbafn dbbaff dbbban dbbbaf text) slot)) → L23_e rulesn rulesfa rulesfbaa rulesfbabaf da dbaf dbban dbbafn dbbaff dbbban dbbbaf text res) : L23_e rulesn rulesfa rulesfbaa rulesfbabaf da dbaf dbban dbbafn dbbaff dbbban dbbbaf text res :=
  assumeRule 23 [] Go.Proofs.Try.f23 hf23 [] (s23_e rulesn rulesfa rulesfbaa rulesfbabaf da dbaf dbban dbbafn dbbaff dbbban dbbbaf text) (m23_e rulesn rulesfa rulesfbaa rulesfbabaf da dbaf dbban dbbafn dbbaff dbbban dbbbaf text) res [] _ (by kernel_rfl) h
abbrev s23_0 (rulesn : Nat) (rulesfa : Nat → Int) (rulesfbaa : Nat → Int) (rulesfbabaf : Nat → Nat → Int) (text : ByteArray) (t20n : Nat) (t20f : Nat → Int) (t21 : Int) (t22 : Int) (b0a : Int) (b0baf : Nat → Int) (b0bban : Nat) (b0bbafn : Nat → Nat) (b0bbaff : Nat → Nat → Int) (b0bbban : Nat) (b0bbbaf : Nat → Int) : List (Nat × AV) := [(0, (.vec true 7 rulesn rulesn (fun i0 => (.cons 1 (.sc (.int .i64 (rulesfa i0))) (.cons 6 (.cons 1 (.sc (.int .i64 (rulesfbaa i0))) (.cons 4 (.ar 4 1 (fun i1 => (.sc (.int .u64 (rulesfbabaf i0 i1))))) (.cons 1 .undef .nil))) .nil))))), (2, (.sc (.string text))), (4, (.pt 1000 [] 0)), (20, (.vec true 1 t20n t20n (fun i0 => (.sc (.int .i64 (t20f i0)))))), (21, (.sc (.int .i64 t21))), (22, (.sc (.int .i64 t22)))]
abbrev m23_0 (rulesn : Nat) (rulesfa : Nat → Int) (rulesfbaa : Nat → Int) (rulesfbabaf : Nat → Nat → Int) (text : ByteArray) (t20n : Nat) (t20f : Nat → Int) (t21 : Int) (t22 : Int) (b0a : Int) (b0baf : Nat → Int) (b0bban : Nat) (b0bbafn : Nat → Nat) (b0bbaff : Nat → Nat → Int) (b0bbban : Nat) (b0bbbaf : Nat → Int) : List (Nat × Nat × AV) := [(1000, 26, (.cons 1 (.sc (.int .i64 b0a)) (.cons 256 (.ar 256 1 (fun i0 => (.sc (.int .u8 (b0baf i0))))) (.cons 1 (.vec true 1 b0bban b0bban (fun i0 => (.vec true 1 (b0bbafn i0) (b0bbafn i0) (fun i1 => (.sc (.int .i64 (b0bbaff i0 i1))))))) (.cons 1 (.vec true 1 b0bbban b0bbban (fun i0 => (.sc (.int .i64 (b0bbbaf i0))))) .nil)))))]
def L23_0 (rulesn : Nat) (rulesfa : Nat → Int) (rulesfbaa : Nat → Int) (rulesfbabaf : Nat → Nat → Int) (text : ByteArray) (t20n : Nat) (t20f : Nat → Int) (t21 : Int) (t22 : Int) (b0a : Int) (b0baf : Nat → Int) (b0bban : Nat) (b0bbafn : Nat → Nat) (b0bbaff : Nat → Nat → Int) (b0bbban : Nat) (b0bbbaf : Nat → Int) (res : AV) : Prop := Goes ⟨Go.Proofs.Try.prog, 23, [], res, []⟩ (place Go.Proofs.Try.f23 [1, 1, 0, 1, 0, 0]) (s23_0 rulesn rulesfa rulesfbaa rulesfbabaf text t20n t20f t21 t22 b0a b0baf b0bban b0bbafn b0bbaff b0bbban b0bbbaf) (m23_0 rulesn rulesfa rulesfbaa rulesfbabaf text t20n t20f t21 t22 b0a b0baf b0bban b0bbafn b0bbaff b0bbban b0bbbaf)
theorem a23_0 (rulesn : Nat) (rulesfa : Nat → Int) (rulesfbaa : Nat → Int) (rulesfbabaf : Nat → Nat → Int) (text : ByteArray) (t20n : Nat) (t20f : Nat → Int) (t21 : Int) (t22 : Int) (b0a : Int) (b0baf : Nat → Int) (b0bban : Nat) (b0bbafn : Nat → Nat) (b0bbaff : Nat → Nat → Int) (b0bbban : Nat) (b0bbbaf : Nat → Int) (res : AV) (h : (∀ slot, fact (look .undef (s23_0 rulesn rulesfa rulesfbaa rulesfbabaf text t20n t20f t21 t22 b0a b0baf b0bban b0bbafn b0bbaff b0bbban b0bbbaf) slot)) → L23_0 rulesn rulesfa rulesfbaa rulesfbabaf text t20n t20f t21 t22 b0a b0baf b0bban b0bbafn b0bbaff b0bbban b0bbbaf res) : L23_0 rulesn rulesfa rulesfbaa rulesfbabaf text t20n t20f t21 t22 b0a b0baf b0bban b0bbafn b0bbaff b0bbban b0bbbaf res :=
  assumeRule 23 [] Go.Proofs.Try.f23 hf23 [1, 1, 0, 1, 0, 0] (s23_0 rulesn rulesfa rulesfbaa rulesfbabaf text t20n t20f t21 t22 b0a b0baf b0bban b0bbafn b0bbaff b0bbban b0bbbaf) (m23_0 rulesn rulesfa rulesfbaa rulesfbabaf text t20n t20f t21 t22 b0a b0baf b0bban b0bbafn b0bbaff b0bbban b0bbbaf) res [] _ (by kernel_rfl) h
abbrev s23_1 (rulesn : Nat) (rulesfa : Nat → Int) (rulesfbaa : Nat → Int) (rulesfbabaf : Nat → Nat → Int) (text : ByteArray) (out_n : Nat) (at_ : Int) (b0a : Int) (b0baf : Nat → Int) (b0bban : Nat) (b0bbafn : Nat → Nat) (b0bbaff : Nat → Nat → Int) (b0bbban : Nat) (b0bbbaf : Nat → Int) (b1n : Nat) (b1fa : Nat → Int) (b1fba : Nat → Int) (b1fbba : Nat → Int) : List (Nat × AV) := [(0, (.vec true 7 rulesn rulesn (fun i0 => (.cons 1 (.sc (.int .i64 (rulesfa i0))) (.cons 6 (.cons 1 (.sc (.int .i64 (rulesfbaa i0))) (.cons 4 (.ar 4 1 (fun i1 => (.sc (.int .u64 (rulesfbabaf i0 i1))))) (.cons 1 .undef .nil))) .nil))))), (2, (.sc (.string text))), (4, (.pt 1000 [] 0)), (11, (.rf 1001 3 0 out_n)), (12, (.sc (.int .i64 at_)))]
abbrev m23_1 (rulesn : Nat) (rulesfa : Nat → Int) (rulesfbaa : Nat → Int) (rulesfbabaf : Nat → Nat → Int) (text : ByteArray) (out_n : Nat) (at_ : Int) (b0a : Int) (b0baf : Nat → Int) (b0bban : Nat) (b0bbafn : Nat → Nat) (b0bbaff : Nat → Nat → Int) (b0bbban : Nat) (b0bbbaf : Nat → Int) (b1n : Nat) (b1fa : Nat → Int) (b1fba : Nat → Int) (b1fbba : Nat → Int) : List (Nat × Nat × AV) := [(1000, 26, (.cons 1 (.sc (.int .i64 b0a)) (.cons 256 (.ar 256 1 (fun i0 => (.sc (.int .u8 (b0baf i0))))) (.cons 1 (.vec true 1 b0bban b0bban (fun i0 => (.vec true 1 (b0bbafn i0) (b0bbafn i0) (fun i1 => (.sc (.int .i64 (b0bbaff i0 i1))))))) (.cons 1 (.vec true 1 b0bbban b0bbban (fun i0 => (.sc (.int .i64 (b0bbbaf i0))))) .nil))))), (1001, 45, (.ar b1n 3 (fun i0 => (.cons 1 (.sc (.int .i64 (b1fa i0))) (.cons 1 (.sc (.int .i64 (b1fba i0))) (.cons 1 (.sc (.int .i64 (b1fbba i0))) .nil))))))]
def L23_1 (rulesn : Nat) (rulesfa : Nat → Int) (rulesfbaa : Nat → Int) (rulesfbabaf : Nat → Nat → Int) (text : ByteArray) (out_n : Nat) (at_ : Int) (b0a : Int) (b0baf : Nat → Int) (b0bban : Nat) (b0bbafn : Nat → Nat) (b0bbaff : Nat → Nat → Int) (b0bbban : Nat) (b0bbbaf : Nat → Int) (b1n : Nat) (b1fa : Nat → Int) (b1fba : Nat → Int) (b1fbba : Nat → Int) (res : AV) : Prop := Goes ⟨Go.Proofs.Try.prog, 23, [], res, []⟩ (place Go.Proofs.Try.f23 [1, 1, 1, 1, 1, 0, 1, 0, 0]) (s23_1 rulesn rulesfa rulesfbaa rulesfbabaf text out_n at_ b0a b0baf b0bban b0bbafn b0bbaff b0bbban b0bbbaf b1n b1fa b1fba b1fbba) (m23_1 rulesn rulesfa rulesfbaa rulesfbabaf text out_n at_ b0a b0baf b0bban b0bbafn b0bbaff b0bbban b0bbbaf b1n b1fa b1fba b1fbba)
theorem a23_1 (rulesn : Nat) (rulesfa : Nat → Int) (rulesfbaa : Nat → Int) (rulesfbabaf : Nat → Nat → Int) (text : ByteArray) (out_n : Nat) (at_ : Int) (b0a : Int) (b0baf : Nat → Int) (b0bban : Nat) (b0bbafn : Nat → Nat) (b0bbaff : Nat → Nat → Int) (b0bbban : Nat) (b0bbbaf : Nat → Int) (b1n : Nat) (b1fa : Nat → Int) (b1fba : Nat → Int) (b1fbba : Nat → Int) (res : AV) (h : (∀ slot, fact (look .undef (s23_1 rulesn rulesfa rulesfbaa rulesfbabaf text out_n at_ b0a b0baf b0bban b0bbafn b0bbaff b0bbban b0bbbaf b1n b1fa b1fba b1fbba) slot)) → L23_1 rulesn rulesfa rulesfbaa rulesfbabaf text out_n at_ b0a b0baf b0bban b0bbafn b0bbaff b0bbban b0bbbaf b1n b1fa b1fba b1fbba res) : L23_1 rulesn rulesfa rulesfbaa rulesfbabaf text out_n at_ b0a b0baf b0bban b0bbafn b0bbaff b0bbban b0bbbaf b1n b1fa b1fba b1fbba res :=
  assumeRule 23 [] Go.Proofs.Try.f23 hf23 [1, 1, 1, 1, 1, 0, 1, 0, 0] (s23_1 rulesn rulesfa rulesfbaa rulesfbabaf text out_n at_ b0a b0baf b0bban b0bbafn b0bbaff b0bbban b0bbbaf b1n b1fa b1fba b1fbba) (m23_1 rulesn rulesfa rulesfbaa rulesfbabaf text out_n at_ b0a b0baf b0bban b0bbafn b0bbaff b0bbban b0bbbaf b1n b1fa b1fba b1fbba) res [] _ (by kernel_rfl) h
theorem o23 (rulesn : Nat) (rulesfa : Nat → Int) (rulesfbaa : Nat → Int) (rulesfbabaf : Nat → Nat → Int) (da : Int) (dbaf : Nat → Int) (dbban : Nat) (dbbafn : Nat → Nat) (dbbaff : Nat → Nat → Int) (dbbban : Nat) (dbbbaf : Nat → Int) (text : ByteArray) (res : AV) (hnew : newOnly res) (h : L23_e rulesn rulesfa rulesfbaa rulesfbabaf da dbaf dbban dbbafn dbbaff dbbban dbbbaf text res) : Ok Go.Proofs.Try.prog 23 [(.vec true 7 rulesn rulesn (fun i0 => (.cons 1 (.sc (.int .i64 (rulesfa i0))) (.cons 6 (.cons 1 (.sc (.int .i64 (rulesfbaa i0))) (.cons 4 (.ar 4 1 (fun i1 => (.sc (.int .u64 (rulesfbabaf i0 i1))))) (.cons 1 .undef .nil))) .nil)))), (.cons 1 (.sc (.int .i64 da)) (.cons 256 (.ar 256 1 (fun i0 => (.sc (.int .u8 (dbaf i0))))) (.cons 1 (.vec true 1 dbban dbban (fun i0 => (.vec true 1 (dbbafn i0) (dbbafn i0) (fun i1 => (.sc (.int .i64 (dbbaff i0 i1))))))) (.cons 1 (.vec true 1 dbbban dbbban (fun i0 => (.sc (.int .i64 (dbbbaf i0))))) .nil)))), (.sc (.string text))] [] res [] :=
  okRule2 23 Go.Proofs.Try.f23 hf23 [(.vec true 7 rulesn rulesn (fun i0 => (.cons 1 (.sc (.int .i64 (rulesfa i0))) (.cons 6 (.cons 1 (.sc (.int .i64 (rulesfbaa i0))) (.cons 4 (.ar 4 1 (fun i1 => (.sc (.int .u64 (rulesfbabaf i0 i1))))) (.cons 1 .undef .nil))) .nil)))), (.cons 1 (.sc (.int .i64 da)) (.cons 256 (.ar 256 1 (fun i0 => (.sc (.int .u8 (dbaf i0))))) (.cons 1 (.vec true 1 dbban dbban (fun i0 => (.vec true 1 (dbbafn i0) (dbbafn i0) (fun i1 => (.sc (.int .i64 (dbbaff i0 i1))))))) (.cons 1 (.vec true 1 dbbban dbbban (fun i0 => (.sc (.int .i64 (dbbbaf i0))))) .nil)))), (.sc (.string text))] [] res [] [] rfl (by kernel_rfl) (by kernel_rfl) (by kernel_rfl) ⟨hnew, by simp⟩ (L23_e rulesn rulesfa rulesfbaa rulesfbabaf da dbaf dbban dbbafn dbbaff dbbban dbbbaf text res) (by kernel_rfl) h
theorem r23_e (rulesn : Nat) (rulesfa : Nat → Int) (rulesfbaa : Nat → Int) (rulesfbabaf : Nat → Nat → Int) (da : Int) (dbaf : Nat → Int) (dbban : Nat) (dbbafn : Nat → Nat) (dbbaff : Nat → Nat → Int) (dbbban : Nat) (dbbbaf : Nat → Int) (text : ByteArray) (res : AV)
    (h : ∃ (r : Int),
  Ok Proofs.Try.prog (54 : Nat)
    [AV.cons (1 : Nat) (AV.sc (Value.int IntKind.i64 da))
    (AV.cons (256 : Nat) (AV.ar (256 : Nat) (1 : Nat) fun (i : Nat) => AV.sc (Value.int IntKind.u8 (dbaf i)))
    (AV.cons (1 : Nat)
    (AV.vec true (1 : Nat) dbban dbban fun (i : Nat) =>
    AV.vec true (1 : Nat) (dbbafn i) (dbbafn i) fun (i_1 : Nat) => AV.sc (Value.int IntKind.i64 (dbbaff i i_1)))
    (AV.cons (1 : Nat) (AV.vec true (1 : Nat) dbbban dbbban fun (i : Nat) => AV.sc (Value.int IntKind.i64 (dbbbaf i))) AV.nil)))]
    [] (AV.sc (Value.int IntKind.i64 r)) [] ∧
    ((r != (0 : Int)) = true →
    Sub (AV.cons (1 : Nat) (AV.sc (Value.slice none (0 : Nat) (0 : Nat))) (AV.cons (1 : Nat) (AV.sc (Value.int IntKind.i64 r)) AV.nil)).tup res) ∧
    ((r != (0 : Int)) = false →
    L23_0 rulesn rulesfa rulesfbaa rulesfbabaf text dbbban dbbbaf (↑dbbban : Int) (0 : Int) da dbaf dbban dbbafn dbbaff dbbban dbbbaf res)) :
    L23_e rulesn rulesfa rulesfbaa rulesfbabaf da dbaf dbban dbbafn dbbaff dbbban dbbbaf text res :=
  rule Go.Am.Seat.tabOk 23 [] Go.Proofs.Try.f23 hf23 [] (s23_e rulesn rulesfa rulesfbaa rulesfbabaf da dbaf dbban dbbafn dbbaff dbbban dbbbaf text) (m23_e rulesn rulesfa rulesfbaa rulesfbabaf da dbaf dbban dbbafn dbbaff dbbban dbbbaf text) res [] 400
    (Orc.call [] [] (fun (r54 : Int) => AV.sc (Value.int IntKind.i64 r54)) (fun (r54 : Int) => []) fun (r54 : Int) =>
  (Orc.fin (AV.cons (1 : Nat) (AV.sc (Value.slice none (0 : Nat) (0 : Nat))) (AV.cons (1 : Nat) (AV.sc (Value.int IntKind.i64 r54)) AV.nil)).tup [] []).br
    (Orc.cut (nat_lit 6) (s23_0 rulesn rulesfa rulesfbaa rulesfbabaf text dbbban dbbbaf (↑dbbban : Int) (0 : Int) da dbaf dbban dbbafn dbbaff dbbban dbbbaf)
    (m23_0 rulesn rulesfa rulesfbaa rulesfbabaf text dbbban dbbbaf (↑dbbban : Int) (0 : Int) da dbaf dbban dbbafn dbbaff dbbban dbbbaf)
    [((1000 : Nat), some (4 : Nat))])) _ _ (by kernel_rfl) (by kernel_rfl) (show True ∧
  True ∧
    True ∧
    ((0 : Nat) = (0 : Nat) ∧ True) ∧
    ∃ (r : Int),
    (((True ∧ True ∧ True ∧ True ∧ True) ∧ True) ∧
    True ∧
    Ok Proofs.Try.prog (54 : Nat)
    [AV.cons (1 : Nat) (AV.sc (Value.int IntKind.i64 da))
    (AV.cons (256 : Nat) (AV.ar (256 : Nat) (1 : Nat) fun (i : Nat) => AV.sc (Value.int IntKind.u8 (dbaf i)))
    (AV.cons (1 : Nat)
    (AV.vec true (1 : Nat) dbban dbban fun (i : Nat) =>
    AV.vec true (1 : Nat) (dbbafn i) (dbbafn i) fun (i_1 : Nat) => AV.sc (Value.int IntKind.i64 (dbbaff i i_1)))
    (AV.cons (1 : Nat) (AV.vec true (1 : Nat) dbbban dbbban fun (i : Nat) => AV.sc (Value.int IntKind.i64 (dbbbaf i))) AV.nil)))]
    [] (AV.sc (Value.int IntKind.i64 r)) []) ∧
    True ∧
    True ∧
    True ∧
    ((r != (0 : Int)) = true →
    True ∧
    True ∧
    True ∧
    (True ∧ True ∧ True) ∧
    (((True ∧ True ∧ True) ∧
    Sub
    (AV.cons (1 : Nat) (AV.sc (Value.slice none (0 : Nat) (0 : Nat)))
    (AV.cons (1 : Nat) (AV.sc (Value.int IntKind.i64 r)) AV.nil)).tup
    (AV.cons (1 : Nat) (AV.sc (Value.slice none (0 : Nat) (0 : Nat)))
    (AV.cons (1 : Nat) (AV.sc (Value.int IntKind.i64 r)) AV.nil)).tup ∧
    True) ∧
    True) ∧
    Sub
    (AV.cons (1 : Nat) (AV.sc (Value.slice none (0 : Nat) (0 : Nat)))
    (AV.cons (1 : Nat) (AV.sc (Value.int IntKind.i64 r)) AV.nil)).tup
    res ∧
    SubOut [] []) ∧
    ((r != (0 : Int)) = false →
    True ∧
    ((1 : Nat) + ((256 : Nat) + ((1 : Nat) + (0 : Nat))) = plus (0 : Nat) (258 : Nat) ∧ True) ∧
    True ∧
    True ∧
    ((True ∧
    Sub
    (AV.vec true (7 : Nat) rulesn rulesn fun (i0 : Nat) =>
    AV.cons (1 : Nat) (AV.sc (Value.int IntKind.i64 (rulesfa i0)))
    (AV.cons (6 : Nat)
    (AV.cons (1 : Nat) (AV.sc (Value.int IntKind.i64 (rulesfbaa i0)))
    (AV.cons (4 : Nat)
    (AV.ar (4 : Nat) (1 : Nat) fun (i1 : Nat) => AV.sc (Value.int IntKind.u64 (rulesfbabaf i0 i1)))
    (AV.cons (1 : Nat) AV.undef AV.nil)))
    AV.nil))
    (AV.vec true (7 : Nat) rulesn rulesn fun (i0 : Nat) =>
    AV.cons (1 : Nat) (AV.sc (Value.int IntKind.i64 (rulesfa i0)))
    (AV.cons (6 : Nat)
    (AV.cons (1 : Nat) (AV.sc (Value.int IntKind.i64 (rulesfbaa i0)))
    (AV.cons (4 : Nat)
    (AV.ar (4 : Nat) (1 : Nat) fun (i1 : Nat) => AV.sc (Value.int IntKind.u64 (rulesfbabaf i0 i1)))
    (AV.cons (1 : Nat) AV.undef AV.nil)))
    AV.nil)) ∧
    True ∧
    Sub (AV.sc (Value.string text)) (AV.sc (Value.string text)) ∧
    True ∧
    Sub (AV.pt (1000 : Nat) [] (0 : Nat)) (AV.pt (1000 : Nat) [] (0 : Nat)) ∧
    True ∧
    Sub (AV.vec true (1 : Nat) dbbban dbbban fun (i0 : Nat) => AV.sc (Value.int IntKind.i64 (dbbbaf i0)))
    (AV.vec true (1 : Nat) dbbban dbbban fun (i0 : Nat) => AV.sc (Value.int IntKind.i64 (dbbbaf i0))) ∧
    True ∧
    Sub (AV.sc (Value.int IntKind.i64 (↑dbbban : Int))) (AV.sc (Value.int IntKind.i64 (↑dbbban : Int))) ∧
    True ∧ Sub (AV.sc (Value.int IntKind.i64 (0 : Int))) (AV.sc (Value.int IntKind.i64 (0 : Int))) ∧ True) ∧
    (True ∧ True ∧ True ∧ True ∧ True) ∧
    SubB
    (AV.cons (1 : Nat) (AV.sc (Value.int IntKind.i64 da))
    (AV.cons (256 : Nat) (AV.ar (256 : Nat) (1 : Nat) fun (i0 : Nat) => AV.sc (Value.int IntKind.u8 (dbaf i0)))
    (AV.cons (1 : Nat)
    (AV.vec true (1 : Nat) dbban dbban fun (i0 : Nat) =>
    AV.vec true (1 : Nat) (dbbafn i0) (dbbafn i0) fun (i1 : Nat) => AV.sc (Value.int IntKind.i64 (dbbaff i0 i1)))
    (AV.cons (1 : Nat)
    (AV.vec true (1 : Nat) dbbban dbbban fun (i0 : Nat) => AV.sc (Value.int IntKind.i64 (dbbbaf i0))) AV.nil))))
    (AV.cons (1 : Nat) (AV.sc (Value.int IntKind.i64 da))
    (AV.cons (256 : Nat) (AV.ar (256 : Nat) (1 : Nat) fun (i0 : Nat) => AV.sc (Value.int IntKind.u8 (dbaf i0)))
    (AV.cons (1 : Nat)
    (AV.vec true (1 : Nat) dbban dbban fun (i0 : Nat) =>
    AV.vec true (1 : Nat) (dbbafn i0) (dbbafn i0) fun (i1 : Nat) => AV.sc (Value.int IntKind.i64 (dbbaff i0 i1)))
    (AV.cons (1 : Nat)
    (AV.vec true (1 : Nat) dbbban dbbban fun (i0 : Nat) => AV.sc (Value.int IntKind.i64 (dbbbaf i0))) AV.nil)))) ∧
    True) ∧
    L23_0 rulesn rulesfa rulesfbaa rulesfbabaf text dbbban dbbbaf (↑dbbban : Int) (0 : Int) da dbaf dbban dbbafn dbbaff dbbban
    dbbbaf res) from
    ⟨trivial, ⟨trivial, ⟨trivial, ⟨⟨rfl, trivial⟩, (Exists.elim h fun x4 h4 => ⟨x4, (And.elim (fun h5 k5 => ⟨⟨⟨⟨trivial, ⟨trivial, ⟨trivial, ⟨trivial, trivial⟩⟩⟩⟩, trivial⟩, ⟨trivial, h5⟩⟩, ⟨trivial, ⟨trivial, ⟨trivial, (And.elim (fun h9 k9 => ⟨(fun x10 => (fun h10 => ⟨trivial, ⟨trivial, ⟨trivial, ⟨⟨trivial, ⟨trivial, trivial⟩⟩, ⟨⟨⟨⟨trivial, ⟨trivial, trivial⟩⟩, ⟨Sub.refl _, trivial⟩⟩, trivial⟩, ((fun h16 => ⟨h16, trivial⟩) h10)⟩⟩⟩⟩⟩) (h9 x10)), (fun x10 => (fun h10 => ⟨trivial, ⟨⟨rfl, trivial⟩, ⟨trivial, ⟨trivial, ⟨⟨⟨trivial, ⟨Sub.refl _, ⟨trivial, ⟨Sub.refl _, ⟨trivial, ⟨Sub.refl _, ⟨trivial, ⟨Sub.refl _, ⟨trivial, ⟨Sub.refl _, ⟨trivial, ⟨Sub.refl _, trivial⟩⟩⟩⟩⟩⟩⟩⟩⟩⟩⟩⟩, ⟨⟨trivial, ⟨trivial, ⟨trivial, ⟨trivial, trivial⟩⟩⟩⟩, ⟨SubB.refl _, trivial⟩⟩⟩, h10⟩⟩⟩⟩⟩) (k9 x10))⟩) k5)⟩⟩⟩⟩) h4)⟩)⟩⟩⟩⟩)
theorem r23_0 (rulesn : Nat) (rulesfa : Nat → Int) (rulesfbaa : Nat → Int) (rulesfbabaf : Nat → Nat → Int) (text : ByteArray) (t20n : Nat) (t20f : Nat → Int) (t21 : Int) (t22 : Int) (b0a : Int) (b0baf : Nat → Int) (b0bban : Nat) (b0bbafn : Nat → Nat) (b0bbaff : Nat → Nat → Int) (b0bbban : Nat) (b0bbbaf : Nat → Int) (res : AV)
    (h : (decide (t22 < t21) = true →
    ((0 : Int) ≤ t22 ∧ t22 < (↑t20n : Int)) ∧
    (decide (t20f t22.toNat ≥ (↑rulesn : Int)) = true →
    Sub (AV.cons (1 : Nat) (AV.sc (Value.slice none (0 : Nat) (0 : Nat))) (AV.cons (1 : Nat) (AV.sc (Value.int IntKind.i64 (2 : Int))) AV.nil)).tup res) ∧
    (decide (t20f t22.toNat ≥ (↑rulesn : Int)) = false →
    L23_0 rulesn rulesfa rulesfbaa rulesfbabaf text t20n t20f t21 (IntKind.i64.wrap (t22 + (1 : Int))) b0a b0baf b0bban b0bbafn b0bbaff b0bbban b0bbbaf
    res)) ∧
  (decide (t22 < t21) = false →
    (decide ((↑text.size : Int) > (65536 : Int)) = true →
    Sub (AV.cons (1 : Nat) (AV.sc (Value.slice none (0 : Nat) (0 : Nat))) (AV.cons (1 : Nat) (AV.sc (Value.int IntKind.i64 (3 : Int))) AV.nil)).tup res) ∧
    (decide ((↑text.size : Int) > (65536 : Int)) = false →
    L23_1 rulesn rulesfa rulesfbaa rulesfbabaf text (0 : Nat) (0 : Int) b0a b0baf b0bban b0bbafn b0bbaff b0bbban b0bbbaf (0 : Nat)
    (fun (i : Nat) => Int.ofNat (0 : Nat)) (fun (i : Nat) => Int.ofNat (0 : Nat)) (fun (i : Nat) => Int.ofNat (0 : Nat)) res))) :
    L23_0 rulesn rulesfa rulesfbaa rulesfbabaf text t20n t20f t21 t22 b0a b0baf b0bban b0bbafn b0bbaff b0bbban b0bbbaf res :=
  rule Go.Am.Seat.tabOk 23 [] Go.Proofs.Try.f23 hf23 [1, 1, 0, 1, 0, 0] (s23_0 rulesn rulesfa rulesfbaa rulesfbabaf text t20n t20f t21 t22 b0a b0baf b0bban b0bbafn b0bbaff b0bbban b0bbbaf) (m23_0 rulesn rulesfa rulesfbaa rulesfbabaf text t20n t20f t21 t22 b0a b0baf b0bban b0bbafn b0bbaff b0bbban b0bbbaf) res [] 400
    (((Orc.fin (AV.cons (1 : Nat) (AV.sc (Value.slice none (0 : Nat) (0 : Nat))) (AV.cons (1 : Nat) (AV.sc (Value.int IntKind.i64 (2 : Int))) AV.nil)).tup [] []).br
    (Orc.cut (nat_lit 4)
    (s23_0 rulesn rulesfa rulesfbaa rulesfbabaf text t20n t20f t21 (IntKind.i64.wrap (t22 + (1 : Int))) b0a b0baf b0bban b0bbafn b0bbaff b0bbban b0bbbaf)
    (m23_0 rulesn rulesfa rulesfbaa rulesfbabaf text t20n t20f t21 (IntKind.i64.wrap (t22 + (1 : Int))) b0a b0baf b0bban b0bbafn b0bbaff b0bbban b0bbbaf)
    [((1000 : Nat), some (1000 : Nat))])).br
  ((Orc.fin (AV.cons (1 : Nat) (AV.sc (Value.slice none (0 : Nat) (0 : Nat))) (AV.cons (1 : Nat) (AV.sc (Value.int IntKind.i64 (3 : Int))) AV.nil)).tup []
    []).br
    (Orc.cut (nat_lit 8)
    (s23_1 rulesn rulesfa rulesfbaa rulesfbabaf text (0 : Nat) (0 : Int) b0a b0baf b0bban b0bbafn b0bbaff b0bbban b0bbbaf (0 : Nat)
    (fun (i : Nat) => Int.ofNat (0 : Nat)) (fun (i : Nat) => Int.ofNat (0 : Nat)) fun (i : Nat) => Int.ofNat (0 : Nat))
    (m23_1 rulesn rulesfa rulesfbaa rulesfbabaf text (0 : Nat) (0 : Int) b0a b0baf b0bban b0bbafn b0bbaff b0bbban b0bbbaf (0 : Nat)
    (fun (i : Nat) => Int.ofNat (0 : Nat)) (fun (i : Nat) => Int.ofNat (0 : Nat)) fun (i : Nat) => Int.ofNat (0 : Nat))
    [((1000 : Nat), some (1000 : Nat)), ((1001 : Nat), none)]))) _ _ (by kernel_rfl) (by kernel_rfl) (show True ∧
  (decide (t22 < t21) = true →
    ((0 : Int) ≤ t22 ∧ t22 < (↑t20n : Int)) ∧
    True ∧
    True ∧
    True ∧
    True ∧
    True ∧
    True ∧
    (decide (t20f t22.toNat ≥ (↑rulesn : Int)) = true →
    True ∧
    True ∧
    (True ∧ True ∧ True) ∧
    (((True ∧ True ∧ True) ∧
    Sub
    (AV.cons (1 : Nat) (AV.sc (Value.slice none (0 : Nat) (0 : Nat)))
    (AV.cons (1 : Nat) (AV.sc (Value.int IntKind.i64 (2 : Int))) AV.nil)).tup
    (AV.cons (1 : Nat) (AV.sc (Value.slice none (0 : Nat) (0 : Nat)))
    (AV.cons (1 : Nat) (AV.sc (Value.int IntKind.i64 (2 : Int))) AV.nil)).tup ∧
    True) ∧
    True) ∧
    Sub
    (AV.cons (1 : Nat) (AV.sc (Value.slice none (0 : Nat) (0 : Nat)))
    (AV.cons (1 : Nat) (AV.sc (Value.int IntKind.i64 (2 : Int))) AV.nil)).tup
    res ∧
    SubOut [] []) ∧
    (decide (t20f t22.toNat ≥ (↑rulesn : Int)) = false →
    True ∧
    True ∧
    ((True ∧
    Sub
    (AV.vec true (7 : Nat) rulesn rulesn fun (i0 : Nat) =>
    AV.cons (1 : Nat) (AV.sc (Value.int IntKind.i64 (rulesfa i0)))
    (AV.cons (6 : Nat)
    (AV.cons (1 : Nat) (AV.sc (Value.int IntKind.i64 (rulesfbaa i0)))
    (AV.cons (4 : Nat) (AV.ar (4 : Nat) (1 : Nat) fun (i1 : Nat) => AV.sc (Value.int IntKind.u64 (rulesfbabaf i0 i1)))
    (AV.cons (1 : Nat) AV.undef AV.nil)))
    AV.nil))
    (AV.vec true (7 : Nat) rulesn rulesn fun (i0 : Nat) =>
    AV.cons (1 : Nat) (AV.sc (Value.int IntKind.i64 (rulesfa i0)))
    (AV.cons (6 : Nat)
    (AV.cons (1 : Nat) (AV.sc (Value.int IntKind.i64 (rulesfbaa i0)))
    (AV.cons (4 : Nat) (AV.ar (4 : Nat) (1 : Nat) fun (i1 : Nat) => AV.sc (Value.int IntKind.u64 (rulesfbabaf i0 i1)))
    (AV.cons (1 : Nat) AV.undef AV.nil)))
    AV.nil)) ∧
    True ∧
    Sub (AV.sc (Value.string text)) (AV.sc (Value.string text)) ∧
    True ∧
    Sub (AV.pt (1000 : Nat) [] (0 : Nat)) (AV.pt (1000 : Nat) [] (0 : Nat)) ∧
    True ∧
    Sub (AV.vec true (1 : Nat) t20n t20n fun (i0 : Nat) => AV.sc (Value.int IntKind.i64 (t20f i0)))
    (AV.vec true (1 : Nat) t20n t20n fun (i0 : Nat) => AV.sc (Value.int IntKind.i64 (t20f i0))) ∧
    True ∧
    Sub (AV.sc (Value.int IntKind.i64 t21)) (AV.sc (Value.int IntKind.i64 t21)) ∧
    True ∧
    Sub (AV.sc (Value.int IntKind.i64 (IntKind.i64.wrap (t22 + (1 : Int)))))
    (AV.sc (Value.int IntKind.i64 (IntKind.i64.wrap (t22 + (1 : Int))))) ∧
    True) ∧
    (True ∧ True ∧ True ∧ True ∧ True) ∧
    SubB
    (AV.cons (1 : Nat) (AV.sc (Value.int IntKind.i64 b0a))
    (AV.cons (256 : Nat) (AV.ar (256 : Nat) (1 : Nat) fun (i0 : Nat) => AV.sc (Value.int IntKind.u8 (b0baf i0)))
    (AV.cons (1 : Nat)
    (AV.vec true (1 : Nat) b0bban b0bban fun (i0 : Nat) =>
    AV.vec true (1 : Nat) (b0bbafn i0) (b0bbafn i0) fun (i1 : Nat) => AV.sc (Value.int IntKind.i64 (b0bbaff i0 i1)))
    (AV.cons (1 : Nat)
    (AV.vec true (1 : Nat) b0bbban b0bbban fun (i0 : Nat) => AV.sc (Value.int IntKind.i64 (b0bbbaf i0))) AV.nil))))
    (AV.cons (1 : Nat) (AV.sc (Value.int IntKind.i64 b0a))
    (AV.cons (256 : Nat) (AV.ar (256 : Nat) (1 : Nat) fun (i0 : Nat) => AV.sc (Value.int IntKind.u8 (b0baf i0)))
    (AV.cons (1 : Nat)
    (AV.vec true (1 : Nat) b0bban b0bban fun (i0 : Nat) =>
    AV.vec true (1 : Nat) (b0bbafn i0) (b0bbafn i0) fun (i1 : Nat) => AV.sc (Value.int IntKind.i64 (b0bbaff i0 i1)))
    (AV.cons (1 : Nat)
    (AV.vec true (1 : Nat) b0bbban b0bbban fun (i0 : Nat) => AV.sc (Value.int IntKind.i64 (b0bbbaf i0))) AV.nil)))) ∧
    True) ∧
    L23_0 rulesn rulesfa rulesfbaa rulesfbabaf text t20n t20f t21 (IntKind.i64.wrap (t22 + (1 : Int))) b0a b0baf b0bban b0bbafn
    b0bbaff b0bbban b0bbbaf res)) ∧
    (decide (t22 < t21) = false →
    True ∧
    True ∧
    True ∧
    (decide ((↑text.size : Int) > (65536 : Int)) = true →
    True ∧
    True ∧
    (True ∧ True ∧ True) ∧
    (((True ∧ True ∧ True) ∧
    Sub
    (AV.cons (1 : Nat) (AV.sc (Value.slice none (0 : Nat) (0 : Nat)))
    (AV.cons (1 : Nat) (AV.sc (Value.int IntKind.i64 (3 : Int))) AV.nil)).tup
    (AV.cons (1 : Nat) (AV.sc (Value.slice none (0 : Nat) (0 : Nat)))
    (AV.cons (1 : Nat) (AV.sc (Value.int IntKind.i64 (3 : Int))) AV.nil)).tup ∧
    True) ∧
    True) ∧
    Sub
    (AV.cons (1 : Nat) (AV.sc (Value.slice none (0 : Nat) (0 : Nat)))
    (AV.cons (1 : Nat) (AV.sc (Value.int IntKind.i64 (3 : Int))) AV.nil)).tup
    res ∧
    SubOut [] []) ∧
    (decide ((↑text.size : Int) > (65536 : Int)) = false →
    True ∧
    True ∧
    ((True ∧
    Sub
    (AV.vec true (7 : Nat) rulesn rulesn fun (i0 : Nat) =>
    AV.cons (1 : Nat) (AV.sc (Value.int IntKind.i64 (rulesfa i0)))
    (AV.cons (6 : Nat)
    (AV.cons (1 : Nat) (AV.sc (Value.int IntKind.i64 (rulesfbaa i0)))
    (AV.cons (4 : Nat) (AV.ar (4 : Nat) (1 : Nat) fun (i1 : Nat) => AV.sc (Value.int IntKind.u64 (rulesfbabaf i0 i1)))
    (AV.cons (1 : Nat) AV.undef AV.nil)))
    AV.nil))
    (AV.vec true (7 : Nat) rulesn rulesn fun (i0 : Nat) =>
    AV.cons (1 : Nat) (AV.sc (Value.int IntKind.i64 (rulesfa i0)))
    (AV.cons (6 : Nat)
    (AV.cons (1 : Nat) (AV.sc (Value.int IntKind.i64 (rulesfbaa i0)))
    (AV.cons (4 : Nat) (AV.ar (4 : Nat) (1 : Nat) fun (i1 : Nat) => AV.sc (Value.int IntKind.u64 (rulesfbabaf i0 i1)))
    (AV.cons (1 : Nat) AV.undef AV.nil)))
    AV.nil)) ∧
    True ∧
    Sub (AV.sc (Value.string text)) (AV.sc (Value.string text)) ∧
    True ∧
    Sub (AV.pt (1000 : Nat) [] (0 : Nat)) (AV.pt (1000 : Nat) [] (0 : Nat)) ∧
    True ∧ Sub (AV.sc (Value.int IntKind.i64 (0 : Int))) (AV.sc (Value.int IntKind.i64 (0 : Int))) ∧ True) ∧
    (True ∧ True ∧ True ∧ True ∧ True) ∧
    SubB
    (AV.cons (1 : Nat) (AV.sc (Value.int IntKind.i64 b0a))
    (AV.cons (256 : Nat) (AV.ar (256 : Nat) (1 : Nat) fun (i0 : Nat) => AV.sc (Value.int IntKind.u8 (b0baf i0)))
    (AV.cons (1 : Nat)
    (AV.vec true (1 : Nat) b0bban b0bban fun (i0 : Nat) =>
    AV.vec true (1 : Nat) (b0bbafn i0) (b0bbafn i0) fun (i1 : Nat) => AV.sc (Value.int IntKind.i64 (b0bbaff i0 i1)))
    (AV.cons (1 : Nat) (AV.vec true (1 : Nat) b0bbban b0bbban fun (i0 : Nat) => AV.sc (Value.int IntKind.i64 (b0bbbaf i0)))
    AV.nil))))
    (AV.cons (1 : Nat) (AV.sc (Value.int IntKind.i64 b0a))
    (AV.cons (256 : Nat) (AV.ar (256 : Nat) (1 : Nat) fun (i0 : Nat) => AV.sc (Value.int IntKind.u8 (b0baf i0)))
    (AV.cons (1 : Nat)
    (AV.vec true (1 : Nat) b0bban b0bban fun (i0 : Nat) =>
    AV.vec true (1 : Nat) (b0bbafn i0) (b0bbafn i0) fun (i1 : Nat) => AV.sc (Value.int IntKind.i64 (b0bbaff i0 i1)))
    (AV.cons (1 : Nat) (AV.vec true (1 : Nat) b0bbban b0bbban fun (i0 : Nat) => AV.sc (Value.int IntKind.i64 (b0bbbaf i0)))
    AV.nil)))) ∧
    True) ∧
    L23_1 rulesn rulesfa rulesfbaa rulesfbabaf text (0 : Nat) (0 : Int) b0a b0baf b0bban b0bbafn b0bbaff b0bbban b0bbbaf (0 : Nat)
    (fun (i : Nat) => Int.ofNat (0 : Nat)) (fun (i : Nat) => Int.ofNat (0 : Nat)) (fun (i : Nat) => Int.ofNat (0 : Nat)) res)) from
    ⟨trivial, (And.elim (fun h1 k1 => ⟨(fun x2 => (fun h2 => (And.elim (fun h3 k3 => ⟨(And.elim (fun h4 k4 => ⟨h4, k4⟩) h3), ⟨trivial, ⟨trivial, ⟨trivial, ⟨trivial, ⟨trivial, ⟨trivial, (And.elim (fun h10 k10 => ⟨(fun x11 => (fun h11 => ⟨trivial, ⟨trivial, ⟨⟨trivial, ⟨trivial, trivial⟩⟩, ⟨⟨⟨⟨trivial, ⟨trivial, trivial⟩⟩, ⟨Sub.refl _, trivial⟩⟩, trivial⟩, ((fun h16 => ⟨h16, trivial⟩) h11)⟩⟩⟩⟩) (h10 x11)), (fun x11 => (fun h11 => ⟨trivial, ⟨trivial, ⟨⟨⟨trivial, ⟨Sub.refl _, ⟨trivial, ⟨Sub.refl _, ⟨trivial, ⟨Sub.refl _, ⟨trivial, ⟨Sub.refl _, ⟨trivial, ⟨Sub.refl _, ⟨trivial, ⟨Sub.refl _, trivial⟩⟩⟩⟩⟩⟩⟩⟩⟩⟩⟩⟩, ⟨⟨trivial, ⟨trivial, ⟨trivial, ⟨trivial, trivial⟩⟩⟩⟩, ⟨SubB.refl _, trivial⟩⟩⟩, h11⟩⟩⟩) (k10 x11))⟩) k3)⟩⟩⟩⟩⟩⟩⟩) h2)) (h1 x2)), (fun x2 => (fun h2 => ⟨trivial, ⟨trivial, ⟨trivial, (And.elim (fun h6 k6 => ⟨(fun x7 => (fun h7 => ⟨trivial, ⟨trivial, ⟨⟨trivial, ⟨trivial, trivial⟩⟩, ⟨⟨⟨⟨trivial, ⟨trivial, trivial⟩⟩, ⟨Sub.refl _, trivial⟩⟩, trivial⟩, ((fun h12 => ⟨h12, trivial⟩) h7)⟩⟩⟩⟩) (h6 x7)), (fun x7 => (fun h7 => ⟨trivial, ⟨trivial, ⟨⟨⟨trivial, ⟨Sub.refl _, ⟨trivial, ⟨Sub.refl _, ⟨trivial, ⟨Sub.refl _, ⟨trivial, ⟨Sub.refl _, trivial⟩⟩⟩⟩⟩⟩⟩⟩, ⟨⟨trivial, ⟨trivial, ⟨trivial, ⟨trivial, trivial⟩⟩⟩⟩, ⟨SubB.refl _, trivial⟩⟩⟩, h7⟩⟩⟩) (k6 x7))⟩) h2)⟩⟩⟩) (k1 x2))⟩) h)⟩)
theorem r23_1 (rulesn : Nat) (rulesfa : Nat → Int) (rulesfbaa : Nat → Int) (rulesfbabaf : Nat → Nat → Int) (text : ByteArray) (out_n : Nat) (at_ : Int) (b0a : Int) (b0baf : Nat → Int) (b0bban : Nat) (b0bbafn : Nat → Nat) (b0bbaff : Nat → Nat → Int) (b0bbban : Nat) (b0bbbaf : Nat → Int) (b1n : Nat) (b1fa : Nat → Int) (b1fba : Nat → Int) (b1fbba : Nat → Int) (res : AV)
    (h : (decide (at_ < (↑text.size : Int)) = true →
    ∃ (r : Int × Int × Int),
    Ok Proofs.Try.prog (64 : Nat)
    [AV.vec true (7 : Nat) rulesn rulesn fun (i : Nat) =>
    AV.cons (1 : Nat) (AV.sc (Value.int IntKind.i64 (rulesfa i)))
    (AV.cons (6 : Nat)
    (AV.cons (1 : Nat) (AV.sc (Value.int IntKind.i64 (rulesfbaa i)))
    (AV.cons (4 : Nat) (AV.ar (4 : Nat) (1 : Nat) fun (i_1 : Nat) => AV.sc (Value.int IntKind.u64 (rulesfbabaf i i_1)))
    (AV.cons (1 : Nat) AV.undef AV.nil)))
    AV.nil),
    AV.cons (1 : Nat) (AV.sc (Value.int IntKind.i64 b0a))
    (AV.cons (256 : Nat) (AV.ar (256 : Nat) (1 : Nat) fun (i : Nat) => AV.sc (Value.int IntKind.u8 (b0baf i)))
    (AV.cons (1 : Nat)
    (AV.vec true (1 : Nat) b0bban b0bban fun (i : Nat) =>
    AV.vec true (1 : Nat) (b0bbafn i) (b0bbafn i) fun (i_1 : Nat) => AV.sc (Value.int IntKind.i64 (b0bbaff i i_1)))
    (AV.cons (1 : Nat) (AV.vec true (1 : Nat) b0bbban b0bbban fun (i : Nat) => AV.sc (Value.int IntKind.i64 (b0bbbaf i))) AV.nil))),
    AV.sc (Value.string text), AV.sc (Value.int IntKind.i64 at_)]
    []
    (AV.cons (1 : Nat) (AV.sc (Value.int IntKind.i64 r.fst))
    (AV.cons (1 : Nat) (AV.sc (Value.int IntKind.i64 r.snd.fst)) (AV.cons (1 : Nat) (AV.sc (Value.int IntKind.i64 r.snd.snd)) AV.nil)))
    [] ∧
    (out_n ≤ b1n ∧ (0 : Nat) + (1 : Nat) ≤ (1 : Nat) ∧ (out_n + (1 : Nat)) * (24 : Nat) ≤ (140737488355328 : Nat) ∧ out_n + (1 : Nat) ≤ maxLen) ∧
    L23_1 rulesn rulesfa rulesfbaa rulesfbabaf text (out_n + (1 : Nat)) (IntKind.i64.wrap (at_ + r.snd.fst)) b0a b0baf b0bban b0bbafn b0bbaff b0bbban
    b0bbbaf (out_n + (1 : Nat))
    (fun (i : Nat) => bif i.blt out_n then b1fa i else bif ((0 : Nat) + (i - out_n)).beq (0 : Nat) then r.fst else (0 : Int))
    (fun (i : Nat) => bif i.blt out_n then b1fba i else bif ((0 : Nat) + (i - out_n)).beq (0 : Nat) then r.snd.fst else (0 : Int))
    (fun (i : Nat) => bif i.blt out_n then b1fbba i else bif ((0 : Nat) + (i - out_n)).beq (0 : Nat) then r.snd.snd else (0 : Int)) res) ∧
  (decide (at_ < (↑text.size : Int)) = false →
    ((0 : Nat) + out_n ≤ b1n ∧
    Sub
    (AV.cons (1 : Nat)
    (AV.vec false (3 : Nat) out_n (b1n - (0 : Nat)) fun (i : Nat) =>
    AV.cons (1 : Nat) (AV.sc (Value.int IntKind.i64 (b1fa (plus (0 : Nat) i))))
    (AV.cons (1 : Nat) (AV.sc (Value.int IntKind.i64 (b1fba (plus (0 : Nat) i))))
    (AV.cons (1 : Nat) (AV.sc (Value.int IntKind.i64 (b1fbba (plus (0 : Nat) i)))) AV.nil)))
    (AV.cons (1 : Nat) (AV.sc (Value.int IntKind.i64 (0 : Int))) AV.nil)).tup
    (AV.cons (1 : Nat)
    (AV.vec false (3 : Nat) out_n out_n fun (i : Nat) =>
    AV.cons (1 : Nat) (AV.sc (Value.int IntKind.i64 (b1fa (plus (0 : Nat) i))))
    (AV.cons (1 : Nat) (AV.sc (Value.int IntKind.i64 (b1fba (plus (0 : Nat) i))))
    (AV.cons (1 : Nat) (AV.sc (Value.int IntKind.i64 (b1fbba (plus (0 : Nat) i)))) AV.nil)))
    (AV.cons (1 : Nat) (AV.sc (Value.int IntKind.i64 (0 : Int))) AV.nil)).tup) ∧
    Sub
    (AV.cons (1 : Nat)
    (AV.vec false (3 : Nat) out_n out_n fun (i : Nat) =>
    AV.cons (1 : Nat) (AV.sc (Value.int IntKind.i64 (b1fa (plus (0 : Nat) i))))
    (AV.cons (1 : Nat) (AV.sc (Value.int IntKind.i64 (b1fba (plus (0 : Nat) i))))
    (AV.cons (1 : Nat) (AV.sc (Value.int IntKind.i64 (b1fbba (plus (0 : Nat) i)))) AV.nil)))
    (AV.cons (1 : Nat) (AV.sc (Value.int IntKind.i64 (0 : Int))) AV.nil)).tup
    res)) :
    L23_1 rulesn rulesfa rulesfbaa rulesfbabaf text out_n at_ b0a b0baf b0bban b0bbafn b0bbaff b0bbban b0bbbaf b1n b1fa b1fba b1fbba res :=
  rule Go.Am.Seat.tabOk 23 [] Go.Proofs.Try.f23 hf23 [1, 1, 1, 1, 1, 0, 1, 0, 0] (s23_1 rulesn rulesfa rulesfbaa rulesfbabaf text out_n at_ b0a b0baf b0bban b0bbafn b0bbaff b0bbban b0bbbaf b1n b1fa b1fba b1fbba) (m23_1 rulesn rulesfa rulesfbaa rulesfbabaf text out_n at_ b0a b0baf b0bban b0bbafn b0bbaff b0bbban b0bbbaf b1n b1fa b1fba b1fbba) res [] 400
    ((Orc.call [] []
    (fun (r64 : Int × Int × Int) =>
    AV.cons (1 : Nat) (AV.sc (Value.int IntKind.i64 r64.fst))
    (AV.cons (1 : Nat) (AV.sc (Value.int IntKind.i64 r64.snd.fst)) (AV.cons (1 : Nat) (AV.sc (Value.int IntKind.i64 r64.snd.snd)) AV.nil)))
    (fun (r64 : Int × Int × Int) => []) fun (r64 : Int × Int × Int) =>
    Orc.cut (nat_lit 5)
    (s23_1 rulesn rulesfa rulesfbaa rulesfbabaf text (out_n + (1 : Nat)) (IntKind.i64.wrap (at_ + r64.snd.fst)) b0a b0baf b0bban b0bbafn b0bbaff b0bbban
    b0bbbaf (out_n + (1 : Nat))
    (fun (i : Nat) =>
    bif i.blt out_n then b1fa i else bif ((0 : Nat) + (i - out_n)).beq ((0 : Nat), Operand.tmp (44 : Nat)).fst then r64.fst else (0 : Int))
    (fun (i : Nat) =>
    bif i.blt out_n then b1fba i else bif ((0 : Nat) + (i - out_n)).beq ((0 : Nat), Operand.tmp (44 : Nat)).fst then r64.snd.fst else (0 : Int))
    fun (i : Nat) =>
    bif i.blt out_n then b1fbba i else bif ((0 : Nat) + (i - out_n)).beq ((0 : Nat), Operand.tmp (44 : Nat)).fst then r64.snd.snd else (0 : Int))
    (m23_1 rulesn rulesfa rulesfbaa rulesfbabaf text (out_n + (1 : Nat)) (IntKind.i64.wrap (at_ + r64.snd.fst)) b0a b0baf b0bban b0bbafn b0bbaff b0bbban
    b0bbbaf (out_n + (1 : Nat))
    (fun (i : Nat) =>
    bif i.blt out_n then b1fa i else bif ((0 : Nat) + (i - out_n)).beq ((0 : Nat), Operand.tmp (44 : Nat)).fst then r64.fst else (0 : Int))
    (fun (i : Nat) =>
    bif i.blt out_n then b1fba i else bif ((0 : Nat) + (i - out_n)).beq ((0 : Nat), Operand.tmp (44 : Nat)).fst then r64.snd.fst else (0 : Int))
    fun (i : Nat) =>
    bif i.blt out_n then b1fbba i else bif ((0 : Nat) + (i - out_n)).beq ((0 : Nat), Operand.tmp (44 : Nat)).fst then r64.snd.snd else (0 : Int))
    [((1000 : Nat), some (1000 : Nat)), ((1001 : Nat), some (46 : Nat))]).br
  (Orc.fin
    (AV.cons (1 : Nat)
    (AV.vec false (3 : Nat) out_n out_n fun (i : Nat) =>
    AV.cons (1 : Nat) (AV.sc (Value.int IntKind.i64 (b1fa (plus (0 : Nat) i))))
    (AV.cons (1 : Nat) (AV.sc (Value.int IntKind.i64 (b1fba (plus (0 : Nat) i))))
    (AV.cons (1 : Nat) (AV.sc (Value.int IntKind.i64 (b1fbba (plus (0 : Nat) i)))) AV.nil)))
    (AV.cons (1 : Nat) (AV.sc (Value.int IntKind.i64 (0 : Int))) AV.nil)).tup
    [] [])) _ _ (by kernel_rfl) (by kernel_rfl) (show True ∧
  True ∧
    True ∧
    True ∧
    (decide (at_ < (↑text.size : Int)) = true →
    True ∧
    ((0 : Nat) = (0 : Nat) ∧ True) ∧
    True ∧
    True ∧
    ∃ (r : Int × Int × Int),
    ((True ∧ (True ∧ True ∧ True ∧ True ∧ True) ∧ True ∧ True ∧ True) ∧
    True ∧
    Ok Proofs.Try.prog (64 : Nat)
    [AV.vec true (7 : Nat) rulesn rulesn fun (i : Nat) =>
    AV.cons (1 : Nat) (AV.sc (Value.int IntKind.i64 (rulesfa i)))
    (AV.cons (6 : Nat)
    (AV.cons (1 : Nat) (AV.sc (Value.int IntKind.i64 (rulesfbaa i)))
    (AV.cons (4 : Nat) (AV.ar (4 : Nat) (1 : Nat) fun (i_1 : Nat) => AV.sc (Value.int IntKind.u64 (rulesfbabaf i i_1)))
    (AV.cons (1 : Nat) AV.undef AV.nil)))
    AV.nil),
    AV.cons (1 : Nat) (AV.sc (Value.int IntKind.i64 b0a))
    (AV.cons (256 : Nat) (AV.ar (256 : Nat) (1 : Nat) fun (i : Nat) => AV.sc (Value.int IntKind.u8 (b0baf i)))
    (AV.cons (1 : Nat)
    (AV.vec true (1 : Nat) b0bban b0bban fun (i : Nat) =>
    AV.vec true (1 : Nat) (b0bbafn i) (b0bbafn i) fun (i_1 : Nat) => AV.sc (Value.int IntKind.i64 (b0bbaff i i_1)))
    (AV.cons (1 : Nat) (AV.vec true (1 : Nat) b0bbban b0bbban fun (i : Nat) => AV.sc (Value.int IntKind.i64 (b0bbbaf i)))
    AV.nil))),
    AV.sc (Value.string text), AV.sc (Value.int IntKind.i64 at_)]
    []
    (AV.cons (1 : Nat) (AV.sc (Value.int IntKind.i64 r.fst))
    (AV.cons (1 : Nat) (AV.sc (Value.int IntKind.i64 r.snd.fst))
    (AV.cons (1 : Nat) (AV.sc (Value.int IntKind.i64 r.snd.snd)) AV.nil)))
    []) ∧
    True ∧
    ((0 : Nat) = (0 : Nat) ∧ True) ∧
    True ∧
    ((0 : Nat) = (0 : Nat) ∧ True) ∧
    (((True ∧ True ∧ True ∧ True) ∧ True) ∧ True) ∧
    (out_n ≤ b1n ∧
    ((0 : Nat) + (1 : Nat) ≤ (1 : Nat) ∧ (3 : Nat) = (3 : Nat)) ∧
    (out_n + (1 : Nat)) * (24 : Nat) ≤ (140737488355328 : Nat) ∧ out_n + (1 : Nat) ≤ maxLen) ∧
    True ∧
    True ∧
    True ∧
    ((1 : Nat) + (0 : Nat) = plus (0 : Nat) (1 : Nat) ∧ True) ∧
    True ∧
    True ∧
    ((True ∧
    Sub
    (AV.vec true (7 : Nat) rulesn rulesn fun (i0 : Nat) =>
    AV.cons (1 : Nat) (AV.sc (Value.int IntKind.i64 (rulesfa i0)))
    (AV.cons (6 : Nat)
    (AV.cons (1 : Nat) (AV.sc (Value.int IntKind.i64 (rulesfbaa i0)))
    (AV.cons (4 : Nat)
    (AV.ar (4 : Nat) (1 : Nat) fun (i1 : Nat) =>
    AV.sc (Value.int IntKind.u64 (rulesfbabaf i0 i1)))
    (AV.cons (1 : Nat) AV.undef AV.nil)))
    AV.nil))
    (AV.vec true (7 : Nat) rulesn rulesn fun (i0 : Nat) =>
    AV.cons (1 : Nat) (AV.sc (Value.int IntKind.i64 (rulesfa i0)))
    (AV.cons (6 : Nat)
    (AV.cons (1 : Nat) (AV.sc (Value.int IntKind.i64 (rulesfbaa i0)))
    (AV.cons (4 : Nat)
    (AV.ar (4 : Nat) (1 : Nat) fun (i1 : Nat) =>
    AV.sc (Value.int IntKind.u64 (rulesfbabaf i0 i1)))
    (AV.cons (1 : Nat) AV.undef AV.nil)))
    AV.nil)) ∧
    True ∧
    Sub (AV.sc (Value.string text)) (AV.sc (Value.string text)) ∧
    True ∧
    Sub (AV.pt (1000 : Nat) [] (0 : Nat)) (AV.pt (1000 : Nat) [] (0 : Nat)) ∧
    True ∧
    Sub (AV.rf (1001 : Nat) (3 : Nat) (0 : Nat) (out_n + (1 : Nat)))
    (AV.rf (1001 : Nat) (3 : Nat) (0 : Nat) (out_n + (1 : Nat))) ∧
    True ∧
    Sub (AV.sc (Value.int IntKind.i64 (IntKind.i64.wrap (at_ + r.snd.fst))))
    (AV.sc (Value.int IntKind.i64 (IntKind.i64.wrap (at_ + r.snd.fst)))) ∧
    True) ∧
    (True ∧ True ∧ True ∧ True ∧ True) ∧
    SubB
    (AV.cons (1 : Nat) (AV.sc (Value.int IntKind.i64 b0a))
    (AV.cons (256 : Nat)
    (AV.ar (256 : Nat) (1 : Nat) fun (i0 : Nat) => AV.sc (Value.int IntKind.u8 (b0baf i0)))
    (AV.cons (1 : Nat)
    (AV.vec true (1 : Nat) b0bban b0bban fun (i0 : Nat) =>
    AV.vec true (1 : Nat) (b0bbafn i0) (b0bbafn i0) fun (i1 : Nat) =>
    AV.sc (Value.int IntKind.i64 (b0bbaff i0 i1)))
    (AV.cons (1 : Nat)
    (AV.vec true (1 : Nat) b0bbban b0bbban fun (i0 : Nat) =>
    AV.sc (Value.int IntKind.i64 (b0bbbaf i0)))
    AV.nil))))
    (AV.cons (1 : Nat) (AV.sc (Value.int IntKind.i64 b0a))
    (AV.cons (256 : Nat)
    (AV.ar (256 : Nat) (1 : Nat) fun (i0 : Nat) => AV.sc (Value.int IntKind.u8 (b0baf i0)))
    (AV.cons (1 : Nat)
    (AV.vec true (1 : Nat) b0bban b0bban fun (i0 : Nat) =>
    AV.vec true (1 : Nat) (b0bbafn i0) (b0bbafn i0) fun (i1 : Nat) =>
    AV.sc (Value.int IntKind.i64 (b0bbaff i0 i1)))
    (AV.cons (1 : Nat)
    (AV.vec true (1 : Nat) b0bbban b0bbban fun (i0 : Nat) =>
    AV.sc (Value.int IntKind.i64 (b0bbbaf i0)))
    AV.nil)))) ∧
    True ∧
    SubB
    (AV.ar (out_n + (1 : Nat)) (3 : Nat) fun (i : Nat) =>
    AV.cons (1 : Nat)
    (AV.sc
    (Value.int IntKind.i64
    (bif i.blt out_n then b1fa i
    else bif ((0 : Nat) + (i - out_n)).beq (0 : Nat) then r.fst else (0 : Int))))
    (AV.cons (1 : Nat)
    (AV.sc
    (Value.int IntKind.i64
    (bif i.blt out_n then b1fba i
    else bif ((0 : Nat) + (i - out_n)).beq (0 : Nat) then r.snd.fst else (0 : Int))))
    (AV.cons (1 : Nat)
    (AV.sc
    (Value.int IntKind.i64
    (bif i.blt out_n then b1fbba i
    else bif ((0 : Nat) + (i - out_n)).beq (0 : Nat) then r.snd.snd else (0 : Int))))
    AV.nil)))
    (AV.ar (out_n + (1 : Nat)) (3 : Nat) fun (i0 : Nat) =>
    AV.cons (1 : Nat)
    (AV.sc
    (Value.int IntKind.i64
    (bif i0.blt out_n then b1fa i0
    else bif ((0 : Nat) + (i0 - out_n)).beq (0 : Nat) then r.fst else (0 : Int))))
    (AV.cons (1 : Nat)
    (AV.sc
    (Value.int IntKind.i64
    (bif i0.blt out_n then b1fba i0
    else bif ((0 : Nat) + (i0 - out_n)).beq (0 : Nat) then r.snd.fst else (0 : Int))))
    (AV.cons (1 : Nat)
    (AV.sc
    (Value.int IntKind.i64
    (bif i0.blt out_n then b1fbba i0
    else bif ((0 : Nat) + (i0 - out_n)).beq (0 : Nat) then r.snd.snd else (0 : Int))))
    AV.nil))) ∧
    True) ∧
    L23_1 rulesn rulesfa rulesfbaa rulesfbabaf text (out_n + (1 : Nat)) (IntKind.i64.wrap (at_ + r.snd.fst)) b0a
    b0baf b0bban b0bbafn b0bbaff b0bbban b0bbbaf (out_n + (1 : Nat))
    (fun (i : Nat) =>
    bif i.blt out_n then b1fa i else bif ((0 : Nat) + (i - out_n)).beq (0 : Nat) then r.fst else (0 : Int))
    (fun (i : Nat) =>
    bif i.blt out_n then b1fba i
    else bif ((0 : Nat) + (i - out_n)).beq (0 : Nat) then r.snd.fst else (0 : Int))
    (fun (i : Nat) =>
    bif i.blt out_n then b1fbba i
    else bif ((0 : Nat) + (i - out_n)).beq (0 : Nat) then r.snd.snd else (0 : Int))
    res) ∧
    (decide (at_ < (↑text.size : Int)) = false →
    True ∧
    True ∧
    True ∧
    (True ∧ True ∧ True) ∧
    ((((0 : Nat) + out_n ≤ b1n ∧ True ∧ True) ∧
    Sub
    (AV.cons (1 : Nat)
    (AV.vec false (3 : Nat) out_n (b1n - (0 : Nat)) fun (i : Nat) =>
    AV.cons (1 : Nat) (AV.sc (Value.int IntKind.i64 (b1fa (plus (0 : Nat) i))))
    (AV.cons (1 : Nat) (AV.sc (Value.int IntKind.i64 (b1fba (plus (0 : Nat) i))))
    (AV.cons (1 : Nat) (AV.sc (Value.int IntKind.i64 (b1fbba (plus (0 : Nat) i)))) AV.nil)))
    (AV.cons (1 : Nat) (AV.sc (Value.int IntKind.i64 (0 : Int))) AV.nil)).tup
    (AV.cons (1 : Nat)
    (AV.vec false (3 : Nat) out_n out_n fun (i : Nat) =>
    AV.cons (1 : Nat) (AV.sc (Value.int IntKind.i64 (b1fa (plus (0 : Nat) i))))
    (AV.cons (1 : Nat) (AV.sc (Value.int IntKind.i64 (b1fba (plus (0 : Nat) i))))
    (AV.cons (1 : Nat) (AV.sc (Value.int IntKind.i64 (b1fbba (plus (0 : Nat) i)))) AV.nil)))
    (AV.cons (1 : Nat) (AV.sc (Value.int IntKind.i64 (0 : Int))) AV.nil)).tup ∧
    True) ∧
    True) ∧
    Sub
    (AV.cons (1 : Nat)
    (AV.vec false (3 : Nat) out_n out_n fun (i : Nat) =>
    AV.cons (1 : Nat) (AV.sc (Value.int IntKind.i64 (b1fa (plus (0 : Nat) i))))
    (AV.cons (1 : Nat) (AV.sc (Value.int IntKind.i64 (b1fba (plus (0 : Nat) i))))
    (AV.cons (1 : Nat) (AV.sc (Value.int IntKind.i64 (b1fbba (plus (0 : Nat) i)))) AV.nil)))
    (AV.cons (1 : Nat) (AV.sc (Value.int IntKind.i64 (0 : Int))) AV.nil)).tup
    res ∧
    SubOut [] []) from
    ⟨trivial, ⟨trivial, ⟨trivial, ⟨trivial, (And.elim (fun h4 k4 => ⟨(fun x5 => (fun h5 => ⟨trivial, ⟨⟨rfl, trivial⟩, ⟨trivial, ⟨trivial, (Exists.elim h5 fun x10 h10 => ⟨x10, (And.elim (fun h11 k11 => ⟨⟨⟨trivial, ⟨⟨trivial, ⟨trivial, ⟨trivial, ⟨trivial, trivial⟩⟩⟩⟩, ⟨trivial, ⟨trivial, trivial⟩⟩⟩⟩, ⟨trivial, h11⟩⟩, ⟨trivial, ⟨⟨rfl, trivial⟩, ⟨trivial, ⟨⟨rfl, trivial⟩, ⟨⟨⟨⟨trivial, ⟨trivial, ⟨trivial, trivial⟩⟩⟩, trivial⟩, trivial⟩, (And.elim (fun h17 k17 => ⟨(And.elim (fun h18 k18 => ⟨h18, (And.elim (fun h19 k19 => ⟨((fun h20 => ⟨h20, rfl⟩) h19), (And.elim (fun h20 k20 => ⟨h20, k20⟩) k19)⟩) k18)⟩) h17), ⟨trivial, ⟨trivial, ⟨trivial, ⟨⟨rfl, trivial⟩, ⟨trivial, ⟨trivial, ⟨⟨⟨trivial, ⟨Sub.refl _, ⟨trivial, ⟨Sub.refl _, ⟨trivial, ⟨Sub.refl _, ⟨trivial, ⟨Sub.refl _, ⟨trivial, ⟨Sub.refl _, trivial⟩⟩⟩⟩⟩⟩⟩⟩⟩⟩, ⟨⟨trivial, ⟨trivial, ⟨trivial, ⟨trivial, trivial⟩⟩⟩⟩, ⟨SubB.refl _, ⟨trivial, ⟨SubB.refl _, trivial⟩⟩⟩⟩⟩, k17⟩⟩⟩⟩⟩⟩⟩⟩) k11)⟩⟩⟩⟩⟩⟩) h10)⟩)⟩⟩⟩⟩) (h4 x5)), (fun x5 => (fun h5 => ⟨trivial, ⟨trivial, ⟨trivial, ⟨⟨trivial, ⟨trivial, trivial⟩⟩, (And.elim (fun h10 k10 => ⟨((fun h11 => ⟨(And.elim (fun h12 k12 => ⟨((fun h13 => ⟨h13, ⟨trivial, trivial⟩⟩) h12), ((fun h13 => ⟨h13, trivial⟩) k12)⟩) h11), trivial⟩) h10), ((fun h11 => ⟨h11, trivial⟩) k10)⟩) h5)⟩⟩⟩⟩) (k4 x5))⟩) h)⟩⟩⟩⟩)
theorem hf25 : Go.Proofs.Try.prog.funcs[25]? = some Go.Proofs.Try.f25 := by kernel_rfl
abbrev s25_e (an : Nat) (afa : Nat → Int) (afba : Nat → Int) (afbba : Nat → Int) (bn : Nat) (bfa : Nat → Int) (bfba : Nat → Int) (bfbba : Nat → Int) : List (Nat × AV) := [(0, (.vec true 3 an an (fun i0 => (.cons 1 (.sc (.int .i64 (afa i0))) (.cons 1 (.sc (.int .i64 (afba i0))) (.cons 1 (.sc (.int .i64 (afbba i0))) .nil)))))), (1, (.vec true 3 bn bn (fun i0 => (.cons 1 (.sc (.int .i64 (bfa i0))) (.cons 1 (.sc (.int .i64 (bfba i0))) (.cons 1 (.sc (.int .i64 (bfbba i0))) .nil))))))]
abbrev m25_e (an : Nat) (afa : Nat → Int) (afba : Nat → Int) (afbba : Nat → Int) (bn : Nat) (bfa : Nat → Int) (bfba : Nat → Int) (bfbba : Nat → Int) : List (Nat × Nat × AV) := []
def L25_e (an : Nat) (afa : Nat → Int) (afba : Nat → Int) (afbba : Nat → Int) (bn : Nat) (bfa : Nat → Int) (bfba : Nat → Int) (bfbba : Nat → Int) (res : AV) : Prop := Goes ⟨Go.Proofs.Try.prog, 25, [], res, []⟩ (place Go.Proofs.Try.f25 []) (s25_e an afa afba afbba bn bfa bfba bfbba) (m25_e an afa afba afbba bn bfa bfba bfbba)
theorem a25_e (an : Nat) (afa : Nat → Int) (afba : Nat → Int) (afbba : Nat → Int) (bn : Nat) (bfa : Nat → Int) (bfba : Nat → Int) (bfbba : Nat → Int) (res : AV) (h : (∀ slot, fact (look .undef (s25_e an afa afba afbba bn bfa bfba bfbba) slot)) → L25_e an afa afba afbba bn bfa bfba bfbba res) : L25_e an afa afba afbba bn bfa bfba bfbba res :=
  assumeRule 25 [] Go.Proofs.Try.f25 hf25 [] (s25_e an afa afba afbba bn bfa bfba bfbba) (m25_e an afa afba afbba bn bfa bfba bfbba) res [] _ (by kernel_rfl) h
abbrev s25_0 (an : Nat) (afa : Nat → Int) (afba : Nat → Int) (afbba : Nat → Int) (bn : Nat) (bfa : Nat → Int) (bfba : Nat → Int) (bfbba : Nat → Int) (i : Int) : List (Nat × AV) := [(0, (.vec true 3 an an (fun i0 => (.cons 1 (.sc (.int .i64 (afa i0))) (.cons 1 (.sc (.int .i64 (afba i0))) (.cons 1 (.sc (.int .i64 (afbba i0))) .nil)))))), (1, (.vec true 3 bn bn (fun i0 => (.cons 1 (.sc (.int .i64 (bfa i0))) (.cons 1 (.sc (.int .i64 (bfba i0))) (.cons 1 (.sc (.int .i64 (bfbba i0))) .nil)))))), (5, (.sc (.int .i64 i)))]
abbrev m25_0 (an : Nat) (afa : Nat → Int) (afba : Nat → Int) (afbba : Nat → Int) (bn : Nat) (bfa : Nat → Int) (bfba : Nat → Int) (bfbba : Nat → Int) (i : Int) : List (Nat × Nat × AV) := []
def L25_0 (an : Nat) (afa : Nat → Int) (afba : Nat → Int) (afbba : Nat → Int) (bn : Nat) (bfa : Nat → Int) (bfba : Nat → Int) (bfbba : Nat → Int) (i : Int) (res : AV) : Prop := Goes ⟨Go.Proofs.Try.prog, 25, [], res, []⟩ (place Go.Proofs.Try.f25 [1, 1, 0, 1, 0, 0]) (s25_0 an afa afba afbba bn bfa bfba bfbba i) (m25_0 an afa afba afbba bn bfa bfba bfbba i)
theorem a25_0 (an : Nat) (afa : Nat → Int) (afba : Nat → Int) (afbba : Nat → Int) (bn : Nat) (bfa : Nat → Int) (bfba : Nat → Int) (bfbba : Nat → Int) (i : Int) (res : AV) (h : (∀ slot, fact (look .undef (s25_0 an afa afba afbba bn bfa bfba bfbba i) slot)) → L25_0 an afa afba afbba bn bfa bfba bfbba i res) : L25_0 an afa afba afbba bn bfa bfba bfbba i res :=
  assumeRule 25 [] Go.Proofs.Try.f25 hf25 [1, 1, 0, 1, 0, 0] (s25_0 an afa afba afbba bn bfa bfba bfbba i) (m25_0 an afa afba afbba bn bfa bfba bfbba i) res [] _ (by kernel_rfl) h
theorem o25 (an : Nat) (afa : Nat → Int) (afba : Nat → Int) (afbba : Nat → Int) (bn : Nat) (bfa : Nat → Int) (bfba : Nat → Int) (bfbba : Nat → Int) (res : AV) (hnew : newOnly res) (h : L25_e an afa afba afbba bn bfa bfba bfbba res) : Ok Go.Proofs.Try.prog 25 [(.vec true 3 an an (fun i0 => (.cons 1 (.sc (.int .i64 (afa i0))) (.cons 1 (.sc (.int .i64 (afba i0))) (.cons 1 (.sc (.int .i64 (afbba i0))) .nil))))), (.vec true 3 bn bn (fun i0 => (.cons 1 (.sc (.int .i64 (bfa i0))) (.cons 1 (.sc (.int .i64 (bfba i0))) (.cons 1 (.sc (.int .i64 (bfbba i0))) .nil)))))] [] res [] :=
  okRule2 25 Go.Proofs.Try.f25 hf25 [(.vec true 3 an an (fun i0 => (.cons 1 (.sc (.int .i64 (afa i0))) (.cons 1 (.sc (.int .i64 (afba i0))) (.cons 1 (.sc (.int .i64 (afbba i0))) .nil))))), (.vec true 3 bn bn (fun i0 => (.cons 1 (.sc (.int .i64 (bfa i0))) (.cons 1 (.sc (.int .i64 (bfba i0))) (.cons 1 (.sc (.int .i64 (bfbba i0))) .nil)))))] [] res [] [] rfl (by kernel_rfl) (by kernel_rfl) (by kernel_rfl) ⟨hnew, by simp⟩ (L25_e an afa afba afbba bn bfa bfba bfbba res) (by kernel_rfl) h
theorem r25_e (an : Nat) (afa : Nat → Int) (afba : Nat → Int) (afbba : Nat → Int) (bn : Nat) (bfa : Nat → Int) (bfba : Nat → Int) (bfbba : Nat → Int) (res : AV)
    (h : (((↑an : Int) != (↑bn : Int)) = true → Sub (AV.sc (Value.bool false)) res) ∧
  (((↑an : Int) != (↑bn : Int)) = false → L25_0 an afa afba afbba bn bfa bfba bfbba (0 : Int) res)) :
    L25_e an afa afba afbba bn bfa bfba bfbba res :=
  rule Go.Am.Seat.tabOk 25 [] Go.Proofs.Try.f25 hf25 [] (s25_e an afa afba afbba bn bfa bfba bfbba) (m25_e an afa afba afbba bn bfa bfba bfbba) res [] 400
    ((Orc.fin (AV.sc (Value.bool false)) [] []).br
  (Orc.cut (nat_lit 6) (s25_0 an afa afba afbba bn bfa bfba bfbba (0 : Int)) (m25_0 an afa afba afbba bn bfa bfba bfbba (0 : Int)) [])) _ _ (by kernel_rfl) (by kernel_rfl) (show True ∧
  True ∧
    True ∧
    True ∧
    True ∧
    True ∧
    (((↑an : Int) != (↑bn : Int)) = true →
    True ∧
    True ∧
    ((True ∧ Sub (AV.sc (Value.bool false)) (AV.sc (Value.bool false)) ∧ True) ∧ True) ∧ Sub (AV.sc (Value.bool false)) res ∧ SubOut [] []) ∧
    (((↑an : Int) != (↑bn : Int)) = false →
    True ∧
    ((True ∧
    Sub
    (AV.vec true (3 : Nat) an an fun (i0 : Nat) =>
    AV.cons (1 : Nat) (AV.sc (Value.int IntKind.i64 (afa i0)))
    (AV.cons (1 : Nat) (AV.sc (Value.int IntKind.i64 (afba i0)))
    (AV.cons (1 : Nat) (AV.sc (Value.int IntKind.i64 (afbba i0))) AV.nil)))
    (AV.vec true (3 : Nat) an an fun (i0 : Nat) =>
    AV.cons (1 : Nat) (AV.sc (Value.int IntKind.i64 (afa i0)))
    (AV.cons (1 : Nat) (AV.sc (Value.int IntKind.i64 (afba i0)))
    (AV.cons (1 : Nat) (AV.sc (Value.int IntKind.i64 (afbba i0))) AV.nil))) ∧
    True ∧
    Sub
    (AV.vec true (3 : Nat) bn bn fun (i0 : Nat) =>
    AV.cons (1 : Nat) (AV.sc (Value.int IntKind.i64 (bfa i0)))
    (AV.cons (1 : Nat) (AV.sc (Value.int IntKind.i64 (bfba i0)))
    (AV.cons (1 : Nat) (AV.sc (Value.int IntKind.i64 (bfbba i0))) AV.nil)))
    (AV.vec true (3 : Nat) bn bn fun (i0 : Nat) =>
    AV.cons (1 : Nat) (AV.sc (Value.int IntKind.i64 (bfa i0)))
    (AV.cons (1 : Nat) (AV.sc (Value.int IntKind.i64 (bfba i0)))
    (AV.cons (1 : Nat) (AV.sc (Value.int IntKind.i64 (bfbba i0))) AV.nil))) ∧
    True ∧ Sub (AV.sc (Value.int IntKind.i64 (0 : Int))) (AV.sc (Value.int IntKind.i64 (0 : Int))) ∧ True) ∧
    True) ∧
    L25_0 an afa afba afbba bn bfa bfba bfbba (0 : Int) res) from
    ⟨trivial, ⟨trivial, ⟨trivial, ⟨trivial, ⟨trivial, ⟨trivial, (And.elim (fun h6 k6 => ⟨(fun x7 => (fun h7 => ⟨trivial, ⟨trivial, ⟨⟨⟨trivial, ⟨Sub.refl _, trivial⟩⟩, trivial⟩, ((fun h11 => ⟨h11, trivial⟩) h7)⟩⟩⟩) (h6 x7)), (fun x7 => (fun h7 => ⟨trivial, ⟨⟨⟨trivial, ⟨Sub.refl _, ⟨trivial, ⟨Sub.refl _, ⟨trivial, ⟨Sub.refl _, trivial⟩⟩⟩⟩⟩⟩, trivial⟩, h7⟩⟩) (k6 x7))⟩) h)⟩⟩⟩⟩⟩⟩)
theorem r25_0 (an : Nat) (afa : Nat → Int) (afba : Nat → Int) (afbba : Nat → Int) (bn : Nat) (bfa : Nat → Int) (bfba : Nat → Int) (bfbba : Nat → Int) (i : Int) (res : AV)
    (h : (decide (i < (↑an : Int)) = true →
    ((0 : Int) ≤ i ∧ i < (↑an : Int)) ∧
    ((0 : Int) ≤ i ∧ i < (↑bn : Int)) ∧
    ((!cdec (afa i.toNat = bfa i.toNat ∧ afba i.toNat = bfba i.toNat ∧ afbba i.toNat = bfbba i.toNat ∧ True)) = true → Sub (AV.sc (Value.bool false)) res) ∧
    ((!cdec (afa i.toNat = bfa i.toNat ∧ afba i.toNat = bfba i.toNat ∧ afbba i.toNat = bfbba i.toNat ∧ True)) = false →
    L25_0 an afa afba afbba bn bfa bfba bfbba (IntKind.i64.wrap (i + (1 : Int))) res)) ∧
  (decide (i < (↑an : Int)) = false → Sub (AV.sc (Value.bool true)) res)) :
    L25_0 an afa afba afbba bn bfa bfba bfbba i res :=
  rule Go.Am.Seat.tabOk 25 [] Go.Proofs.Try.f25 hf25 [1, 1, 0, 1, 0, 0] (s25_0 an afa afba afbba bn bfa bfba bfbba i) (m25_0 an afa afba afbba bn bfa bfba bfbba i) res [] 400
    (((Orc.fin (AV.sc (Value.bool false)) [] []).br
    (Orc.cut (nat_lit 4) (s25_0 an afa afba afbba bn bfa bfba bfbba (IntKind.i64.wrap (i + (1 : Int))))
    (m25_0 an afa afba afbba bn bfa bfba bfbba (IntKind.i64.wrap (i + (1 : Int)))) [])).br
  (Orc.fin (AV.sc (Value.bool true)) [] [])) _ _ (by kernel_rfl) (by kernel_rfl) (show True ∧
  True ∧
    True ∧
    True ∧
    (decide (i < (↑an : Int)) = true →
    True ∧
    True ∧
    ((0 : Int) ≤ i ∧ i < (↑an : Int)) ∧
    True ∧
    True ∧
    True ∧
    ((0 : Int) ≤ i ∧ i < (↑bn : Int)) ∧
    True ∧
    ((True ∧ True) ∧ True ∧ (True ∧ True) ∧ True ∧ (True ∧ True) ∧ True ∧ True) ∧
    ((!cdec (afa i.toNat = bfa i.toNat ∧ afba i.toNat = bfba i.toNat ∧ afbba i.toNat = bfbba i.toNat ∧ True)) = true →
    True ∧
    True ∧
    ((True ∧ Sub (AV.sc (Value.bool false)) (AV.sc (Value.bool false)) ∧ True) ∧ True) ∧
    Sub (AV.sc (Value.bool false)) res ∧ SubOut [] []) ∧
    ((!cdec (afa i.toNat = bfa i.toNat ∧ afba i.toNat = bfba i.toNat ∧ afbba i.toNat = bfbba i.toNat ∧ True)) = false →
    True ∧
    True ∧
    True ∧
    ((True ∧
    Sub
    (AV.vec true (3 : Nat) an an fun (i0 : Nat) =>
    AV.cons (1 : Nat) (AV.sc (Value.int IntKind.i64 (afa i0)))
    (AV.cons (1 : Nat) (AV.sc (Value.int IntKind.i64 (afba i0)))
    (AV.cons (1 : Nat) (AV.sc (Value.int IntKind.i64 (afbba i0))) AV.nil)))
    (AV.vec true (3 : Nat) an an fun (i0 : Nat) =>
    AV.cons (1 : Nat) (AV.sc (Value.int IntKind.i64 (afa i0)))
    (AV.cons (1 : Nat) (AV.sc (Value.int IntKind.i64 (afba i0)))
    (AV.cons (1 : Nat) (AV.sc (Value.int IntKind.i64 (afbba i0))) AV.nil))) ∧
    True ∧
    Sub
    (AV.vec true (3 : Nat) bn bn fun (i0 : Nat) =>
    AV.cons (1 : Nat) (AV.sc (Value.int IntKind.i64 (bfa i0)))
    (AV.cons (1 : Nat) (AV.sc (Value.int IntKind.i64 (bfba i0)))
    (AV.cons (1 : Nat) (AV.sc (Value.int IntKind.i64 (bfbba i0))) AV.nil)))
    (AV.vec true (3 : Nat) bn bn fun (i0 : Nat) =>
    AV.cons (1 : Nat) (AV.sc (Value.int IntKind.i64 (bfa i0)))
    (AV.cons (1 : Nat) (AV.sc (Value.int IntKind.i64 (bfba i0)))
    (AV.cons (1 : Nat) (AV.sc (Value.int IntKind.i64 (bfbba i0))) AV.nil))) ∧
    True ∧
    Sub (AV.sc (Value.int IntKind.i64 (IntKind.i64.wrap (i + (1 : Int)))))
    (AV.sc (Value.int IntKind.i64 (IntKind.i64.wrap (i + (1 : Int))))) ∧
    True) ∧
    True) ∧
    L25_0 an afa afba afbba bn bfa bfba bfbba (IntKind.i64.wrap (i + (1 : Int))) res)) ∧
    (decide (i < (↑an : Int)) = false →
    True ∧ True ∧ ((True ∧ Sub (AV.sc (Value.bool true)) (AV.sc (Value.bool true)) ∧ True) ∧ True) ∧ Sub (AV.sc (Value.bool true)) res ∧ SubOut [] []) from
    ⟨trivial, ⟨trivial, ⟨trivial, ⟨trivial, (And.elim (fun h4 k4 => ⟨(fun x5 => (fun h5 => ⟨trivial, ⟨trivial, (And.elim (fun h8 k8 => ⟨(And.elim (fun h9 k9 => ⟨h9, k9⟩) h8), ⟨trivial, ⟨trivial, ⟨trivial, (And.elim (fun h12 k12 => ⟨(And.elim (fun h13 k13 => ⟨h13, k13⟩) h12), ⟨trivial, ⟨⟨⟨trivial, trivial⟩, ⟨trivial, ⟨⟨trivial, trivial⟩, ⟨trivial, ⟨⟨trivial, trivial⟩, ⟨trivial, trivial⟩⟩⟩⟩⟩⟩, (And.elim (fun h15 k15 => ⟨(fun x16 => (fun h16 => ⟨trivial, ⟨trivial, ⟨⟨⟨trivial, ⟨Sub.refl _, trivial⟩⟩, trivial⟩, ((fun h20 => ⟨h20, trivial⟩) h16)⟩⟩⟩) (h15 x16)), (fun x16 => (fun h16 => ⟨trivial, ⟨trivial, ⟨trivial, ⟨⟨⟨trivial, ⟨Sub.refl _, ⟨trivial, ⟨Sub.refl _, ⟨trivial, ⟨Sub.refl _, trivial⟩⟩⟩⟩⟩⟩, trivial⟩, h16⟩⟩⟩⟩) (k15 x16))⟩) k12)⟩⟩⟩) k8)⟩⟩⟩⟩) h5)⟩⟩) (h4 x5)), (fun x5 => (fun h5 => ⟨trivial, ⟨trivial, ⟨⟨⟨trivial, ⟨Sub.refl _, trivial⟩⟩, trivial⟩, ((fun h9 => ⟨h9, trivial⟩) h5)⟩⟩⟩) (k4 x5))⟩) h)⟩⟩⟩⟩)
end Go.Am.Seat
