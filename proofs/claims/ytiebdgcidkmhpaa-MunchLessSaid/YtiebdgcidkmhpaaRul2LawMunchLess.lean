/- The rules of 3 functions: from what is owed at each place of a function the function goes on as it is told there. Printed by a program of this seat; Lean checks each. -/
import Derived.Test.YtiebdgcidkmhpaaAmLawMunchLess3
import Derived.Test.YtiebdgcidkmhpaaTab
open Go Go.Am Go.Am.Seat
namespace Go.Am.Seat
set_option linter.unusedVariables false
set_option maxRecDepth 100000
theorem hf82 : Go.Proofs.Try.prog.funcs[82]? = some Go.Proofs.Try.f82 := by kernel_rfl
abbrev s82_e (a : Nat) (b : Nat → Int) : List (Nat × AV) := [(0, (.vec true 1 a a (fun i0 => (.sc (.int .i64 (b i0)))))), (1, (.sc (.func (.func 83) #[] #[])))]
abbrev m82_e (b : Nat) (a : Nat → Int) : List (Nat × Nat × AV) := []
def L82_e (c : Nat) (b : Nat → Int) (a : AV) : Prop := Goes ⟨Go.Proofs.Try.prog, 82, [], a, []⟩ (place Go.Proofs.Try.f82 []) (s82_e c b) (m82_e c b)
theorem o82 (b : Nat) (c : Nat → Int) (a : AV) (d : newOnly a) (h : L82_e b c a) : Ok Go.Proofs.Try.prog 82 [(.vec true 1 b b (fun i0 => (.sc (.int .i64 (c i0))))), (.sc (.func (.func 83) #[] #[]))] [] a [] :=
 okRule2 82 Go.Proofs.Try.f82 hf82 [(.vec true 1 b b (fun i0 => (.sc (.int .i64 (c i0))))), (.sc (.func (.func 83) #[] #[]))] [] a [] [] rfl (by kernel_rfl) (by kernel_rfl) (by kernel_rfl) ⟨d, by simp⟩ (L82_e b c a) (by kernel_rfl) h
theorem r82_e (a : Nat) (c : Nat → Int) (b : AV)
 (h : ∃ (r : Int),
 Ok Proofs.Try.prog (98 : Nat)
 [.vec true 1 a a fun (i : Nat) => .sc (.int .i64 (c i)), .sc (.func (Fn.func (83 : FuncId)) #[] #[])] []
 (.sc (.int .i64 r)) [] ∧
 Sub (.sc (.bool (decide (r ≥ (0 : Int))))) b) :
 L82_e a c b :=
 rule Go.Am.Seat.tabOk 82 [] Go.Proofs.Try.f82 hf82 [] (s82_e a c) (m82_e a c) b [] 400
 (Orc.call [] [] (fun (r98 : Int) => .sc (.int .i64 r98)) (fun (r98 : Int) => []) fun (r98 : Int) =>
 Orc.fin (.sc (.bool (decide (r98 ≥ (0 : Int))))) [] []) _ _ (by kernel_rfl) (by kernel_rfl) (show True ∧
 True ∧
 True ∧
 ∃ (r : Int),
 ((True ∧ True ∧ True) ∧
 True ∧
 Ok Proofs.Try.prog (98 : Nat)
 [.vec true 1 a a fun (i : Nat) => .sc (.int .i64 (c i)), .sc (.func (Fn.func (83 : FuncId)) #[] #[])] []
 (.sc (.int .i64 r)) []) ∧
 True ∧
 True ∧
 True ∧
 ((True ∧ SubS (.sc (.bool (decide (r ≥ (0 : Int))))) ∧ True) ∧ True) ∧
 Sub (.sc (.bool (decide (r ≥ (0 : Int))))) b ∧ SubOut [] [] from
 ⟨trivial, ⟨trivial, ⟨trivial, (Exists.elim h fun x3 h3 => ⟨x3, (And.elim (fun h4 k4 => ⟨⟨⟨trivial, ⟨trivial, trivial⟩⟩, ⟨trivial, h4⟩⟩, ⟨trivial, ⟨trivial, ⟨trivial, ⟨⟨⟨trivial, ⟨Sub.refl _, trivial⟩⟩, trivial⟩, ((fun h9 => ⟨h9, trivial⟩) k4)⟩⟩⟩⟩⟩) h3)⟩)⟩⟩⟩)
theorem hf83 : Go.Proofs.Try.prog.funcs[83]? = some Go.Proofs.Try.f83 := by kernel_rfl
abbrev s83_e (t : Int) : List (Nat × AV) := [(0, (.sc (.int .i64 t)))]
abbrev m83_e (t : Int) : List (Nat × Nat × AV) := []
def L83_e (t : Int) (a : AV) : Prop := Goes ⟨Go.Proofs.Try.prog, 83, [], a, []⟩ (place Go.Proofs.Try.f83 []) (s83_e t) (m83_e t)
theorem o83 (t : Int) (a : AV) (b : newOnly a) (h : L83_e t a) : Ok Go.Proofs.Try.prog 83 [(.sc (.int .i64 t))] [] a [] :=
 okRule2 83 Go.Proofs.Try.f83 hf83 [(.sc (.int .i64 t))] [] a [] [] rfl (by kernel_rfl) (by kernel_rfl) (by kernel_rfl) ⟨b, by simp⟩ (L83_e t a) (by kernel_rfl) h
theorem r83_e (t : Int) (a : AV)
 (h : Sub (.sc (.bool (decide (t ≥ (0 : Int))))) a) :
 L83_e t a :=
 rule Go.Am.Seat.tabOk 83 [] Go.Proofs.Try.f83 hf83 [] (s83_e t) (m83_e t) a [] 400
 (Orc.fin (.sc (.bool (decide (t ≥ (0 : Int))))) [] []) _ _ (by kernel_rfl) (by kernel_rfl) (show True ∧
 True ∧
 True ∧
 True ∧
 True ∧
 ((True ∧ SubS (.sc (.bool (decide (t ≥ (0 : Int))))) ∧ True) ∧ True) ∧
 Sub (.sc (.bool (decide (t ≥ (0 : Int))))) a ∧ SubOut [] [] from
 ⟨trivial, ⟨trivial, ⟨trivial, ⟨trivial, ⟨trivial, ⟨⟨⟨trivial, ⟨Sub.refl _, trivial⟩⟩, trivial⟩, ((fun h6 => ⟨h6, trivial⟩) h)⟩⟩⟩⟩⟩⟩)
theorem hf98 : Go.Proofs.Try.prog.funcs[98]? = some Go.Proofs.Try.f98 := by kernel_rfl
abbrev s98_e (a : Nat) (b : Nat → Int) : List (Nat × AV) := [(0, (.vec true 1 a a (fun i0 => (.sc (.int .i64 (b i0)))))), (1, (.sc (.func (.func 83) #[] #[])))]
abbrev m98_e (b : Nat) (a : Nat → Int) : List (Nat × Nat × AV) := []
def L98_e (c : Nat) (b : Nat → Int) (a : AV) : Prop := Goes ⟨Go.Proofs.Try.prog, 98, [], a, []⟩ (place Go.Proofs.Try.f98 []) (s98_e c b) (m98_e c b)
theorem a98_e (c : Nat) (b : Nat → Int) (a : AV) (h : (∀ slot, fact (look .undef (s98_e c b) slot)) → L98_e c b a) : L98_e c b a :=
 assumeRule 98 [] Go.Proofs.Try.f98 hf98 [] (s98_e c b) (m98_e c b) a [] _ (by kernel_rfl) h
abbrev s98_0 (a : Nat) (b : Nat → Int) (c d : Int) : List (Nat × AV) := [(0, (.vec true 1 a a (fun i0 => (.sc (.int .i64 (b i0)))))), (1, (.sc (.func (.func 83) #[] #[]))), (7, (.sc (.int .i64 c))), (8, (.sc (.int .i64 d)))]
abbrev m98_0 (b : Nat) (a : Nat → Int) (c d : Int) : List (Nat × Nat × AV) := []
def L98_0 (c : Nat) (b : Nat → Int) (d e : Int) (a : AV) : Prop := Goes ⟨Go.Proofs.Try.prog, 98, [], a, []⟩ (place Go.Proofs.Try.f98 [1, 0, 1, 0, 0]) (s98_0 c b d e) (m98_0 c b d e)
theorem o98 (b : Nat) (c : Nat → Int) (a : AV) (d : newOnly a) (h : L98_e b c a) : Ok Go.Proofs.Try.prog 98 [(.vec true 1 b b (fun i0 => (.sc (.int .i64 (c i0))))), (.sc (.func (.func 83) #[] #[]))] [] a [] :=
 okRule2 98 Go.Proofs.Try.f98 hf98 [(.vec true 1 b b (fun i0 => (.sc (.int .i64 (c i0))))), (.sc (.func (.func 83) #[] #[]))] [] a [] [] rfl (by kernel_rfl) (by kernel_rfl) (by kernel_rfl) ⟨d, by simp⟩ (L98_e b c a) (by kernel_rfl) h
theorem r98_e (a : Nat) (b : Nat → Int) (c : AV)
 (h : L98_0 a b (↑a : Int) (0 : Int) c) :
 L98_e a b c :=
 rule Go.Am.Seat.tabOk 98 [] Go.Proofs.Try.f98 hf98 [] (s98_e a b) (m98_e a b) c [] 400
 (Orc.cut (nat_lit 7) (s98_0 a b (↑a : Int) (0 : Int)) (m98_0 a b (↑a : Int) (0 : Int)) []) _ _ (by kernel_rfl) (by kernel_rfl) (show True ∧
 True ∧
 True ∧
 True ∧
 ((True ∧
 SubS (.vec true 1 a a fun (i0 : Nat) => .sc (.int .i64 (b i0))) ∧
 True ∧
 SubS (.sc (.func (Fn.func (83 : FuncId)) #[] #[])) ∧
 True ∧
 SubS (.sc (.int .i64 (↑a : Int))) ∧
 True ∧ SubS (.sc (.int .i64 (0 : Int))) ∧ True) ∧
 True) ∧
 L98_0 a b (↑a : Int) (0 : Int) c from
 ⟨trivial, ⟨trivial, ⟨trivial, ⟨trivial, ⟨⟨⟨trivial, ⟨Sub.refl _, ⟨trivial, ⟨Sub.refl _, ⟨trivial, ⟨Sub.refl _, ⟨trivial, ⟨Sub.refl _, trivial⟩⟩⟩⟩⟩⟩⟩⟩, trivial⟩, h⟩⟩⟩⟩⟩)
theorem r98_0 (b : Nat) (e : Nat → Int) (c a : Int) (d : AV)
 (h : (decide (a < c) = true →
 ((0 : Int) ≤ a ∧ a < (↑b : Int)) ∧
 ∃ (r : Bool),
 Ok Proofs.Try.prog (83 : Nat) [.sc (.int .i64 (e a.toNat))] [] (.sc (.bool r)) [] ∧
 (r = true → Sub (.sc (.int .i64 a)) d) ∧ (r = false → L98_0 b e c (IntKind.i64.wrap (a + (1 : Int))) d)) ∧
 (decide (a < c) = false → Sub (.sc (.int .i64 (-1 : Int))) d)) :
 L98_0 b e c a d :=
 rule Go.Am.Seat.tabOk 98 [] Go.Proofs.Try.f98 hf98 [1, 0, 1, 0, 0] (s98_0 b e c a) (m98_0 b e c a) d [] 400
 ((Orc.call [] [] (fun (r83 : Bool) => .sc (.bool r83)) (fun (r83 : Bool) => []) fun (r83 : Bool) =>
 (Orc.fin (.sc (.int .i64 a)) [] []).br
 (Orc.cut (nat_lit 4) (s98_0 b e c (IntKind.i64.wrap (a + (1 : Int)))) (m98_0 b e c (IntKind.i64.wrap (a + (1 : Int)))) [])).br
 (Orc.fin (.sc (.int .i64 (-1 : Int))) [] [])) _ _ (by kernel_rfl) (by kernel_rfl) (show True ∧
 (decide (a < c) = true →
 True ∧
 True ∧
 True ∧
 True ∧
 True ∧
 ((0 : Int) ≤ a ∧ a < (↑b : Int)) ∧
 True ∧
 ∃ (r : Bool),
 ((True ∧ True) ∧ True ∧ Ok Proofs.Try.prog (83 : Nat) [.sc (.int .i64 (e a.toNat))] [] (.sc (.bool r)) []) ∧
 (r = true →
 True ∧
 True ∧
 True ∧
 ((True ∧ SubS (.sc (.int .i64 a)) ∧ True) ∧ True) ∧
 Sub (.sc (.int .i64 a)) d ∧ SubOut [] []) ∧
 (r = false →
 True ∧
 True ∧
 ((True ∧
 SubS (.vec true 1 b b fun (i0 : Nat) => .sc (.int .i64 (e i0))) ∧
 True ∧
 SubS (.sc (.func (Fn.func (83 : FuncId)) #[] #[])) ∧
 True ∧
 SubS (.sc (.int .i64 c)) ∧
 True ∧
 SubS (.sc (.int .i64 (IntKind.i64.wrap (a + (1 : Int))))) ∧
 True) ∧
 True) ∧
 L98_0 b e c (IntKind.i64.wrap (a + (1 : Int))) d)) ∧
 (decide (a < c) = false →
 True ∧
 True ∧
 ((True ∧ SubS (.sc (.int .i64 (-1 : Int))) ∧ True) ∧ True) ∧
 Sub (.sc (.int .i64 (-1 : Int))) d ∧ SubOut [] []) from
 ⟨trivial, (And.elim (fun h1 k1 => ⟨(fun x2 => (fun h2 => ⟨trivial, ⟨trivial, ⟨trivial, ⟨trivial, ⟨trivial, (And.elim (fun h8 k8 => ⟨(And.elim (fun h9 k9 => ⟨h9, k9⟩) h8), ⟨trivial, (Exists.elim k8 fun x10 h10 => ⟨x10, (And.elim (fun h11 k11 => ⟨⟨⟨trivial, trivial⟩, ⟨trivial, h11⟩⟩, (And.elim (fun h12 k12 => ⟨(fun x13 => (fun h13 => ⟨trivial, ⟨trivial, ⟨trivial, ⟨⟨⟨trivial, ⟨Sub.refl _, trivial⟩⟩, trivial⟩, ((fun h18 => ⟨h18, trivial⟩) h13)⟩⟩⟩⟩) (h12 x13)), (fun x13 => (fun h13 => ⟨trivial, ⟨trivial, ⟨⟨⟨trivial, ⟨Sub.refl _, ⟨trivial, ⟨Sub.refl _, ⟨trivial, ⟨Sub.refl _, ⟨trivial, ⟨Sub.refl _, trivial⟩⟩⟩⟩⟩⟩⟩⟩, trivial⟩, h13⟩⟩⟩) (k12 x13))⟩) k11)⟩) h10)⟩)⟩⟩) h2)⟩⟩⟩⟩⟩) (h1 x2)), (fun x2 => (fun h2 => ⟨trivial, ⟨trivial, ⟨⟨⟨trivial, ⟨Sub.refl _, trivial⟩⟩, trivial⟩, ((fun h6 => ⟨h6, trivial⟩) h2)⟩⟩⟩) (k1 x2))⟩) h)⟩)
end Go.Am.Seat
