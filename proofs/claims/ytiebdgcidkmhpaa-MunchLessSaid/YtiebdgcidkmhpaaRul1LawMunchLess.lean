/- The rules of 10 functions: from what is owed at each place of a function the function goes on as it is told there. Printed by a program of this seat; Lean checks each. -/
import Derived.Test.YtiebdgcidkmhpaaAmLawMunchLess3
import Derived.Test.YtiebdgcidkmhpaaTab
open Go Go.Am Go.Am.Seat
namespace Go.Am.Seat
set_option linter.unusedVariables false
set_option maxRecDepth 100000
theorem hf43 : Go.Proofs.Try.prog.funcs[43]? = some Go.Proofs.Try.f43 := by kernel_rfl
abbrev s43_e (g : Nat) (i h : Nat → Int) (c : Nat) (a : Nat → Nat) (d : Nat → Nat → Int) (b : Nat) (e : Nat → Int) (f : Int) : List (Nat × AV) := [(0, (.ip true (.cons 1 (.vec true 1 g g (fun i0 => (.sc (.int .u8 (i i0))))) (.cons 256 (.ar 256 1 (fun i0 => (.sc (.int .i64 (h i0))))) (.cons 1 (.vec true 1 c c (fun i0 => (.vec true 1 (a i0) (a i0) (fun i1 => (.sc (.int .i64 (d i0 i1))))))) (.cons 1 (.vec true 1 b b (fun i0 => (.sc (.int .i64 (e i0))))) (.cons 1 (.sc (.int .i64 f)) .nil)))))))]
abbrev m43_e (i : Nat) (h g : Nat → Int) (f : Nat) (b : Nat → Nat) (a : Nat → Nat → Int) (d : Nat) (c : Nat → Int) (e : Int) : List (Nat × Nat × AV) := []
def L43_e (i : Nat) (h g : Nat → Int) (f : Nat) (b : Nat → Nat) (a : Nat → Nat → Int) (d : Nat) (c : Nat → Int) (e : Int) (j : AV) : Prop := Goes ⟨Go.Proofs.Try.prog, 43, [], j, []⟩ (place Go.Proofs.Try.f43 []) (s43_e i h g f b a d c e) (m43_e i h g f b a d c e)
abbrev s43_0 (h : Nat) (k i : Nat → Int) (c : Nat) (a : Nat → Nat) (d : Nat → Nat → Int) (b : Nat) (e : Nat → Int) (f : Int) (j : Nat) (g : Int) (m : Nat) (l : Nat → Int) : List (Nat × AV) := [(0, (.ip true (.cons 1 (.vec true 1 h h (fun i0 => (.sc (.int .u8 (k i0))))) (.cons 256 (.ar 256 1 (fun i0 => (.sc (.int .i64 (i i0))))) (.cons 1 (.vec true 1 c c (fun i0 => (.vec true 1 (a i0) (a i0) (fun i1 => (.sc (.int .i64 (d i0 i1))))))) (.cons 1 (.vec true 1 b b (fun i0 => (.sc (.int .i64 (e i0))))) (.cons 1 (.sc (.int .i64 f)) .nil))))))), (3, (.rf 1000 1 0 j)), (4, (.sc (.int .i64 g)))]
abbrev m43_0 (m : Nat) (l j : Nat → Int) (i : Nat) (d : Nat → Nat) (c : Nat → Nat → Int) (f : Nat) (e : Nat → Int) (g : Int) (k : Nat) (h : Int) (b : Nat) (a : Nat → Int) : List (Nat × Nat × AV) := [(1000, 3, (.ar b 1 (fun i0 => (.sc (.int .i64 (a i0))))))]
def L43_0 (m : Nat) (l h : Nat → Int) (g : Nat) (b : Nat → Nat) (a : Nat → Nat → Int) (d : Nat) (c : Nat → Int) (e : Int) (k : Nat) (f : Int) (j : Nat) (i : Nat → Int) (n : AV) : Prop := Goes ⟨Go.Proofs.Try.prog, 43, [], n, []⟩ (place Go.Proofs.Try.f43 [1, 1, 1, 0, 0]) (s43_0 m l h g b a d c e k f j i) (m43_0 m l h g b a d c e k f j i)
abbrev s43_1 (l : Nat) (q m : Nat → Int) (d : Nat) (a : Nat → Nat) (f : Nat → Nat → Int) (b : Nat) (g : Nat → Int) (h : Int) (n : Nat) (i : Int) (j e : Nat) (c : Nat → Nat) (k : Nat → Nat → Int) (o p : Int) (s : Nat) (r : Nat → Int) (v t : Nat) (u : MapF) (x : Nat) (w : Nat → Int) : List (Nat × AV) := [(0, (.ip true (.cons 1 (.vec true 1 l l (fun i0 => (.sc (.int .u8 (q i0))))) (.cons 256 (.ar 256 1 (fun i0 => (.sc (.int .i64 (m i0))))) (.cons 1 (.vec true 1 d d (fun i0 => (.vec true 1 (a i0) (a i0) (fun i1 => (.sc (.int .i64 (f i0 i1))))))) (.cons 1 (.vec true 1 b b (fun i0 => (.sc (.int .i64 (g i0))))) (.cons 1 (.sc (.int .i64 h)) .nil))))))), (3, (.rf 1000 1 0 n)), (4, (.sc (.int .i64 i))), (5, (.mp 1001)), (6, (.rf 1002 1 0 j)), (28, (.vec true 1 e e (fun i0 => (.vec true 1 (c i0) (c i0) (fun i1 => (.sc (.int .i64 (k i0 i1)))))))), (29, (.sc (.int .i64 o))), (30, (.sc (.int .i64 p)))]
abbrev m43_1 (x : Nat) (w s : Nat → Int) (q : Nat) (i : Nat → Nat) (h : Nat → Nat → Int) (k : Nat) (j : Nat → Int) (l : Int) (t : Nat) (m : Int) (n r : Nat) (p : Nat → Nat) (o : Nat → Nat → Int) (u v : Int) (b : Nat) (a : Nat → Int) (e c : Nat) (d : MapF) (g : Nat) (f : Nat → Int) : List (Nat × Nat × AV) := [(1000, 3, (.ar b 1 (fun i0 => (.sc (.int .i64 (a i0)))))), (1001, 145, (.mc 0 e c d)), (1002, 3, (.ar g 1 (fun i0 => (.sc (.int .i64 (f i0))))))]
def L43_1 (x : Nat) (w l : Nat → Int) (j : Nat) (b : Nat → Nat) (a : Nat → Nat → Int) (d : Nat) (c : Nat → Int) (e : Int) (t : Nat) (f : Int) (g k : Nat) (i : Nat → Nat) (h : Nat → Nat → Int) (u v : Int) (n : Nat) (m : Nat → Int) (q o : Nat) (p : MapF) (s : Nat) (r : Nat → Int) (y : AV) : Prop := Goes ⟨Go.Proofs.Try.prog, 43, [], y, []⟩ (place Go.Proofs.Try.f43 [1, 1, 1, 0, 0, 0, 1, 1, 0, 1, 0, 0]) (s43_1 x w l j b a d c e t f g k i h u v n m q o p s r) (m43_1 x w l j b a d c e t f g k i h u v n m q o p s r)
abbrev s43_2 (m : Nat) (v o : Nat → Int) (d : Nat) (a : Nat → Nat) (g : Nat → Nat → Int) (b : Nat) (h : Nat → Int) (i : Int) (p : Nat) (j : Int) (k : Nat) (s : Int) (w e : Nat) (c : Nat → Nat) (l : Nat → Nat → Int) (q r : Int) (f : Nat) (n : Nat → Int) (t u : Int) (y : Nat) (x : Nat → Int) (B z : Nat) (A : MapF) (D : Nat) (C : Nat → Int) (F : Nat) (E : Nat → Int) : List (Nat × AV) := [(0, (.ip true (.cons 1 (.vec true 1 m m (fun i0 => (.sc (.int .u8 (v i0))))) (.cons 256 (.ar 256 1 (fun i0 => (.sc (.int .i64 (o i0))))) (.cons 1 (.vec true 1 d d (fun i0 => (.vec true 1 (a i0) (a i0) (fun i1 => (.sc (.int .i64 (g i0 i1))))))) (.cons 1 (.vec true 1 b b (fun i0 => (.sc (.int .i64 (h i0))))) (.cons 1 (.sc (.int .i64 i)) .nil))))))), (3, (.rf 1000 1 0 p)), (4, (.sc (.int .i64 j))), (5, (.mp 1001)), (6, (.rf 1002 1 0 k)), (7, (.sc (.int .i64 s))), (9, (.rf 1003 1 0 w)), (28, (.vec true 1 e e (fun i0 => (.vec true 1 (c i0) (c i0) (fun i1 => (.sc (.int .i64 (l i0 i1)))))))), (29, (.sc (.int .i64 q))), (30, (.sc (.int .i64 r))), (48, (.vec true 1 f f (fun i0 => (.sc (.int .i64 (n i0)))))), (49, (.sc (.int .i64 t))), (50, (.sc (.int .i64 u)))]
abbrev m43_2 (E : Nat) (D x : Nat → Int) (t : Nat) (k : Nat → Nat) (j : Nat → Nat → Int) (m : Nat) (l : Nat → Int) (n : Int) (y : Nat) (o : Int) (p : Nat) (s : Int) (F u : Nat) (r : Nat → Nat) (q : Nat → Nat → Int) (z A : Int) (w : Nat) (v : Nat → Int) (B C : Int) (b : Nat) (a : Nat → Int) (e c : Nat) (d : MapF) (g : Nat) (f : Nat → Int) (i : Nat) (h : Nat → Int) : List (Nat × Nat × AV) := [(1000, 3, (.ar b 1 (fun i0 => (.sc (.int .i64 (a i0)))))), (1001, 145, (.mc 0 e c d)), (1002, 3, (.ar g 1 (fun i0 => (.sc (.int .i64 (f i0)))))), (1003, 5, (.ar i 1 (fun i0 => (.sc (.int .u8 (h i0))))))]
def L43_2 (E : Nat) (D n : Nat → Int) (j : Nat) (b : Nat → Nat) (a : Nat → Nat → Int) (d : Nat) (c : Nat → Int) (e : Int) (y : Nat) (f : Int) (g : Nat) (s : Int) (F k : Nat) (i : Nat → Nat) (h : Nat → Nat → Int) (z A : Int) (m : Nat) (l : Nat → Int) (B C : Int) (p : Nat) (o : Nat → Int) (t q : Nat) (r : MapF) (v : Nat) (u : Nat → Int) (x : Nat) (w : Nat → Int) (G : AV) : Prop := Goes ⟨Go.Proofs.Try.prog, 43, [], G, []⟩ (place Go.Proofs.Try.f43 [1, 1, 1, 0, 0, 0, 1, 1, 0, 1, 0, 0, 1, 1, 0, 0, 1, 1, 0, 1, 0, 0]) (s43_2 E D n j b a d c e y f g s F k i h z A m l B C p o t q r v u x w) (m43_2 E D n j b a d c e y f g s F k i h z A m l B C p o t q r v u x w)
abbrev s43_3 (n : Nat) (w p : Nat → Int) (e : Nat) (a : Nat → Nat) (h : Nat → Nat → Int) (c : Nat) (i : Nat → Int) (j : Int) (q : Nat) (k : Int) (l : Nat) (s : Int) (x : Nat) (b : Int) (f : Nat) (d : Nat → Nat) (m : Nat → Nat → Int) (r t : Int) (g : Nat) (o : Nat → Int) (u v : Int) (z : Nat) (y : Nat → Int) (C A : Nat) (B : MapF) (E : Nat) (D : Nat → Int) (G : Nat) (F : Nat → Int) : List (Nat × AV) := [(0, (.ip true (.cons 1 (.vec true 1 n n (fun i0 => (.sc (.int .u8 (w i0))))) (.cons 256 (.ar 256 1 (fun i0 => (.sc (.int .i64 (p i0))))) (.cons 1 (.vec true 1 e e (fun i0 => (.vec true 1 (a i0) (a i0) (fun i1 => (.sc (.int .i64 (h i0 i1))))))) (.cons 1 (.vec true 1 c c (fun i0 => (.sc (.int .i64 (i i0))))) (.cons 1 (.sc (.int .i64 j)) .nil))))))), (3, (.rf 1000 1 0 q)), (4, (.sc (.int .i64 k))), (5, (.mp 1001)), (6, (.rf 1002 1 0 l)), (7, (.sc (.int .i64 s))), (9, (.rf 1003 1 0 x)), (12, (.sc (.int .i64 b))), (28, (.vec true 1 f f (fun i0 => (.vec true 1 (d i0) (d i0) (fun i1 => (.sc (.int .i64 (m i0 i1)))))))), (29, (.sc (.int .i64 r))), (30, (.sc (.int .i64 t))), (48, (.vec true 1 g g (fun i0 => (.sc (.int .i64 (o i0)))))), (49, (.sc (.int .i64 u))), (50, (.sc (.int .i64 v)))]
abbrev m43_3 (F : Nat) (E y : Nat → Int) (u : Nat) (l : Nat → Nat) (k : Nat → Nat → Int) (n : Nat) (m : Nat → Int) (o : Int) (z : Nat) (p : Int) (q : Nat) (s : Int) (G : Nat) (b : Int) (v : Nat) (t : Nat → Nat) (r : Nat → Nat → Int) (A B : Int) (x : Nat) (w : Nat → Int) (C D : Int) (c : Nat) (a : Nat → Int) (f d : Nat) (e : MapF) (h : Nat) (g : Nat → Int) (j : Nat) (i : Nat → Int) : List (Nat × Nat × AV) := [(1000, 3, (.ar c 1 (fun i0 => (.sc (.int .i64 (a i0)))))), (1001, 145, (.mc 0 f d e)), (1002, 3, (.ar h 1 (fun i0 => (.sc (.int .i64 (g i0)))))), (1003, 5, (.ar j 1 (fun i0 => (.sc (.int .u8 (i i0))))))]
def L43_3 (F : Nat) (E o : Nat → Int) (k : Nat) (c : Nat → Nat) (a : Nat → Nat → Int) (e : Nat) (d : Nat → Int) (f : Int) (z : Nat) (g : Int) (h : Nat) (s : Int) (G : Nat) (b : Int) (l : Nat) (j : Nat → Nat) (i : Nat → Nat → Int) (A B : Int) (n : Nat) (m : Nat → Int) (C D : Int) (q : Nat) (p : Nat → Int) (u r : Nat) (t : MapF) (w : Nat) (v : Nat → Int) (y : Nat) (x : Nat → Int) (H : AV) : Prop := Goes ⟨Go.Proofs.Try.prog, 43, [], H, []⟩ (place Go.Proofs.Try.f43 [1, 1, 1, 0, 0, 0, 1, 1, 0, 1, 0, 0, 1, 1, 0, 0, 1, 1, 0, 1, 0, 0, 1, 1, 0, 0, 1, 1, 1]) (s43_3 F E o k c a e d f z g h s G b l j i A B n m C D q p u r t w v y x) (m43_3 F E o k c a e d f z g h s G b l j i A B n m C D q p u r t w v y x)
abbrev s43_4 (m : Nat) (v o : Nat → Int) (d : Nat) (a : Nat → Nat) (g : Nat → Nat → Int) (b : Nat) (h : Nat → Int) (i : Int) (p : Nat) (j : Int) (k : Nat) (s : Int) (w e : Nat) (c : Nat → Nat) (l : Nat → Nat → Int) (q r : Int) (f : Nat) (n : Nat → Int) (t u : Int) (y : Nat) (x : Nat → Int) (B z : Nat) (A : MapF) (D : Nat) (C : Nat → Int) (F : Nat) (E : Nat → Int) : List (Nat × AV) := [(0, (.ip true (.cons 1 (.vec true 1 m m (fun i0 => (.sc (.int .u8 (v i0))))) (.cons 256 (.ar 256 1 (fun i0 => (.sc (.int .i64 (o i0))))) (.cons 1 (.vec true 1 d d (fun i0 => (.vec true 1 (a i0) (a i0) (fun i1 => (.sc (.int .i64 (g i0 i1))))))) (.cons 1 (.vec true 1 b b (fun i0 => (.sc (.int .i64 (h i0))))) (.cons 1 (.sc (.int .i64 i)) .nil))))))), (3, (.rf 1000 1 0 p)), (4, (.sc (.int .i64 j))), (5, (.mp 1001)), (6, (.rf 1002 1 0 k)), (7, (.sc (.int .i64 s))), (9, (.rf 1003 1 0 w)), (28, (.vec true 1 e e (fun i0 => (.vec true 1 (c i0) (c i0) (fun i1 => (.sc (.int .i64 (l i0 i1)))))))), (29, (.sc (.int .i64 q))), (30, (.sc (.int .i64 r))), (48, (.vec true 1 f f (fun i0 => (.sc (.int .i64 (n i0)))))), (49, (.sc (.int .i64 t))), (50, (.sc (.int .i64 u)))]
abbrev m43_4 (E : Nat) (D x : Nat → Int) (t : Nat) (k : Nat → Nat) (j : Nat → Nat → Int) (m : Nat) (l : Nat → Int) (n : Int) (y : Nat) (o : Int) (p : Nat) (s : Int) (F u : Nat) (r : Nat → Nat) (q : Nat → Nat → Int) (z A : Int) (w : Nat) (v : Nat → Int) (B C : Int) (b : Nat) (a : Nat → Int) (e c : Nat) (d : MapF) (g : Nat) (f : Nat → Int) (i : Nat) (h : Nat → Int) : List (Nat × Nat × AV) := [(1000, 3, (.ar b 1 (fun i0 => (.sc (.int .i64 (a i0)))))), (1001, 145, (.mc 0 e c d)), (1002, 3, (.ar g 1 (fun i0 => (.sc (.int .i64 (f i0)))))), (1003, 5, (.ar i 1 (fun i0 => (.sc (.int .u8 (h i0))))))]
def L43_4 (E : Nat) (D n : Nat → Int) (j : Nat) (b : Nat → Nat) (a : Nat → Nat → Int) (d : Nat) (c : Nat → Int) (e : Int) (y : Nat) (f : Int) (g : Nat) (s : Int) (F k : Nat) (i : Nat → Nat) (h : Nat → Nat → Int) (z A : Int) (m : Nat) (l : Nat → Int) (B C : Int) (p : Nat) (o : Nat → Int) (t q : Nat) (r : MapF) (v : Nat) (u : Nat → Int) (x : Nat) (w : Nat → Int) (G : AV) : Prop := Goes ⟨Go.Proofs.Try.prog, 43, [], G, []⟩ (place Go.Proofs.Try.f43 [1, 1, 1, 0, 0, 0, 1, 1, 0, 1, 0, 0, 1, 1, 0, 0, 1, 1, 0, 1, 0, 0, 1, 1, 1]) (s43_4 E D n j b a d c e y f g s F k i h z A m l B C p o t q r v u x w) (m43_4 E D n j b a d c e y f g s F k i h z A m l B C p o t q r v u x w)
abbrev s43_5 (l : Nat) (r m : Nat → Int) (d : Nat) (a : Nat → Nat) (f : Nat → Nat → Int) (b : Nat) (g : Nat → Int) (h : Int) (o : Nat) (i : Int) (j : Nat) (s n : Int) (e : Nat) (c : Nat → Nat) (k : Nat → Nat → Int) (p q : Int) (u : Nat) (t : Nat → Int) (x v : Nat) (w : MapF) (z : Nat) (y : Nat → Int) : List (Nat × AV) := [(0, (.ip true (.cons 1 (.vec true 1 l l (fun i0 => (.sc (.int .u8 (r i0))))) (.cons 256 (.ar 256 1 (fun i0 => (.sc (.int .i64 (m i0))))) (.cons 1 (.vec true 1 d d (fun i0 => (.vec true 1 (a i0) (a i0) (fun i1 => (.sc (.int .i64 (f i0 i1))))))) (.cons 1 (.vec true 1 b b (fun i0 => (.sc (.int .i64 (g i0))))) (.cons 1 (.sc (.int .i64 h)) .nil))))))), (3, (.rf 1000 1 0 o)), (4, (.sc (.int .i64 i))), (5, (.mp 1001)), (6, (.rf 1002 1 0 j)), (7, (.sc (.int .i64 s))), (13, (.sc (.int .i64 n))), (28, (.vec true 1 e e (fun i0 => (.vec true 1 (c i0) (c i0) (fun i1 => (.sc (.int .i64 (k i0 i1)))))))), (29, (.sc (.int .i64 p))), (30, (.sc (.int .i64 q)))]
abbrev m43_5 (z : Nat) (y u : Nat → Int) (r : Nat) (i : Nat → Nat) (h : Nat → Nat → Int) (k : Nat) (j : Nat → Int) (l : Int) (v : Nat) (m : Int) (o : Nat) (s n : Int) (t : Nat) (q : Nat → Nat) (p : Nat → Nat → Int) (w x : Int) (b : Nat) (a : Nat → Int) (e c : Nat) (d : MapF) (g : Nat) (f : Nat → Int) : List (Nat × Nat × AV) := [(1000, 3, (.ar b 1 (fun i0 => (.sc (.int .i64 (a i0)))))), (1001, 145, (.mc 0 e c d)), (1002, 3, (.ar g 1 (fun i0 => (.sc (.int .i64 (f i0))))))]
def L43_5 (z : Nat) (y l : Nat → Int) (j : Nat) (b : Nat → Nat) (a : Nat → Nat → Int) (d : Nat) (c : Nat → Int) (e : Int) (v : Nat) (f : Int) (g : Nat) (s n : Int) (k : Nat) (i : Nat → Nat) (h : Nat → Nat → Int) (w x : Int) (o : Nat) (m : Nat → Int) (r p : Nat) (q : MapF) (u : Nat) (t : Nat → Int) (A : AV) : Prop := Goes ⟨Go.Proofs.Try.prog, 43, [], A, []⟩ (place Go.Proofs.Try.f43 [1, 1, 1, 0, 0, 0, 1, 1, 0, 1, 0, 0, 1, 1, 0, 0, 1, 1, 1, 1, 1]) (s43_5 z y l j b a d c e v f g s n k i h w x o m r p q u t) (m43_5 z y l j b a d c e v f g s n k i h w x o m r p q u t)
abbrev s43_6 (l : Nat) (q m : Nat → Int) (d : Nat) (a : Nat → Nat) (f : Nat → Nat → Int) (b : Nat) (g : Nat → Int) (h : Int) (n : Nat) (i : Int) (j e : Nat) (c : Nat → Nat) (k : Nat → Nat → Int) (o p : Int) (s : Nat) (r : Nat → Int) (v t : Nat) (u : MapF) (x : Nat) (w : Nat → Int) : List (Nat × AV) := [(0, (.ip true (.cons 1 (.vec true 1 l l (fun i0 => (.sc (.int .u8 (q i0))))) (.cons 256 (.ar 256 1 (fun i0 => (.sc (.int .i64 (m i0))))) (.cons 1 (.vec true 1 d d (fun i0 => (.vec true 1 (a i0) (a i0) (fun i1 => (.sc (.int .i64 (f i0 i1))))))) (.cons 1 (.vec true 1 b b (fun i0 => (.sc (.int .i64 (g i0))))) (.cons 1 (.sc (.int .i64 h)) .nil))))))), (3, (.rf 1000 1 0 n)), (4, (.sc (.int .i64 i))), (5, (.mp 1001)), (6, (.rf 1002 1 0 j)), (28, (.vec true 1 e e (fun i0 => (.vec true 1 (c i0) (c i0) (fun i1 => (.sc (.int .i64 (k i0 i1)))))))), (29, (.sc (.int .i64 o))), (30, (.sc (.int .i64 p)))]
abbrev m43_6 (x : Nat) (w s : Nat → Int) (q : Nat) (i : Nat → Nat) (h : Nat → Nat → Int) (k : Nat) (j : Nat → Int) (l : Int) (t : Nat) (m : Int) (n r : Nat) (p : Nat → Nat) (o : Nat → Nat → Int) (u v : Int) (b : Nat) (a : Nat → Int) (e c : Nat) (d : MapF) (g : Nat) (f : Nat → Int) : List (Nat × Nat × AV) := [(1000, 3, (.ar b 1 (fun i0 => (.sc (.int .i64 (a i0)))))), (1001, 145, (.mc 0 e c d)), (1002, 3, (.ar g 1 (fun i0 => (.sc (.int .i64 (f i0))))))]
def L43_6 (x : Nat) (w l : Nat → Int) (j : Nat) (b : Nat → Nat) (a : Nat → Nat → Int) (d : Nat) (c : Nat → Int) (e : Int) (t : Nat) (f : Int) (g k : Nat) (i : Nat → Nat) (h : Nat → Nat → Int) (u v : Int) (n : Nat) (m : Nat → Int) (q o : Nat) (p : MapF) (s : Nat) (r : Nat → Int) (y : AV) : Prop := Goes ⟨Go.Proofs.Try.prog, 43, [], y, []⟩ (place Go.Proofs.Try.f43 [1, 1, 1, 0, 0, 0, 1, 1, 0, 1, 0, 0, 1, 1, 1]) (s43_6 x w l j b a d c e t f g k i h u v n m q o p s r) (m43_6 x w l j b a d c e t f g k i h u v n m q o p s r)
theorem o43 (g : Nat) (k i : Nat → Int) (c : Nat) (a : Nat → Nat) (d : Nat → Nat → Int) (b : Nat) (e : Nat → Int) (f : Int) (j : AV) (l : newOnly j) (h : L43_e g k i c a d b e f j) : Ok Go.Proofs.Try.prog 43 [(.ip true (.cons 1 (.vec true 1 g g (fun i0 => (.sc (.int .u8 (k i0))))) (.cons 256 (.ar 256 1 (fun i0 => (.sc (.int .i64 (i i0))))) (.cons 1 (.vec true 1 c c (fun i0 => (.vec true 1 (a i0) (a i0) (fun i1 => (.sc (.int .i64 (d i0 i1))))))) (.cons 1 (.vec true 1 b b (fun i0 => (.sc (.int .i64 (e i0))))) (.cons 1 (.sc (.int .i64 f)) .nil))))))] [] j [] :=
 okRule2 43 Go.Proofs.Try.f43 hf43 [(.ip true (.cons 1 (.vec true 1 g g (fun i0 => (.sc (.int .u8 (k i0))))) (.cons 256 (.ar 256 1 (fun i0 => (.sc (.int .i64 (i i0))))) (.cons 1 (.vec true 1 c c (fun i0 => (.vec true 1 (a i0) (a i0) (fun i1 => (.sc (.int .i64 (d i0 i1))))))) (.cons 1 (.vec true 1 b b (fun i0 => (.sc (.int .i64 (e i0))))) (.cons 1 (.sc (.int .i64 f)) .nil))))))] [] j [] [] rfl (by kernel_rfl) (by kernel_rfl) (by kernel_rfl) ⟨l, by simp⟩ (L43_e g k i c a d b e f j) (by kernel_rfl) h
theorem r43_e (i : Nat) (j g : Nat → Int) (a : Nat) (b : Nat → Nat) (d : Nat → Nat → Int) (c : Nat) (e : Nat → Int) (f : Int) (k : AV)
 (h : ((0 : Int) ≤ (↑a : Int) ∧
 (↑a : Int) ≤ (↑a : Int) ∧ (↑a : Int).toNat * (8 : Nat) ≤ (140737488355328 : Nat) ∧ (↑a : Int) ≤ (140737488355328 : Int)) ∧
 L43_0 i j g a b d c e f (↑a : Int).toNat (0 : Int) (↑a : Int).toNat (fun (x : Nat) => (0 : Int)) k) :
 L43_e i j g a b d c e f k :=
 rule Go.Am.Seat.tabOk 43 [] Go.Proofs.Try.f43 hf43 [] (s43_e i j g a b d c e f) (m43_e i j g a b d c e f) k [] 400
 (Orc.cut (nat_lit 8) (s43_0 i j g a b d c e f (↑a : Int).toNat (0 : Int) (↑a : Int).toNat fun (x : Nat) => (0 : Int))
 (m43_0 i j g a b d c e f (↑a : Int).toNat (0 : Int) (↑a : Int).toNat fun (x : Nat) => (0 : Int))
 [((1000 : Nat), some (20 : Nat))]) _ _ (by kernel_rfl) (by kernel_rfl) (show True ∧
 True ∧
 True ∧
 True ∧
 True ∧
 True ∧
 ((0 : Int) ≤ (↑a : Int) ∧
 (↑a : Int) ≤ (↑a : Int) ∧ (↑a : Int).toNat * (8 : Nat) ≤ (140737488355328 : Nat) ∧ (↑a : Int) ≤ (140737488355328 : Int)) ∧
 True ∧
 True ∧
 ((True ∧
 SubS (.ip true (.cons 1 (.vec true 1 i i fun (i0 : Nat) => .sc (.int .u8 (j i0))) (.cons 256 (.ar 256 (1 : Nat) fun (i0 : Nat) => .sc (.int .i64 (g i0))) (.cons 1 (.vec true 1 a a fun (i0 : Nat) => .vec true 1 (b i0) (b i0) fun (i1 : Nat) => .sc (.int .i64 (d i0 i1))) (.cons 1 (.vec true 1 c c fun (i0 : Nat) => .sc (.int .i64 (e i0))) (.cons 1 (.sc (.int .i64 f)) .nil)))))) ∧
 True ∧
 SubS (.rf 1000 1 0 (↑a : Int).toNat) ∧
 True ∧ SubS (.sc (.int .i64 (0 : Int))) ∧ True) ∧
 True ∧
 SubB (.ar (↑a : Int).toNat (1 : Nat) fun (x : Nat) => .sc (.int .i64 (0 : Int)))
 (.ar (↑a : Int).toNat (1 : Nat) fun (i0 : Nat) => .sc (.int .i64 (0 : Int))) ∧
 True) ∧
 L43_0 i j g a b d c e f (↑a : Int).toNat (0 : Int) (↑a : Int).toNat (fun (x : Nat) => (0 : Int))
 k from
 ⟨trivial, ⟨trivial, ⟨trivial, ⟨trivial, ⟨trivial, ⟨trivial, (And.elim (fun h6 k6 => ⟨(And.elim (fun h7 k7 => ⟨h7, (And.elim (fun h8 k8 => ⟨h8, (And.elim (fun h9 k9 => ⟨h9, k9⟩) k8)⟩) k7)⟩) h6), ⟨trivial, ⟨trivial, ⟨⟨⟨trivial, ⟨Sub.refl _, ⟨trivial, ⟨Sub.refl _, ⟨trivial, ⟨Sub.refl _, trivial⟩⟩⟩⟩⟩⟩, ⟨trivial, ⟨SubB.refl _, trivial⟩⟩⟩, k6⟩⟩⟩⟩) h)⟩⟩⟩⟩⟩⟩)
theorem r43_0 (k : Nat) (o j : Nat → Int) (a : Nat) (b : Nat → Nat) (d : Nat → Nat → Int) (e : Nat) (f : Nat → Int) (g : Int) (c : Nat) (i : Int) (m : Nat) (l : Nat → Int) (p : AV)
 (h : ((0 : Int) ≤ (↑c : Int) ∧ (↑c : Int) ≤ (↑c : Int) ∧ (↑c : Int).toNat * (8 : Nat) ≤ (140737488355328 : Nat) ∧ (↑c : Int) ≤ (140737488355328 : Int)) ∧
 L43_1 k o j a b d e f g c i (↑c : Int).toNat a b d (↑a : Int) (0 : Int) m l (0 : Nat)
 (0 : Nat) (fun (x : Value) => none) (↑c : Int).toNat (fun (x : Nat) => (0 : Int)) p) :
 L43_0 k o j a b d e f g c i m l p :=
 rule Go.Am.Seat.tabOk 43 [] Go.Proofs.Try.f43 hf43 [1, 1, 1, 0, 0] (s43_0 k o j a b d e f g c i m l) (m43_0 k o j a b d e f g c i m l) p [] 400
 (Orc.ch (Ch.n (9 : Nat))
 (Orc.cut (nat_lit 7)
 (s43_1 k o j a b d e f g c i (↑c : Int).toNat a b d (↑a : Int) (0 : Int) m l (0 : Nat)
 (0 : Nat) (fun (x : Value) => none) (↑c : Int).toNat fun (x : Nat) => (0 : Int))
 (m43_1 k o j a b d e f g c i (↑c : Int).toNat a b d (↑a : Int) (0 : Int) m l (0 : Nat)
 (0 : Nat) (fun (x : Value) => none) (↑c : Int).toNat fun (x : Nat) => (0 : Int))
 [((1000 : Nat), some (1000 : Nat)), ((1001 : Nat), some (21 : Nat)), ((1002 : Nat), some (24 : Nat))])) _ _ (by kernel_rfl) (by kernel_rfl) (show True ∧
 True ∧
 True ∧
 True ∧
 ((0 : Int) ≤ (↑c : Int) ∧
 (↑c : Int) ≤ (↑c : Int) ∧ (↑c : Int).toNat * (8 : Nat) ≤ (140737488355328 : Nat) ∧ (↑c : Int) ≤ (140737488355328 : Int)) ∧
 True ∧
 True ∧
 True ∧
 True ∧
 True ∧
 True ∧
 True ∧
 ((True ∧
 SubS (.ip true (.cons 1 (.vec true 1 k k fun (i0 : Nat) => .sc (.int .u8 (o i0))) (.cons 256 (.ar 256 (1 : Nat) fun (i0 : Nat) => .sc (.int .i64 (j i0))) (.cons 1 (.vec true 1 a a fun (i0 : Nat) => .vec true 1 (b i0) (b i0) fun (i1 : Nat) => .sc (.int .i64 (d i0 i1))) (.cons 1 (.vec true 1 e e fun (i0 : Nat) => .sc (.int .i64 (f i0))) (.cons 1 (.sc (.int .i64 g)) .nil)))))) ∧
 True ∧
 SubS (.rf 1000 1 0 c) ∧
 True ∧
 SubS (.sc (.int .i64 i)) ∧
 True ∧
 SubS (AV.mp (1001 : Nat)) ∧
 True ∧
 SubS (.rf 1002 1 0 (↑c : Int).toNat) ∧
 True ∧
 SubS (.vec true 1 a a fun (i0 : Nat) => .vec true 1 (b i0) (b i0) fun (i1 : Nat) => .sc (.int .i64 (d i0 i1))) ∧
 True ∧
 SubS (.sc (.int .i64 (↑a : Int))) ∧
 True ∧ SubS (.sc (.int .i64 (0 : Int))) ∧ True) ∧
 True ∧
 SubBS (.ar m (1 : Nat) fun (i0 : Nat) => .sc (.int .i64 (l i0))) ∧
 ((0 : Nat) = (0 : Nat) ∧ (0 : Nat) = (0 : Nat) ∧ MapEq (fun (x : Value) => none) fun (x : Value) => none) ∧
 True ∧
 SubB (.ar (↑c : Int).toNat (1 : Nat) fun (x : Nat) => .sc (.int .i64 (0 : Int)))
 (.ar (↑c : Int).toNat (1 : Nat) fun (i0 : Nat) => .sc (.int .i64 (0 : Int))) ∧
 True) ∧
 L43_1 k o j a b d e f g c i (↑c : Int).toNat a b d (↑a : Int) (0 : Int)
 m l (0 : Nat) (0 : Nat) (fun (x : Value) => none) (↑c : Int).toNat (fun (x : Nat) => (0 : Int)) p from
 ⟨trivial, ⟨trivial, ⟨trivial, ⟨trivial, (And.elim (fun h4 k4 => ⟨(And.elim (fun h5 k5 => ⟨h5, (And.elim (fun h6 k6 => ⟨h6, (And.elim (fun h7 k7 => ⟨h7, k7⟩) k6)⟩) k5)⟩) h4), ⟨trivial, ⟨trivial, ⟨trivial, ⟨trivial, ⟨trivial, ⟨trivial, ⟨trivial, ⟨⟨⟨trivial, ⟨Sub.refl _, ⟨trivial, ⟨Sub.refl _, ⟨trivial, ⟨Sub.refl _, ⟨trivial, ⟨Sub.refl _, ⟨trivial, ⟨Sub.refl _, ⟨trivial, ⟨Sub.refl _, ⟨trivial, ⟨Sub.refl _, ⟨trivial, ⟨Sub.refl _, trivial⟩⟩⟩⟩⟩⟩⟩⟩⟩⟩⟩⟩⟩⟩⟩⟩, ⟨trivial, ⟨SubB.refl _, ⟨⟨rfl, ⟨rfl, (MapEq.refl _)⟩⟩, ⟨trivial, ⟨SubB.refl _, trivial⟩⟩⟩⟩⟩⟩, k4⟩⟩⟩⟩⟩⟩⟩⟩⟩) h)⟩⟩⟩⟩)
theorem r43_1 (t : Nat) (v p : Nat → Int) (g : Nat) (e : Nat → Nat) (j : Nat → Nat → Int) (c : Nat) (f : Nat → Int) (k : Int) (z : Nat) (m : Int) (b u : Nat) (d : Nat → Nat) (l : Nat → Nat → Int) (w a : Int) (y : Nat) (x : Nat → Int) (q A : Nat) (B : MapF) (s : Nat) (o : Nat → Int) (C : AV)
 (h : (decide (a < w) = true →
 ((0 : Int) ≤ a ∧ a < (↑u : Int)) ∧
 ((0 : Int) ≤ a ∧ a < (↑c : Int)) ∧
 ∃ (r : Nat × Nat × (Nat → Int)),
 Ok Proofs.Try.prog (78 : Nat) [.sc (.slice none (0 : Nat) (0 : Nat)), .sc (.int .i64 (f a.toNat))] []
 (.rf 1000 1 0 r.1)
 [((1000 : Nat), (5 : Nat), .ar r.2.1 (1 : Nat) fun (i0 : Nat) => .sc (.int .u8 (r.2.2 i0)))] ∧
 ((0 : Int) ≤ a ∧ a < (↑z : Int)) ∧
 a.toNat < y ∧
 ∃ (r_1 : Nat × Nat × (Nat → Int)),
 Ok Proofs.Try.prog (78 : Nat) [.rf 2000 1 0 r.1, .sc (.int .i64 (x a.toNat))]
 [((2000 : Nat), (5 : Nat), .ar r.2.1 (1 : Nat) fun (i : Nat) => .sc (.int .u8 (r.2.2 i)))]
 (.rf 1000 1 0 r_1.1)
 [((1000 : Nat), (5 : Nat), .ar r_1.2.1 (1 : Nat) fun (i0 : Nat) => .sc (.int .u8 (r_1.2.2 i0)))] ∧
 L43_2 t v p g e j c f k z m b a r_1.1 u d l w a (d a.toNat)
 (l a.toNat) (↑(d a.toNat) : Int) (0 : Int) y x q A B s o r_1.2.1 r_1.2.2 C) ∧
 (decide (a < w) = false →
 (((↑q : Int) == m) = true →
 ((0 : Nat) + b ≤ s ∧
 Sub (.vec false 1 b (s - (0 : Nat)) fun (i : Nat) => .sc (.int .i64 (o i)))
 (.vec false 1 b b fun (i : Nat) => .sc (.int .i64 (o i)))) ∧
 Sub (.vec false 1 b b fun (i : Nat) => .sc (.int .i64 (o i))) C) ∧
 (((↑q : Int) == m) = false → L43_0 t v p g e j c f k b (↑q : Int) s o C))) :
 L43_1 t v p g e j c f k z m b u d l w a y x q A B s o C :=
 rule Go.Am.Seat.tabOk 43 [] Go.Proofs.Try.f43 hf43 [1, 1, 1, 0, 0, 0, 1, 1, 0, 1, 0, 0] (s43_1 t v p g e j c f k z m b u d l w a y x q A B s o) (m43_1 t v p g e j c f k z m b u d l w a y x q A B s o) C [] 400
 ((Orc.call [] [((100420 : Nat), (1000 : Nat))] (fun (r78 : Nat × Nat × (Nat → Int)) => .rf 1000 1 0 r78.1)
 (fun (r78 : Nat × Nat × (Nat → Int)) =>
 [((1000 : Nat), (5 : Nat), .ar r78.2.1 (1 : Nat) fun (i0 : Nat) => .sc (.int .u8 (r78.2.2 i0)))])
 fun (r78 : Nat × Nat × (Nat → Int)) =>
 Orc.call [((100420 : Nat), (2000 : Nat))] [((100470 : Nat), (1000 : Nat))]
 (fun (r78 : Nat × Nat × (Nat → Int)) => .rf 1000 1 0 r78.1)
 (fun (r78 : Nat × Nat × (Nat → Int)) =>
 [((1000 : Nat), (5 : Nat), .ar r78.2.1 (1 : Nat) fun (i0 : Nat) => .sc (.int .u8 (r78.2.2 i0)))])
 fun (r78 : Nat × Nat × (Nat → Int)) =>
 Orc.cut (nat_lit 5)
 (s43_2 t v p g e j c f k z m b a r78.1 u d l w a (d a.toNat) (l a.toNat)
 (↑(d a.toNat) : Int) (0 : Int) y x q A B s o r78.2.1 r78.2.2)
 (m43_2 t v p g e j c f k z m b a r78.1 u d l w a (d a.toNat) (l a.toNat)
 (↑(d a.toNat) : Int) (0 : Int) y x q A B s o r78.2.1 r78.2.2)
 [((1000 : Nat), some (1000 : Nat)), ((1001 : Nat), some (1001 : Nat)), ((1002 : Nat), some (1002 : Nat)), ((1003 : Nat), some (100470 : Nat))]).br
 (Orc.ch Ch.none
 (Orc.ch Ch.none
 (Orc.ch Ch.none
 (Orc.ch (Ch.n (9 : Nat))
 ((Orc.fin (.vec false 1 b b fun (i : Nat) => .sc (.int .i64 (o (plus (0 : Nat) i)))) [] []).br
 (Orc.ch Ch.none
 (Orc.ch (Ch.n (9 : Nat))
 (Orc.cut (nat_lit 2) (s43_0 t v p g e j c f k b (↑q : Int) s o)
 (m43_0 t v p g e j c f k b (↑q : Int) s o) [((1000 : Nat), some (1002 : Nat))]))))))))) _ _ (by kernel_rfl) (by kernel_rfl) (show True ∧
 (decide (a < w) = true →
 True ∧
 ((0 : Int) ≤ a ∧ a < (↑u : Int)) ∧
 True ∧
 True ∧
 True ∧
 True ∧
 True ∧
 True ∧
 True ∧
 True ∧
 ((0 : Int) ≤ a ∧ a < (↑c : Int)) ∧
 True ∧
 ∃ (r : Nat × Nat × (Nat → Int)),
 ((True ∧ True ∧ True) ∧
 True ∧
 Ok Proofs.Try.prog (78 : Nat)
 [.sc (.slice none (0 : Nat) (0 : Nat)), .sc (.int .i64 (f a.toNat))] []
 (.rf 1000 1 0 r.1)
 [((1000 : Nat), (5 : Nat), .ar r.2.1 (1 : Nat) fun (i0 : Nat) => .sc (.int .u8 (r.2.2 i0)))]) ∧
 True ∧
 True ∧
 ((0 : Int) ≤ a ∧ a < (↑z : Int)) ∧
 (a.toNat * (1 : Nat) + (0 : Nat) = a.toNat * (1 : Nat) ∧ a.toNat < y ∧ True) ∧
 ∃ (r_1 : Nat × Nat × (Nat → Int)),
 ((True ∧ True ∧ True) ∧
 (True ∧ True) ∧
 Ok Proofs.Try.prog (78 : Nat)
 [.rf 2000 1 0 r.1, .sc (.int .i64 (x a.toNat))]
 [((2000 : Nat), (5 : Nat),
 .ar r.2.1 (1 : Nat) fun (i : Nat) => .sc (.int .u8 (r.2.2 i)))]
 (.rf 1000 1 0 r_1.1)
 [((1000 : Nat), (5 : Nat),
 .ar r_1.2.1 (1 : Nat) fun (i0 : Nat) => .sc (.int .u8 (r_1.2.2 i0)))]) ∧
 True ∧
 True ∧
 True ∧
 True ∧
 ((True ∧
 SubS (.ip true (.cons 1 (.vec true 1 t t fun (i0 : Nat) => .sc (.int .u8 (v i0))) (.cons 256 (.ar 256 (1 : Nat) fun (i0 : Nat) => .sc (.int .i64 (p i0))) (.cons 1 (.vec true 1 g g fun (i0 : Nat) => .vec true 1 (e i0) (e i0) fun (i1 : Nat) => .sc (.int .i64 (j i0 i1))) (.cons 1 (.vec true 1 c c fun (i0 : Nat) => .sc (.int .i64 (f i0))) (.cons 1 (.sc (.int .i64 k)) .nil)))))) ∧
 True ∧
 SubS (.rf 1000 1 0 z) ∧
 True ∧
 SubS (.sc (.int .i64 m)) ∧
 True ∧
 SubS (AV.mp (1001 : Nat)) ∧
 True ∧
 SubS (.rf 1002 1 0 b) ∧
 True ∧
 SubS (.sc (.int .i64 a)) ∧
 True ∧
 SubS (.rf 1003 1 0 r_1.1) ∧
 True ∧
 SubS (.vec true 1 u u fun (i0 : Nat) => .vec true 1 (d i0) (d i0) fun (i1 : Nat) => .sc (.int .i64 (l i0 i1))) ∧
 True ∧
 SubS (.sc (.int .i64 w)) ∧
 True ∧
 SubS (.sc (.int .i64 a)) ∧
 True ∧
 SubS (.vec true 1 (d a.toNat) (d a.toNat) fun (i1 : Nat) => .sc (.int .i64 (l a.toNat i1))) ∧
 True ∧
 SubS (.sc (.int IntKind.i64 (↑(d a.toNat) : Int))) ∧
 True ∧
 SubS (.sc (.int .i64 (0 : Int))) ∧
 True) ∧
 True ∧
 SubBS (.ar y (1 : Nat) fun (i0 : Nat) => .sc (.int .i64 (x i0))) ∧
 (q = q ∧ A = A ∧ MapEq B B) ∧
 True ∧
 SubBS (.ar s (1 : Nat) fun (i0 : Nat) => .sc (.int .i64 (o i0))) ∧
 True ∧
 SubBS (.ar r_1.2.1 (1 : Nat) fun (i0 : Nat) => .sc (.int .u8 (r_1.2.2 i0))) ∧
 True) ∧
 L43_2 t v p g e j c f k z m b a r_1.1 u d l
 w a (d a.toNat) (l a.toNat) (↑(d a.toNat) : Int) (0 : Int) y x q A B
 s o r_1.2.1 r_1.2.2 C) ∧
 (decide (a < w) = false →
 True ∧
 True ∧
 True ∧
 True ∧
 True ∧
 True ∧
 (((↑q : Int) == m) = true →
 True ∧
 True ∧
 True ∧
 (((0 : Nat) + b ≤ s ∧
 Sub (.vec false 1 b (s - (0 : Nat)) fun (i : Nat) => .sc (.int .i64 (o i)))
 (.vec false 1 b b fun (i : Nat) => .sc (.int .i64 (o i))) ∧
 True) ∧
 True) ∧
 Sub (.vec false 1 b b fun (i : Nat) => .sc (.int .i64 (o i))) C ∧ SubOut [] []) ∧
 (((↑q : Int) == m) = false →
 True ∧
 True ∧
 True ∧
 ((True ∧
 SubS (.ip true (.cons 1 (.vec true 1 t t fun (i0 : Nat) => .sc (.int .u8 (v i0))) (.cons 256 (.ar 256 (1 : Nat) fun (i0 : Nat) => .sc (.int .i64 (p i0))) (.cons 1 (.vec true 1 g g fun (i0 : Nat) => .vec true 1 (e i0) (e i0) fun (i1 : Nat) => .sc (.int .i64 (j i0 i1))) (.cons 1 (.vec true 1 c c fun (i0 : Nat) => .sc (.int .i64 (f i0))) (.cons 1 (.sc (.int .i64 k)) .nil)))))) ∧
 True ∧
 SubS (.rf 1000 1 0 b) ∧
 True ∧ SubS (.sc (.int .i64 (↑q : Int))) ∧ True) ∧
 True ∧
 SubBS (.ar s (1 : Nat) fun (i0 : Nat) => .sc (.int .i64 (o i0))) ∧
 True) ∧
 L43_0 t v p g e j c f k b (↑q : Int) s o C)) from
 ⟨trivial, (And.elim (fun h1 k1 => ⟨(fun x2 => (fun h2 => ⟨trivial, (And.elim (fun h4 k4 => ⟨(And.elim (fun h5 k5 => ⟨h5, k5⟩) h4), ⟨trivial, ⟨trivial, ⟨trivial, ⟨trivial, ⟨trivial, ⟨trivial, ⟨trivial, ⟨trivial, (And.elim (fun h13 k13 => ⟨(And.elim (fun h14 k14 => ⟨h14, k14⟩) h13), ⟨trivial, (Exists.elim k13 fun x15 h15 => ⟨x15, (And.elim (fun h16 k16 => ⟨⟨⟨trivial, ⟨trivial, trivial⟩⟩, ⟨trivial, h16⟩⟩, ⟨trivial, ⟨trivial, (And.elim (fun h19 k19 => ⟨(And.elim (fun h20 k20 => ⟨h20, k20⟩) h19), (And.elim (fun h20 k20 => ⟨⟨rfl, ((fun h22 => ⟨h22, trivial⟩) h20)⟩, (Exists.elim k20 fun x21 h21 => ⟨x21, (And.elim (fun h22 k22 => ⟨⟨⟨trivial, ⟨trivial, trivial⟩⟩, ⟨⟨trivial, trivial⟩, h22⟩⟩, ⟨trivial, ⟨trivial, ⟨trivial, ⟨trivial, ⟨⟨⟨trivial, ⟨Sub.refl _, ⟨trivial, ⟨Sub.refl _, ⟨trivial, ⟨Sub.refl _, ⟨trivial, ⟨Sub.refl _, ⟨trivial, ⟨Sub.refl _, ⟨trivial, ⟨Sub.refl _, ⟨trivial, ⟨Sub.refl _, ⟨trivial, ⟨Sub.refl _, ⟨trivial, ⟨Sub.refl _, ⟨trivial, ⟨Sub.refl _, ⟨trivial, ⟨Sub.refl _, ⟨trivial, ⟨Sub.refl _, ⟨trivial, ⟨Sub.refl _, trivial⟩⟩⟩⟩⟩⟩⟩⟩⟩⟩⟩⟩⟩⟩⟩⟩⟩⟩⟩⟩⟩⟩⟩⟩⟩⟩, ⟨trivial, ⟨SubB.refl _, ⟨⟨rfl, ⟨rfl, (MapEq.refl _)⟩⟩, ⟨trivial, ⟨SubB.refl _, ⟨trivial, ⟨SubB.refl _, trivial⟩⟩⟩⟩⟩⟩⟩⟩, k22⟩⟩⟩⟩⟩⟩) h21)⟩)⟩) k19)⟩) k16)⟩⟩⟩) h15)⟩)⟩⟩) k4)⟩⟩⟩⟩⟩⟩⟩⟩⟩) h2)⟩) (h1 x2)), (fun x2 => (fun h2 => ⟨trivial, ⟨trivial, ⟨trivial, ⟨trivial, ⟨trivial, ⟨trivial, (And.elim (fun h9 k9 => ⟨(fun x10 => (fun h10 => ⟨trivial, ⟨trivial, ⟨trivial, (And.elim (fun h14 k14 => ⟨((fun h15 => ⟨(And.elim (fun h16 k16 => ⟨h16, ((fun h17 => ⟨h17, trivial⟩) k16)⟩) h15), trivial⟩) h14), ((fun h15 => ⟨h15, trivial⟩) k14)⟩) h10)⟩⟩⟩) (h9 x10)), (fun x10 => (fun h10 => ⟨trivial, ⟨trivial, ⟨trivial, ⟨⟨⟨trivial, ⟨Sub.refl _, ⟨trivial, ⟨Sub.refl _, ⟨trivial, ⟨Sub.refl _, trivial⟩⟩⟩⟩⟩⟩, ⟨trivial, ⟨SubB.refl _, trivial⟩⟩⟩, h10⟩⟩⟩⟩) (k9 x10))⟩) h2)⟩⟩⟩⟩⟩⟩) (k1 x2))⟩) h)⟩)
theorem r43_2 (y : Nat) (H w : Nat → Int) (d : Nat) (a : Nat → Nat) (e : Nat → Nat → Int) (b : Nat) (f : Nat → Int) (g : Int) (B : Nat) (m : Int) (o : Nat) (s : Int) (u l : Nat) (c : Nat → Nat) (p : Nat → Nat → Int) (F G : Int) (C : Nat) (r : Nat → Int) (I t : Int) (A : Nat) (z : Nat → Int) (q v : Nat) (k : MapF) (E : Nat) (D : Nat → Int) (J : Nat) (j : Nat → Int) (K : AV)
 (h : (decide (t < I) = true →
 ((0 : Int) ≤ t ∧ t < (↑C : Int)) ∧
 (decide (r t.toNat ≥ (0 : Int)) = true →
 ((0 : Int) ≤ r t.toNat ∧ r t.toNat < (↑B : Int)) ∧
 (r t.toNat).toNat < A ∧
 L43_3 y H w d a e b f g B m o s u (z (r t.toNat).toNat) l c p F G C r
 I t A z q v k E D J j K) ∧
 (decide (r t.toNat ≥ (0 : Int)) = false →
 L43_3 y H w d a e b f g B m o s u (-1 : Int) l c p F G C r I t A z q v
 k E D J j K)) ∧
 (decide (t < I) = false →
 ((0 : Nat) + u ≤ J ∧
 (strOf u fun (i : Nat) => j ((0 : Nat) + i)).size = u ∧
 ∀ (i : Nat),
 i < u →
 AV.sc (.int .u8 (j ((0 : Nat) + i))) =
 .sc (.int .u8 (↑(byteAt (strOf u fun (i : Nat) => j ((0 : Nat) + i)) i).toNat : Int))) ∧
 ((!(k (.string (strOf u fun (i : Nat) => j ((0 : Nat) + i)))).isSome) = true →
 L43_5 y H w d a e b f g B m o s (↑q : Int) l c p F G A z
 (bif (k (.string (strOf u fun (i : Nat) => j ((0 : Nat) + i)))).isSome then q else q + (1 : Nat))
 (bif (k (.string (strOf u fun (i : Nat) => j ((0 : Nat) + i)))).isSome then v else v + (1 : Nat))
 (putM k v (.string (strOf u fun (i : Nat) => j ((0 : Nat) + i))) (↑q : Int)) E D K) ∧
 ((!(k (.string (strOf u fun (i : Nat) => j ((0 : Nat) + i)))).isSome) = false →
 L43_5 y H w d a e b f g B m o s
 ((Option.map (fun (x : Int × Nat) => x.1) (k (.string (strOf u fun (i : Nat) => j ((0 : Nat) + i))))).getD (0 : Int)) l c p
 F G A z q v k E D K))) :
 L43_2 y H w d a e b f g B m o s u l c p F G C r I t A z q v k E D J j K :=
 rule Go.Am.Seat.tabOk 43 [] Go.Proofs.Try.f43 hf43 [1, 1, 1, 0, 0, 0, 1, 1, 0, 1, 0, 0, 1, 1, 0, 0, 1, 1, 0, 1, 0, 0] (s43_2 y H w d a e b f g B m o s u l c p F G C r I t A z q v k E D J j) (m43_2 y H w d a e b f g B m o s u l c p F G C r I t A z q v k E D J j) K [] 400
 (((Orc.cut (nat_lit 1)
 (s43_3 y H w d a e b f g B m o s u (z (plus (0 : Nat) (r t.toNat).toNat)) l c p F
 G C r I t A z q v k E D J j)
 (m43_3 y H w d a e b f g B m o s u (z (plus (0 : Nat) (r t.toNat).toNat)) l c p F
 G C r I t A z q v k E D J j)
 [((1000 : Nat), some (1000 : Nat)), ((1001 : Nat), some (1001 : Nat)), ((1002 : Nat), some (1002 : Nat)), ((1003 : Nat), some (1003 : Nat))]).br
 (Orc.cut (nat_lit 1)
 (s43_3 y H w d a e b f g B m o s u (-1 : Int) l c p F G C r I t A z q v
 k E D J j)
 (m43_3 y H w d a e b f g B m o s u (-1 : Int) l c p F G C r I t A z q v
 k E D J j)
 [((1000 : Nat), some (1000 : Nat)), ((1001 : Nat), some (1001 : Nat)), ((1002 : Nat), some (1002 : Nat)), ((1003 : Nat), some (1003 : Nat))])).br
 (Orc.ch Ch.none
 (Orc.ch Ch.none
 (Orc.ch (Ch.s (strOf u fun (i : Nat) => j ((0 : Nat) + i)))
 (Orc.ch (Ch.n (9 : Nat))
 ((Orc.ch Ch.none
 (Orc.ch (Ch.n (9 : Nat))
 (Orc.ch Ch.none
 (Orc.ch Ch.none
 (Orc.ch Ch.none
 (Orc.ch (Ch.s (strOf u fun (i : Nat) => j ((0 : Nat) + i)))
 (Orc.ch Ch.none
 (Orc.ch (Ch.n (9 : Nat))
 (Orc.cut (nat_lit 0)
 (s43_5 y H w d a e b f g B m o s (↑q : Int) l c p F G A z
 (bif (k (.string (strOf u fun (i : Nat) => j ((0 : Nat) + i)))).isSome then q else q + (1 : Nat))
 (bif (k (.string (strOf u fun (i : Nat) => j ((0 : Nat) + i)))).isSome then v else v + (1 : Nat))
 (putM k v (.string (strOf u fun (i : Nat) => j ((0 : Nat) + i))) (↑q : Int)) E D)
 (m43_5 y H w d a e b f g B m o s (↑q : Int) l c p F G A z
 (bif (k (.string (strOf u fun (i : Nat) => j ((0 : Nat) + i)))).isSome then q else q + (1 : Nat))
 (bif (k (.string (strOf u fun (i : Nat) => j ((0 : Nat) + i)))).isSome then v else v + (1 : Nat))
 (putM k v (.string (strOf u fun (i : Nat) => j ((0 : Nat) + i))) (↑q : Int)) E D)
 [((1000 : Nat), some (1000 : Nat)), ((1001 : Nat), some (1001 : Nat)), ((1002 : Nat), some (1002 : Nat))]))))))))).br
 (Orc.cut (nat_lit 1)
 (s43_5 y H w d a e b f g B m o s
 ((Option.map (fun (x : Int × Nat) => x.1) (k (.string (strOf u fun (i : Nat) => j ((0 : Nat) + i))))).getD (0 : Int)) l c
 p F G A z q v k E D)
 (m43_5 y H w d a e b f g B m o s
 ((Option.map (fun (x : Int × Nat) => x.1) (k (.string (strOf u fun (i : Nat) => j ((0 : Nat) + i))))).getD (0 : Int)) l c
 p F G A z q v k E D)
 [((1000 : Nat), some (1000 : Nat)), ((1001 : Nat), some (1001 : Nat)), ((1002 : Nat), some (1002 : Nat))]))))))) _ _ (by kernel_rfl) (by kernel_rfl) (show True ∧
 (decide (t < I) = true →
 ((0 : Int) ≤ t ∧ t < (↑C : Int)) ∧
 True ∧
 True ∧
 True ∧
 True ∧
 True ∧
 (decide (r t.toNat ≥ (0 : Int)) = true →
 True ∧
 True ∧
 ((0 : Int) ≤ r t.toNat ∧ r t.toNat < (↑B : Int)) ∧
 ((r t.toNat).toNat * (1 : Nat) + (0 : Nat) = (r t.toNat).toNat * (1 : Nat) ∧ (r t.toNat).toNat < A ∧ True) ∧
 True ∧
 ((True ∧
 SubS (.ip true (.cons 1 (.vec true 1 y y fun (i0 : Nat) => .sc (.int .u8 (H i0))) (.cons 256 (.ar 256 (1 : Nat) fun (i0 : Nat) => .sc (.int .i64 (w i0))) (.cons 1 (.vec true 1 d d fun (i0 : Nat) => .vec true 1 (a i0) (a i0) fun (i1 : Nat) => .sc (.int .i64 (e i0 i1))) (.cons 1 (.vec true 1 b b fun (i0 : Nat) => .sc (.int .i64 (f i0))) (.cons 1 (.sc (.int .i64 g)) .nil)))))) ∧
 True ∧
 SubS (.rf 1000 1 0 B) ∧
 True ∧
 SubS (.sc (.int .i64 m)) ∧
 True ∧
 SubS (AV.mp (1001 : Nat)) ∧
 True ∧
 SubS (.rf 1002 1 0 o) ∧
 True ∧
 SubS (.sc (.int .i64 s)) ∧
 True ∧
 SubS (.rf 1003 1 0 u) ∧
 True ∧
 SubS (.sc (.int .i64 (z (r t.toNat).toNat))) ∧
 True ∧
 SubS (.vec true 1 l l fun (i0 : Nat) => .vec true 1 (c i0) (c i0) fun (i1 : Nat) => .sc (.int .i64 (p i0 i1))) ∧
 True ∧
 SubS (.sc (.int .i64 F)) ∧
 True ∧
 SubS (.sc (.int .i64 G)) ∧
 True ∧
 SubS (.vec true 1 C C fun (i0 : Nat) => .sc (.int .i64 (r i0))) ∧
 True ∧
 SubS (.sc (.int .i64 I)) ∧
 True ∧
 SubS (.sc (.int .i64 t)) ∧
 True) ∧
 True ∧
 SubBS (.ar A (1 : Nat) fun (i0 : Nat) => .sc (.int .i64 (z i0))) ∧
 (q = q ∧ v = v ∧ MapEq k k) ∧
 True ∧
 SubBS (.ar E (1 : Nat) fun (i0 : Nat) => .sc (.int .i64 (D i0))) ∧
 True ∧
 SubBS (.ar J (1 : Nat) fun (i0 : Nat) => .sc (.int .u8 (j i0))) ∧
 True) ∧
 L43_3 y H w d a e b f g B m o s u (z (r t.toNat).toNat) l c p
 F G C r I t A z q v k E D J j K) ∧
 (decide (r t.toNat ≥ (0 : Int)) = false →
 ((True ∧
 SubS (.ip true (.cons 1 (.vec true 1 y y fun (i0 : Nat) => .sc (.int .u8 (H i0))) (.cons 256 (.ar 256 (1 : Nat) fun (i0 : Nat) => .sc (.int .i64 (w i0))) (.cons 1 (.vec true 1 d d fun (i0 : Nat) => .vec true 1 (a i0) (a i0) fun (i1 : Nat) => .sc (.int .i64 (e i0 i1))) (.cons 1 (.vec true 1 b b fun (i0 : Nat) => .sc (.int .i64 (f i0))) (.cons 1 (.sc (.int .i64 g)) .nil)))))) ∧
 True ∧
 SubS (.rf 1000 1 0 B) ∧
 True ∧
 SubS (.sc (.int .i64 m)) ∧
 True ∧
 SubS (AV.mp (1001 : Nat)) ∧
 True ∧
 SubS (.rf 1002 1 0 o) ∧
 True ∧
 SubS (.sc (.int .i64 s)) ∧
 True ∧
 SubS (.rf 1003 1 0 u) ∧
 True ∧
 SubS (.sc (.int .i64 (-1 : Int))) ∧
 True ∧
 SubS (.vec true 1 l l fun (i0 : Nat) => .vec true 1 (c i0) (c i0) fun (i1 : Nat) => .sc (.int .i64 (p i0 i1))) ∧
 True ∧
 SubS (.sc (.int .i64 F)) ∧
 True ∧
 SubS (.sc (.int .i64 G)) ∧
 True ∧
 SubS (.vec true 1 C C fun (i0 : Nat) => .sc (.int .i64 (r i0))) ∧
 True ∧
 SubS (.sc (.int .i64 I)) ∧
 True ∧
 SubS (.sc (.int .i64 t)) ∧
 True) ∧
 True ∧
 SubBS (.ar A (1 : Nat) fun (i0 : Nat) => .sc (.int .i64 (z i0))) ∧
 (q = q ∧ v = v ∧ MapEq k k) ∧
 True ∧
 SubBS (.ar E (1 : Nat) fun (i0 : Nat) => .sc (.int .i64 (D i0))) ∧
 True ∧
 SubBS (.ar J (1 : Nat) fun (i0 : Nat) => .sc (.int .u8 (j i0))) ∧
 True) ∧
 L43_3 y H w d a e b f g B m o s u (-1 : Int) l c p F G C r I t
 A z q v k E D J j K)) ∧
 (decide (t < I) = false →
 True ∧
 True ∧
 (((0 : Nat) + u ≤ J ∧ (1 : Nat) = (1 : Nat)) ∧
 (strOf u fun (i : Nat) => j ((0 : Nat) + i)).size = u ∧
 ∀ (i : Nat),
 i < u →
 AV.sc (.int .u8 (j ((0 : Nat) + i))) =
 .sc (.int .u8 (↑(byteAt (strOf u fun (i : Nat) => j ((0 : Nat) + i)) i).toNat : Int))) ∧
 True ∧
 True ∧
 True ∧
 True ∧
 True ∧
 True ∧
 True ∧
 True ∧
 ((!(k (.string (strOf u fun (i : Nat) => j ((0 : Nat) + i)))).isSome) = true →
 True ∧
 True ∧
 True ∧
 True ∧
 True ∧
 (((0 : Nat) + u ≤ J ∧ (1 : Nat) = (1 : Nat)) ∧
 (strOf u fun (i : Nat) => j ((0 : Nat) + i)).size = u ∧
 ∀ (i : Nat),
 i < u →
 AV.sc (.int .u8 (j ((0 : Nat) + i))) =
 .sc (.int .u8 (↑(byteAt (strOf u fun (i : Nat) => j ((0 : Nat) + i)) i).toNat : Int))) ∧
 True ∧
 True ∧
 ((True ∧
 SubS (.ip true (.cons 1 (.vec true 1 y y fun (i0 : Nat) => .sc (.int .u8 (H i0))) (.cons 256 (.ar 256 (1 : Nat) fun (i0 : Nat) => .sc (.int .i64 (w i0))) (.cons 1 (.vec true 1 d d fun (i0 : Nat) => .vec true 1 (a i0) (a i0) fun (i1 : Nat) => .sc (.int .i64 (e i0 i1))) (.cons 1 (.vec true 1 b b fun (i0 : Nat) => .sc (.int .i64 (f i0))) (.cons 1 (.sc (.int .i64 g)) .nil)))))) ∧
 True ∧
 SubS (.rf 1000 1 0 B) ∧
 True ∧
 SubS (.sc (.int .i64 m)) ∧
 True ∧
 SubS (AV.mp (1001 : Nat)) ∧
 True ∧
 SubS (.rf 1002 1 0 o) ∧
 True ∧
 SubS (.sc (.int .i64 s)) ∧
 True ∧
 SubS (.sc (.int .i64 (↑q : Int))) ∧
 True ∧
 SubS (.vec true 1 l l fun (i0 : Nat) => .vec true 1 (c i0) (c i0) fun (i1 : Nat) => .sc (.int .i64 (p i0 i1))) ∧
 True ∧
 SubS (.sc (.int .i64 F)) ∧
 True ∧
 SubS (.sc (.int .i64 G)) ∧
 True) ∧
 True ∧
 SubBS (.ar A (1 : Nat) fun (i0 : Nat) => .sc (.int .i64 (z i0))) ∧
 (((bif (k (.string (strOf u fun (i : Nat) => j ((0 : Nat) + i)))).isSome then q
 else q + (1 : Nat)) =
 bif (k (.string (strOf u fun (i : Nat) => j ((0 : Nat) + i)))).isSome then q
 else q + (1 : Nat)) ∧
 ((bif (k (.string (strOf u fun (i : Nat) => j ((0 : Nat) + i)))).isSome then v
 else v + (1 : Nat)) =
 bif (k (.string (strOf u fun (i : Nat) => j ((0 : Nat) + i)))).isSome then v
 else v + (1 : Nat)) ∧
 MapEq (putM k v (.string (strOf u fun (i : Nat) => j ((0 : Nat) + i))) (↑q : Int))
 (putM k v (.string (strOf u fun (i : Nat) => j ((0 : Nat) + i))) (↑q : Int))) ∧
 True ∧
 SubBS (.ar E (1 : Nat) fun (i0 : Nat) => .sc (.int .i64 (D i0))) ∧
 True) ∧
 L43_5 y H w d a e b f g B m o s (↑q : Int) l c p
 F G A z
 (bif (k (.string (strOf u fun (i : Nat) => j ((0 : Nat) + i)))).isSome then q
 else q + (1 : Nat))
 (bif (k (.string (strOf u fun (i : Nat) => j ((0 : Nat) + i)))).isSome then v
 else v + (1 : Nat))
 (putM k v (.string (strOf u fun (i : Nat) => j ((0 : Nat) + i))) (↑q : Int)) E D K) ∧
 ((!(k (.string (strOf u fun (i : Nat) => j ((0 : Nat) + i)))).isSome) = false →
 ((True ∧
 SubS (.ip true (.cons 1 (.vec true 1 y y fun (i0 : Nat) => .sc (.int .u8 (H i0))) (.cons 256 (.ar 256 (1 : Nat) fun (i0 : Nat) => .sc (.int .i64 (w i0))) (.cons 1 (.vec true 1 d d fun (i0 : Nat) => .vec true 1 (a i0) (a i0) fun (i1 : Nat) => .sc (.int .i64 (e i0 i1))) (.cons 1 (.vec true 1 b b fun (i0 : Nat) => .sc (.int .i64 (f i0))) (.cons 1 (.sc (.int .i64 g)) .nil)))))) ∧
 True ∧
 SubS (.rf 1000 1 0 B) ∧
 True ∧
 SubS (.sc (.int .i64 m)) ∧
 True ∧
 SubS (AV.mp (1001 : Nat)) ∧
 True ∧
 SubS (.rf 1002 1 0 o) ∧
 True ∧
 SubS (.sc (.int .i64 s)) ∧
 True ∧
 SubS (.sc (.int IntKind.i64 ((Option.map (fun (x : Int × Nat) => x.1) (k (.string (strOf u fun (i : Nat) => j ((0 : Nat) + i))))).getD (0 : Int)))) ∧
 True ∧
 SubS (.vec true 1 l l fun (i0 : Nat) => .vec true 1 (c i0) (c i0) fun (i1 : Nat) => .sc (.int .i64 (p i0 i1))) ∧
 True ∧
 SubS (.sc (.int .i64 F)) ∧
 True ∧
 SubS (.sc (.int .i64 G)) ∧ True) ∧
 True ∧
 SubBS (.ar A (1 : Nat) fun (i0 : Nat) => .sc (.int .i64 (z i0))) ∧
 (q = q ∧ v = v ∧ MapEq k k) ∧
 True ∧
 SubBS (.ar E (1 : Nat) fun (i0 : Nat) => .sc (.int .i64 (D i0))) ∧
 True) ∧
 L43_5 y H w d a e b f g B m o s
 ((Option.map (fun (x : Int × Nat) => x.1) (k (.string (strOf u fun (i : Nat) => j ((0 : Nat) + i))))).getD
 (0 : Int))
 l c p F G A z q v k E D K)) from
 ⟨trivial, (And.elim (fun h1 k1 => ⟨(fun x2 => (fun h2 => (And.elim (fun h3 k3 => ⟨(And.elim (fun h4 k4 => ⟨h4, k4⟩) h3), ⟨trivial, ⟨trivial, ⟨trivial, ⟨trivial, ⟨trivial, (And.elim (fun h9 k9 => ⟨(fun x10 => (fun h10 => ⟨trivial, ⟨trivial, (And.elim (fun h13 k13 => ⟨(And.elim (fun h14 k14 => ⟨h14, k14⟩) h13), (And.elim (fun h14 k14 => ⟨⟨rfl, ((fun h16 => ⟨h16, trivial⟩) h14)⟩, ⟨trivial, ⟨⟨⟨trivial, ⟨Sub.refl _, ⟨trivial, ⟨Sub.refl _, ⟨trivial, ⟨Sub.refl _, ⟨trivial, ⟨Sub.refl _, ⟨trivial, ⟨Sub.refl _, ⟨trivial, ⟨Sub.refl _, ⟨trivial, ⟨Sub.refl _, ⟨trivial, ⟨Sub.refl _, ⟨trivial, ⟨Sub.refl _, ⟨trivial, ⟨Sub.refl _, ⟨trivial, ⟨Sub.refl _, ⟨trivial, ⟨Sub.refl _, ⟨trivial, ⟨Sub.refl _, ⟨trivial, ⟨Sub.refl _, trivial⟩⟩⟩⟩⟩⟩⟩⟩⟩⟩⟩⟩⟩⟩⟩⟩⟩⟩⟩⟩⟩⟩⟩⟩⟩⟩⟩⟩, ⟨trivial, ⟨SubB.refl _, ⟨⟨rfl, ⟨rfl, (MapEq.refl _)⟩⟩, ⟨trivial, ⟨SubB.refl _, ⟨trivial, ⟨SubB.refl _, trivial⟩⟩⟩⟩⟩⟩⟩⟩, k14⟩⟩⟩) k13)⟩) h10)⟩⟩) (h9 x10)), (fun x10 => (fun h10 => ⟨⟨⟨trivial, ⟨Sub.refl _, ⟨trivial, ⟨Sub.refl _, ⟨trivial, ⟨Sub.refl _, ⟨trivial, ⟨Sub.refl _, ⟨trivial, ⟨Sub.refl _, ⟨trivial, ⟨Sub.refl _, ⟨trivial, ⟨Sub.refl _, ⟨trivial, ⟨Sub.refl _, ⟨trivial, ⟨Sub.refl _, ⟨trivial, ⟨Sub.refl _, ⟨trivial, ⟨Sub.refl _, ⟨trivial, ⟨Sub.refl _, ⟨trivial, ⟨Sub.refl _, ⟨trivial, ⟨Sub.refl _, trivial⟩⟩⟩⟩⟩⟩⟩⟩⟩⟩⟩⟩⟩⟩⟩⟩⟩⟩⟩⟩⟩⟩⟩⟩⟩⟩⟩⟩, ⟨trivial, ⟨SubB.refl _, ⟨⟨rfl, ⟨rfl, (MapEq.refl _)⟩⟩, ⟨trivial, ⟨SubB.refl _, ⟨trivial, ⟨SubB.refl _, trivial⟩⟩⟩⟩⟩⟩⟩⟩, h10⟩) (k9 x10))⟩) k3)⟩⟩⟩⟩⟩⟩) h2)) (h1 x2)), (fun x2 => (fun h2 => ⟨trivial, ⟨trivial, (And.elim (fun h5 k5 => ⟨(And.elim (fun h6 k6 => ⟨((fun h7 => ⟨h7, rfl⟩) h6), (And.elim (fun h7 k7 => ⟨h7, (fun x8 => (fun h8 => (fun x9 => (fun h9 => h9) (h8 x9))) (k7 x8))⟩) k6)⟩) h5), ⟨trivial, ⟨trivial, ⟨trivial, ⟨trivial, ⟨trivial, ⟨trivial, ⟨trivial, ⟨trivial, (And.elim (fun h14 k14 => ⟨(fun x15 => (fun h15 => ⟨trivial, ⟨trivial, ⟨trivial, ⟨trivial, ⟨trivial, ⟨(And.elim (fun h22 k22 => ⟨((fun h23 => ⟨h23, rfl⟩) h22), (And.elim (fun h23 k23 => ⟨h23, (fun x24 => (fun h24 => (fun x25 => (fun h25 => h25) (h24 x25))) (k23 x24))⟩) k22)⟩) h5), ⟨trivial, ⟨trivial, ⟨⟨⟨trivial, ⟨Sub.refl _, ⟨trivial, ⟨Sub.refl _, ⟨trivial, ⟨Sub.refl _, ⟨trivial, ⟨Sub.refl _, ⟨trivial, ⟨Sub.refl _, ⟨trivial, ⟨Sub.refl _, ⟨trivial, ⟨Sub.refl _, ⟨trivial, ⟨Sub.refl _, ⟨trivial, ⟨Sub.refl _, ⟨trivial, ⟨Sub.refl _, trivial⟩⟩⟩⟩⟩⟩⟩⟩⟩⟩⟩⟩⟩⟩⟩⟩⟩⟩⟩⟩, ⟨trivial, ⟨SubB.refl _, ⟨⟨rfl, ⟨rfl, (MapEq.refl _)⟩⟩, ⟨trivial, ⟨SubB.refl _, trivial⟩⟩⟩⟩⟩⟩, h15⟩⟩⟩⟩⟩⟩⟩⟩⟩) (h14 x15)), (fun x15 => (fun h15 => ⟨⟨⟨trivial, ⟨Sub.refl _, ⟨trivial, ⟨Sub.refl _, ⟨trivial, ⟨Sub.refl _, ⟨trivial, ⟨Sub.refl _, ⟨trivial, ⟨Sub.refl _, ⟨trivial, ⟨Sub.refl _, ⟨trivial, ⟨Sub.refl _, ⟨trivial, ⟨Sub.refl _, ⟨trivial, ⟨Sub.refl _, ⟨trivial, ⟨Sub.refl _, trivial⟩⟩⟩⟩⟩⟩⟩⟩⟩⟩⟩⟩⟩⟩⟩⟩⟩⟩⟩⟩, ⟨trivial, ⟨SubB.refl _, ⟨⟨rfl, ⟨rfl, (MapEq.refl _)⟩⟩, ⟨trivial, ⟨SubB.refl _, trivial⟩⟩⟩⟩⟩⟩, h15⟩) (k14 x15))⟩) k5)⟩⟩⟩⟩⟩⟩⟩⟩⟩) h2)⟩⟩) (k1 x2))⟩) h)⟩)
theorem r43_3 (t : Nat) (G q : Nat → Int) (f : Nat) (a : Nat → Nat) (e : Nat → Nat → Int) (c : Nat) (g : Nat → Int) (j : Int) (B : Nat) (k : Int) (l : Nat) (s : Int) (K : Nat) (b : Int) (n : Nat) (d : Nat → Nat) (m : Nat → Nat → Int) (C D : Int) (o : Nat) (p : Nat → Int) (E F : Int) (v : Nat) (u : Nat → Int) (y w : Nat) (x : MapF) (A : Nat) (z : Nat → Int) (I : Nat) (H : Nat → Int) (J : AV)
 (h : ∃ (r : Nat × Nat × (Nat → Int)),
 Ok Proofs.Try.prog (78 : Nat) [.rf 2000 1 0 K, .sc (.int .i64 b)]
 [((2000 : Nat), (5 : Nat), .ar I (1 : Nat) fun (i : Nat) => .sc (.int .u8 (H i)))] (.rf 1000 1 0 r.1)
 [((1000 : Nat), (5 : Nat), .ar r.2.1 (1 : Nat) fun (i0 : Nat) => .sc (.int .u8 (r.2.2 i0)))] ∧
 L43_4 t G q f a e c g j B k l s r.1 n d m C D o p E F v u y w x A z
 r.2.1 r.2.2 J) :
 L43_3 t G q f a e c g j B k l s K b n d m C D o p E F v u y w x A z I H J :=
 rule Go.Am.Seat.tabOk 43 [] Go.Proofs.Try.f43 hf43 [1, 1, 1, 0, 0, 0, 1, 1, 0, 1, 0, 0, 1, 1, 0, 0, 1, 1, 0, 1, 0, 0, 1, 1, 0, 0, 1, 1, 1] (s43_3 t G q f a e c g j B k l s K b n d m C D o p E F v u y w x A z I H) (m43_3 t G q f a e c g j B k l s K b n d m C D o p E F v u y w x A z I H) J [] 400
 (Orc.call [((1003 : Nat), (2000 : Nat))] [((100620 : Nat), (1000 : Nat))] (fun (r78 : Nat × Nat × (Nat → Int)) => .rf 1000 1 0 r78.1)
 (fun (r78 : Nat × Nat × (Nat → Int)) =>
 [((1000 : Nat), (5 : Nat), .ar r78.2.1 (1 : Nat) fun (i0 : Nat) => .sc (.int .u8 (r78.2.2 i0)))])
 fun (r78 : Nat × Nat × (Nat → Int)) =>
 Orc.cut (nat_lit 1)
 (s43_4 t G q f a e c g j B k l s r78.1 n d m C D o p E F v u y w x A
 z r78.2.1 r78.2.2)
 (m43_4 t G q f a e c g j B k l s r78.1 n d m C D o p E F v u y w x A
 z r78.2.1 r78.2.2)
 [((1000 : Nat), some (1000 : Nat)), ((1001 : Nat), some (1001 : Nat)), ((1002 : Nat), some (1002 : Nat)), ((1003 : Nat), some (100620 : Nat))]) _ _ (by kernel_rfl) (by kernel_rfl) (show True ∧
 True ∧
 ∃ (r : Nat × Nat × (Nat → Int)),
 ((True ∧ True ∧ True) ∧
 (True ∧ True) ∧
 Ok Proofs.Try.prog (78 : Nat) [.rf 2000 1 0 K, .sc (.int .i64 b)]
 [((2000 : Nat), (5 : Nat), .ar I (1 : Nat) fun (i : Nat) => .sc (.int .u8 (H i)))]
 (.rf 1000 1 0 r.1)
 [((1000 : Nat), (5 : Nat), .ar r.2.1 (1 : Nat) fun (i0 : Nat) => .sc (.int .u8 (r.2.2 i0)))]) ∧
 True ∧
 ((True ∧
 SubS (.ip true (.cons 1 (.vec true 1 t t fun (i0 : Nat) => .sc (.int .u8 (G i0))) (.cons 256 (.ar 256 (1 : Nat) fun (i0 : Nat) => .sc (.int .i64 (q i0))) (.cons 1 (.vec true 1 f f fun (i0 : Nat) => .vec true 1 (a i0) (a i0) fun (i1 : Nat) => .sc (.int .i64 (e i0 i1))) (.cons 1 (.vec true 1 c c fun (i0 : Nat) => .sc (.int .i64 (g i0))) (.cons 1 (.sc (.int .i64 j)) .nil)))))) ∧
 True ∧
 SubS (.rf 1000 1 0 B) ∧
 True ∧
 SubS (.sc (.int .i64 k)) ∧
 True ∧
 SubS (AV.mp (1001 : Nat)) ∧
 True ∧
 SubS (.rf 1002 1 0 l) ∧
 True ∧
 SubS (.sc (.int .i64 s)) ∧
 True ∧
 SubS (.rf 1003 1 0 r.1) ∧
 True ∧
 SubS (.vec true 1 n n fun (i0 : Nat) => .vec true 1 (d i0) (d i0) fun (i1 : Nat) => .sc (.int .i64 (m i0 i1))) ∧
 True ∧
 SubS (.sc (.int .i64 C)) ∧
 True ∧
 SubS (.sc (.int .i64 D)) ∧
 True ∧
 SubS (.vec true 1 o o fun (i0 : Nat) => .sc (.int .i64 (p i0))) ∧
 True ∧
 SubS (.sc (.int .i64 E)) ∧
 True ∧ SubS (.sc (.int .i64 F)) ∧ True) ∧
 True ∧
 SubBS (.ar v (1 : Nat) fun (i0 : Nat) => .sc (.int .i64 (u i0))) ∧
 (y = y ∧ w = w ∧ MapEq x x) ∧
 True ∧
 SubBS (.ar A (1 : Nat) fun (i0 : Nat) => .sc (.int .i64 (z i0))) ∧
 True ∧
 SubBS (.ar r.2.1 (1 : Nat) fun (i0 : Nat) => .sc (.int .u8 (r.2.2 i0))) ∧
 True) ∧
 L43_4 t G q f a e c g j B k l s r.1 n d m C D o p E F v u y w x
 A z r.2.1 r.2.2 J from
 ⟨trivial, ⟨trivial, (Exists.elim h fun x2 h2 => ⟨x2, (And.elim (fun h3 k3 => ⟨⟨⟨trivial, ⟨trivial, trivial⟩⟩, ⟨⟨trivial, trivial⟩, h3⟩⟩, ⟨trivial, ⟨⟨⟨trivial, ⟨Sub.refl _, ⟨trivial, ⟨Sub.refl _, ⟨trivial, ⟨Sub.refl _, ⟨trivial, ⟨Sub.refl _, ⟨trivial, ⟨Sub.refl _, ⟨trivial, ⟨Sub.refl _, ⟨trivial, ⟨Sub.refl _, ⟨trivial, ⟨Sub.refl _, ⟨trivial, ⟨Sub.refl _, ⟨trivial, ⟨Sub.refl _, ⟨trivial, ⟨Sub.refl _, ⟨trivial, ⟨Sub.refl _, ⟨trivial, ⟨Sub.refl _, trivial⟩⟩⟩⟩⟩⟩⟩⟩⟩⟩⟩⟩⟩⟩⟩⟩⟩⟩⟩⟩⟩⟩⟩⟩⟩⟩, ⟨trivial, ⟨SubB.refl _, ⟨⟨rfl, ⟨rfl, (MapEq.refl _)⟩⟩, ⟨trivial, ⟨SubB.refl _, ⟨trivial, ⟨SubB.refl _, trivial⟩⟩⟩⟩⟩⟩⟩⟩, k3⟩⟩⟩) h2)⟩)⟩⟩)
theorem r43_4 (p : Nat) (F o : Nat → Int) (e : Nat) (a : Nat → Nat) (d : Nat → Nat → Int) (b : Nat) (f : Nat → Int) (g : Int) (A : Nat) (i : Int) (j : Nat) (s : Int) (G l : Nat) (c : Nat → Nat) (k : Nat → Nat → Int) (B C : Int) (m : Nat) (n : Nat → Int) (D E : Int) (r : Nat) (q : Nat → Int) (v t : Nat) (u : MapF) (x : Nat) (w : Nat → Int) (z : Nat) (y : Nat → Int) (H : AV)
 (h : L43_2 p F o e a d b f g A i j s G l c k B C m n D (IntKind.i64.wrap (E + (1 : Int))) r
 q v t u x w z y H) :
 L43_4 p F o e a d b f g A i j s G l c k B C m n D E r q v t u x w z y H :=
 rule Go.Am.Seat.tabOk 43 [] Go.Proofs.Try.f43 hf43 [1, 1, 1, 0, 0, 0, 1, 1, 0, 1, 0, 0, 1, 1, 0, 0, 1, 1, 0, 1, 0, 0, 1, 1, 1] (s43_4 p F o e a d b f g A i j s G l c k B C m n D E r q v t u x w z y) (m43_4 p F o e a d b f g A i j s G l c k B C m n D E r q v t u x w z y) H [] 400
 (Orc.cut (nat_lit 2)
 (s43_2 p F o e a d b f g A i j s G l c k B C m n D (IntKind.i64.wrap (E + (1 : Int)))
 r q v t u x w z y)
 (m43_2 p F o e a d b f g A i j s G l c k B C m n D (IntKind.i64.wrap (E + (1 : Int)))
 r q v t u x w z y)
 [((1000 : Nat), some (1000 : Nat)), ((1001 : Nat), some (1001 : Nat)), ((1002 : Nat), some (1002 : Nat)), ((1003 : Nat), some (1003 : Nat))]) _ _ (by kernel_rfl) (by kernel_rfl) (show True ∧
 True ∧
 ((True ∧
 SubS (.ip true (.cons 1 (.vec true 1 p p fun (i0 : Nat) => .sc (.int .u8 (F i0))) (.cons 256 (.ar 256 (1 : Nat) fun (i0 : Nat) => .sc (.int .i64 (o i0))) (.cons 1 (.vec true 1 e e fun (i0 : Nat) => .vec true 1 (a i0) (a i0) fun (i1 : Nat) => .sc (.int .i64 (d i0 i1))) (.cons 1 (.vec true 1 b b fun (i0 : Nat) => .sc (.int .i64 (f i0))) (.cons 1 (.sc (.int .i64 g)) .nil)))))) ∧
 True ∧
 SubS (.rf 1000 1 0 A) ∧
 True ∧
 SubS (.sc (.int .i64 i)) ∧
 True ∧
 SubS (AV.mp (1001 : Nat)) ∧
 True ∧
 SubS (.rf 1002 1 0 j) ∧
 True ∧
 SubS (.sc (.int .i64 s)) ∧
 True ∧
 SubS (.rf 1003 1 0 G) ∧
 True ∧
 SubS (.vec true 1 l l fun (i0 : Nat) => .vec true 1 (c i0) (c i0) fun (i1 : Nat) => .sc (.int .i64 (k i0 i1))) ∧
 True ∧
 SubS (.sc (.int .i64 B)) ∧
 True ∧
 SubS (.sc (.int .i64 C)) ∧
 True ∧
 SubS (.vec true 1 m m fun (i0 : Nat) => .sc (.int .i64 (n i0))) ∧
 True ∧
 SubS (.sc (.int .i64 D)) ∧
 True ∧
 SubS (.sc (.int .i64 (IntKind.i64.wrap (E + (1 : Int))))) ∧
 True) ∧
 True ∧
 SubBS (.ar r (1 : Nat) fun (i0 : Nat) => .sc (.int .i64 (q i0))) ∧
 (v = v ∧ t = t ∧ MapEq u u) ∧
 True ∧
 SubBS (.ar x (1 : Nat) fun (i0 : Nat) => .sc (.int .i64 (w i0))) ∧
 True ∧
 SubBS (.ar z (1 : Nat) fun (i0 : Nat) => .sc (.int .u8 (y i0))) ∧
 True) ∧
 L43_2 p F o e a d b f g A i j s G l c k B C m n D
 (IntKind.i64.wrap (E + (1 : Int))) r q v t u x w z y H from
 ⟨trivial, ⟨trivial, ⟨⟨⟨trivial, ⟨Sub.refl _, ⟨trivial, ⟨Sub.refl _, ⟨trivial, ⟨Sub.refl _, ⟨trivial, ⟨Sub.refl _, ⟨trivial, ⟨Sub.refl _, ⟨trivial, ⟨Sub.refl _, ⟨trivial, ⟨Sub.refl _, ⟨trivial, ⟨Sub.refl _, ⟨trivial, ⟨Sub.refl _, ⟨trivial, ⟨Sub.refl _, ⟨trivial, ⟨Sub.refl _, ⟨trivial, ⟨Sub.refl _, ⟨trivial, ⟨Sub.refl _, trivial⟩⟩⟩⟩⟩⟩⟩⟩⟩⟩⟩⟩⟩⟩⟩⟩⟩⟩⟩⟩⟩⟩⟩⟩⟩⟩, ⟨trivial, ⟨SubB.refl _, ⟨⟨rfl, ⟨rfl, (MapEq.refl _)⟩⟩, ⟨trivial, ⟨SubB.refl _, ⟨trivial, ⟨SubB.refl _, trivial⟩⟩⟩⟩⟩⟩⟩⟩, h⟩⟩⟩)
theorem r43_5 (q : Nat) (B o : Nat → Int) (f : Nat) (a : Nat → Nat) (e : Nat → Nat → Int) (b : Nat) (g : Nat → Int) (j : Int) (y : Nat) (k : Int) (c : Nat) (s n : Int) (m : Nat) (d : Nat → Nat) (l : Nat → Nat → Int) (z A : Int) (t : Nat) (r : Nat → Int) (w u : Nat) (v : MapF) (p : Nat) (x : Nat → Int) (C : AV)
 (h : ((0 : Int) ≤ s ∧ s < (↑c : Int)) ∧
 s.toNat < p ∧
 L43_6 q B o f a e b g j y k c m d l z A t r w u v p
 (fun (i : Nat) => bif i.beq s.toNat then n else x i) C) :
 L43_5 q B o f a e b g j y k c s n m d l z A t r w u v p x C :=
 rule Go.Am.Seat.tabOk 43 [] Go.Proofs.Try.f43 hf43 [1, 1, 1, 0, 0, 0, 1, 1, 0, 1, 0, 0, 1, 1, 0, 0, 1, 1, 1, 1, 1] (s43_5 q B o f a e b g j y k c s n m d l z A t r w u v p x) (m43_5 q B o f a e b g j y k c s n m d l z A t r w u v p x) C [] 400
 (Orc.cut (nat_lit 2)
 (s43_6 q B o f a e b g j y k c m d l z A t r w u v p fun (i : Nat) =>
 bif i.beq (plus (0 : Nat) s.toNat) then n else x i)
 (m43_6 q B o f a e b g j y k c m d l z A t r w u v p fun (i : Nat) =>
 bif i.beq (plus (0 : Nat) s.toNat) then n else x i)
 [((1000 : Nat), some (1000 : Nat)), ((1001 : Nat), some (1001 : Nat)), ((1002 : Nat), some (1002 : Nat))]) _ _ (by kernel_rfl) (by kernel_rfl) (show True ∧
 True ∧
 True ∧
 ((0 : Int) ≤ s ∧ s < (↑c : Int)) ∧
 (s.toNat * (1 : Nat) + (0 : Nat) = s.toNat * (1 : Nat) ∧ (s.toNat < p ∧ True) ∧ True) ∧
 ((True ∧
 SubS (.ip true (.cons 1 (.vec true 1 q q fun (i0 : Nat) => .sc (.int .u8 (B i0))) (.cons 256 (.ar 256 (1 : Nat) fun (i0 : Nat) => .sc (.int .i64 (o i0))) (.cons 1 (.vec true 1 f f fun (i0 : Nat) => .vec true 1 (a i0) (a i0) fun (i1 : Nat) => .sc (.int .i64 (e i0 i1))) (.cons 1 (.vec true 1 b b fun (i0 : Nat) => .sc (.int .i64 (g i0))) (.cons 1 (.sc (.int .i64 j)) .nil)))))) ∧
 True ∧
 SubS (.rf 1000 1 0 y) ∧
 True ∧
 SubS (.sc (.int .i64 k)) ∧
 True ∧
 SubS (AV.mp (1001 : Nat)) ∧
 True ∧
 SubS (.rf 1002 1 0 c) ∧
 True ∧
 SubS (.vec true 1 m m fun (i0 : Nat) => .vec true 1 (d i0) (d i0) fun (i1 : Nat) => .sc (.int .i64 (l i0 i1))) ∧
 True ∧
 SubS (.sc (.int .i64 z)) ∧
 True ∧ SubS (.sc (.int .i64 A)) ∧ True) ∧
 True ∧
 SubBS (.ar t (1 : Nat) fun (i0 : Nat) => .sc (.int .i64 (r i0))) ∧
 (w = w ∧ u = u ∧ MapEq v v) ∧
 True ∧
 SubBS (.ar p (1 : Nat) fun (i : Nat) => .sc (.int .i64 (bif i.beq s.toNat then n else x i))) ∧
 True) ∧
 L43_6 q B o f a e b g j y k c m d l z A t r w u v p
 (fun (i : Nat) => bif i.beq s.toNat then n else x i) C from
 ⟨trivial, ⟨trivial, ⟨trivial, (And.elim (fun h3 k3 => ⟨(And.elim (fun h4 k4 => ⟨h4, k4⟩) h3), (And.elim (fun h4 k4 => ⟨⟨rfl, ((fun h6 => ⟨((fun h7 => ⟨h7, trivial⟩) h6), trivial⟩) h4)⟩, ⟨⟨⟨trivial, ⟨Sub.refl _, ⟨trivial, ⟨Sub.refl _, ⟨trivial, ⟨Sub.refl _, ⟨trivial, ⟨Sub.refl _, ⟨trivial, ⟨Sub.refl _, ⟨trivial, ⟨Sub.refl _, ⟨trivial, ⟨Sub.refl _, ⟨trivial, ⟨Sub.refl _, trivial⟩⟩⟩⟩⟩⟩⟩⟩⟩⟩⟩⟩⟩⟩⟩⟩, ⟨trivial, ⟨SubB.refl _, ⟨⟨rfl, ⟨rfl, (MapEq.refl _)⟩⟩, ⟨trivial, ⟨SubB.refl _, trivial⟩⟩⟩⟩⟩⟩, k4⟩⟩) k3)⟩) h)⟩⟩⟩)
theorem r43_6 (n : Nat) (y m : Nat → Int) (e : Nat) (a : Nat → Nat) (d : Nat → Nat → Int) (b : Nat) (f : Nat → Int) (g : Int) (v : Nat) (i : Int) (j l : Nat) (c : Nat → Nat) (k : Nat → Nat → Int) (w x : Int) (p : Nat) (o : Nat → Int) (s q : Nat) (r : MapF) (u : Nat) (t : Nat → Int) (z : AV)
 (h : L43_1 n y m e a d b f g v i j l c k w (IntKind.i64.wrap (x + (1 : Int))) p o s q r u
 t z) :
 L43_6 n y m e a d b f g v i j l c k w x p o s q r u t z :=
 rule Go.Am.Seat.tabOk 43 [] Go.Proofs.Try.f43 hf43 [1, 1, 1, 0, 0, 0, 1, 1, 0, 1, 0, 0, 1, 1, 1] (s43_6 n y m e a d b f g v i j l c k w x p o s q r u t) (m43_6 n y m e a d b f g v i j l c k w x p o s q r u t) z [] 400
 (Orc.cut (nat_lit 2)
 (s43_1 n y m e a d b f g v i j l c k w (IntKind.i64.wrap (x + (1 : Int))) p o s q r u
 t)
 (m43_1 n y m e a d b f g v i j l c k w (IntKind.i64.wrap (x + (1 : Int))) p o s q r u
 t)
 [((1000 : Nat), some (1000 : Nat)), ((1001 : Nat), some (1001 : Nat)), ((1002 : Nat), some (1002 : Nat))]) _ _ (by kernel_rfl) (by kernel_rfl) (show True ∧
 True ∧
 ((True ∧
 SubS (.ip true (.cons 1 (.vec true 1 n n fun (i0 : Nat) => .sc (.int .u8 (y i0))) (.cons 256 (.ar 256 (1 : Nat) fun (i0 : Nat) => .sc (.int .i64 (m i0))) (.cons 1 (.vec true 1 e e fun (i0 : Nat) => .vec true 1 (a i0) (a i0) fun (i1 : Nat) => .sc (.int .i64 (d i0 i1))) (.cons 1 (.vec true 1 b b fun (i0 : Nat) => .sc (.int .i64 (f i0))) (.cons 1 (.sc (.int .i64 g)) .nil)))))) ∧
 True ∧
 SubS (.rf 1000 1 0 v) ∧
 True ∧
 SubS (.sc (.int .i64 i)) ∧
 True ∧
 SubS (AV.mp (1001 : Nat)) ∧
 True ∧
 SubS (.rf 1002 1 0 j) ∧
 True ∧
 SubS (.vec true 1 l l fun (i0 : Nat) => .vec true 1 (c i0) (c i0) fun (i1 : Nat) => .sc (.int .i64 (k i0 i1))) ∧
 True ∧
 SubS (.sc (.int .i64 w)) ∧
 True ∧
 SubS (.sc (.int .i64 (IntKind.i64.wrap (x + (1 : Int))))) ∧
 True) ∧
 True ∧
 SubBS (.ar p (1 : Nat) fun (i0 : Nat) => .sc (.int .i64 (o i0))) ∧
 (s = s ∧ q = q ∧ MapEq r r) ∧
 True ∧
 SubBS (.ar u (1 : Nat) fun (i0 : Nat) => .sc (.int .i64 (t i0))) ∧
 True) ∧
 L43_1 n y m e a d b f g v i j l c k w (IntKind.i64.wrap (x + (1 : Int))) p o s q r
 u t z from
 ⟨trivial, ⟨trivial, ⟨⟨⟨trivial, ⟨Sub.refl _, ⟨trivial, ⟨Sub.refl _, ⟨trivial, ⟨Sub.refl _, ⟨trivial, ⟨Sub.refl _, ⟨trivial, ⟨Sub.refl _, ⟨trivial, ⟨Sub.refl _, ⟨trivial, ⟨Sub.refl _, ⟨trivial, ⟨Sub.refl _, trivial⟩⟩⟩⟩⟩⟩⟩⟩⟩⟩⟩⟩⟩⟩⟩⟩, ⟨trivial, ⟨SubB.refl _, ⟨⟨rfl, ⟨rfl, (MapEq.refl _)⟩⟩, ⟨trivial, ⟨SubB.refl _, trivial⟩⟩⟩⟩⟩⟩, h⟩⟩⟩)
theorem hf44 : Go.Proofs.Try.prog.funcs[44]? = some Go.Proofs.Try.f44 := by kernel_rfl
abbrev s44_e (q : Int) (m : Nat → Int) (e : Nat) (b : Nat → Nat) (h : Nat → Nat → Int) (c : Nat) (i : Nat → Int) (a : Nat) (g : Nat → Int) (f : Nat) (d : Nat → Nat) (j : Nat → Nat → Int) (n : Int) (l : Nat → Int) (k p : Nat) (o : Nat → Int) : List (Nat × AV) := [(0, (.pt 2000 [] 0)), (1, (.cons 1 (.sc (.int .i64 q)) (.cons 256 (.ar 256 1 (fun i0 => (.sc (.int .u8 (m i0))))) (.cons 1 (.vec true 1 e e (fun i0 => (.vec true 1 (b i0) (b i0) (fun i1 => (.sc (.int .i64 (h i0 i1))))))) (.cons 1 (.vec true 1 c c (fun i0 => (.sc (.int .i64 (i i0))))) .nil))))), (2, (.vec true 1 a a (fun i0 => (.sc (.int .u8 (g i0)))))), (3, (.vec true 1 f f (fun i0 => (.vec true 1 (d i0) (d i0) (fun i1 => (.sc (.int .i64 (j i0 i1))))))))]
abbrev m44_e (q : Int) (p : Nat → Int) (n : Nat) (i : Nat → Nat) (h : Nat → Nat → Int) (k : Nat) (j : Nat → Int) (g : Nat) (f : Nat → Int) (o : Nat) (m : Nat → Nat) (l : Nat → Nat → Int) (c : Int) (b : Nat → Int) (a e : Nat) (d : Nat → Int) : List (Nat × Nat × AV) := [(2000, 26, (.cons 1 (.sc (.int .i64 c)) (.cons 256 (.ar 256 1 (fun i0 => (.sc (.int .u8 (b i0))))) (.cons 1 (.sc (.slice none 0 0)) (.cons 1 (.rf 2001 1 0 a) .nil))))), (2001, 3, (.ar e 1 (fun i0 => (.sc (.int .i64 (d i0))))))]
def L44_e (q : Int) (p : Nat → Int) (n : Nat) (i : Nat → Nat) (h : Nat → Nat → Int) (k : Nat) (j : Nat → Int) (g : Nat) (f : Nat → Int) (o : Nat) (m : Nat → Nat) (l : Nat → Nat → Int) (c : Int) (b : Nat → Int) (a e : Nat) (d : Nat → Int) (r : AV) (out : List (Nat × Nat × AV)) : Prop := Goes ⟨Go.Proofs.Try.prog, 44, [2000, 2001], r, out⟩ (place Go.Proofs.Try.f44 []) (s44_e q p n i h k j g f o m l c b a e d) (m44_e q p n i h k j g f o m l c b a e d)
abbrev s44_0 (b : Nat) (a : Nat → Nat) (d : Nat → Nat → Int) (c e : Nat) (h : Nat → Int) (q r m : Int) (g : Nat → Int) (f o : Nat) (n : Nat → Int) (t : Int) (s : Nat → Int) (p : Nat) (j : Nat → Nat) (i : Nat → Nat → Int) (l : Nat) (k : Nat → Int) (w u : Nat) (v : MapF) (x : Nat → Int) (z : Nat) (y : Nat → Int) : List (Nat × AV) := [(0, (.pt 2000 [] 0)), (3, (.vec true 1 b b (fun i0 => (.vec true 1 (a i0) (a i0) (fun i1 => (.sc (.int .i64 (d i0 i1)))))))), (5, (.pt 1001 [] 0)), (8, (.mp 1002)), (9, (.pt 1003 [] 0)), (10, (.rf 1004 1 0 c)), (25, (.vec true 1 e e (fun i0 => (.sc (.int .u8 (h i0)))))), (26, (.sc (.int .i64 q))), (27, (.sc (.int .i64 r)))]
abbrev m44_0 (v : Nat) (u : Nat → Nat) (t : Nat → Nat → Int) (s x : Nat) (w : Nat → Int) (y z h : Int) (e : Nat → Int) (c j : Nat) (i : Nat → Int) (l : Int) (k : Nat → Int) (d : Nat) (a : Nat → Nat) (f : Nat → Nat → Int) (b : Nat) (g : Nat → Int) (o m : Nat) (n : MapF) (p : Nat → Int) (r : Nat) (q : Nat → Int) : List (Nat × Nat × AV) := [(2000, 26, (.cons 1 (.sc (.int .i64 h)) (.cons 256 (.ar 256 1 (fun i0 => (.sc (.int .u8 (e i0))))) (.cons 1 (.sc (.slice none 0 0)) (.cons 1 (.rf 2001 1 0 c) .nil))))), (2001, 3, (.ar j 1 (fun i0 => (.sc (.int .i64 (i i0)))))), (1001, 26, (.cons 1 (.sc (.int .i64 l)) (.cons 256 (.ar 256 1 (fun i0 => (.sc (.int .u8 (k i0))))) (.cons 1 (.vec true 1 d d (fun i0 => (.vec true 1 (a i0) (a i0) (fun i1 => (.sc (.int .i64 (f i0 i1))))))) (.cons 1 (.vec true 1 b b (fun i0 => (.sc (.int .i64 (g i0))))) .nil))))), (1002, 145, (.mc 0 o m n)), (1003, 22, (.ar 256 1 (fun i0 => (.sc (.int .u8 (p i0)))))), (1004, 3, (.ar r 1 (fun i0 => (.sc (.int .i64 (q i0))))))]
def L44_0 (o : Nat) (m : Nat → Nat) (l : Nat → Nat → Int) (k q : Nat) (p : Nat → Int) (y z g : Int) (b : Nat → Int) (a i : Nat) (h : Nat → Int) (r : Int) (n : Nat → Int) (j : Nat) (d : Nat → Nat) (c : Nat → Nat → Int) (f : Nat) (e : Nat → Int) (u s : Nat) (t : MapF) (v : Nat → Int) (x : Nat) (w : Nat → Int) (A : AV) (out : List (Nat × Nat × AV)) : Prop := Goes ⟨Go.Proofs.Try.prog, 44, [2000, 2001], A, out⟩ (place Go.Proofs.Try.f44 [1, 1, 1, 1, 0, 1, 0, 0]) (s44_0 o m l k q p y z g b a i h r n j d c f e u s t v x w) (m44_0 o m l k q p y z g b a i h r n j d c f e u s t v x w)
abbrev s44_1 (c : Nat) (a : Nat → Nat) (f : Nat → Nat → Int) (e : Nat) (i b : Int) (A g : Nat) (m : Nat → Int) (v w : Int) (h : Nat) (d : Nat → Nat) (k : Nat → Nat → Int) (x y r : Int) (l : Nat → Int) (j t : Nat) (s : Nat → Int) (B : Int) (z : Nat → Int) (u : Nat) (o : Nat → Nat) (n : Nat → Nat → Int) (q : Nat) (p : Nat → Int) (E C : Nat) (D : MapF) (F : Nat → Int) (J : Nat) (I : Nat → Int) (H : Nat) (G : Nat → Int) : List (Nat × AV) := [(0, (.pt 2000 [] 0)), (3, (.vec true 1 c c (fun i0 => (.vec true 1 (a i0) (a i0) (fun i1 => (.sc (.int .i64 (f i0 i1)))))))), (5, (.pt 1001 [] 0)), (8, (.mp 1002)), (9, (.pt 1003 [] 0)), (10, (.rf 1004 1 0 e)), (11, (.sc (.int .i64 i))), (12, (.sc (.int .u8 b))), (13, (.rf 1005 1 0 A)), (25, (.vec true 1 g g (fun i0 => (.sc (.int .u8 (m i0)))))), (26, (.sc (.int .i64 v))), (27, (.sc (.int .i64 w))), (32, (.vec true 1 h h (fun i0 => (.vec true 1 (d i0) (d i0) (fun i1 => (.sc (.int .i64 (k i0 i1)))))))), (33, (.sc (.int .i64 x))), (34, (.sc (.int .i64 y)))]
abbrev m44_1 (z : Nat) (y : Nat → Nat) (x : Nat → Nat → Int) (w : Nat) (i b : Int) (J D : Nat) (C : Nat → Int) (F G : Int) (E : Nat) (B : Nat → Nat) (A : Nat → Nat → Int) (H I j : Int) (f : Nat → Int) (d l : Nat) (k : Nat → Int) (n : Int) (m : Nat → Int) (e : Nat) (a : Nat → Nat) (g : Nat → Nat → Int) (c : Nat) (h : Nat → Int) (q o : Nat) (p : MapF) (r : Nat → Int) (v : Nat) (u : Nat → Int) (t : Nat) (s : Nat → Int) : List (Nat × Nat × AV) := [(2000, 26, (.cons 1 (.sc (.int .i64 j)) (.cons 256 (.ar 256 1 (fun i0 => (.sc (.int .u8 (f i0))))) (.cons 1 (.sc (.slice none 0 0)) (.cons 1 (.rf 2001 1 0 d) .nil))))), (2001, 3, (.ar l 1 (fun i0 => (.sc (.int .i64 (k i0)))))), (1001, 26, (.cons 1 (.sc (.int .i64 n)) (.cons 256 (.ar 256 1 (fun i0 => (.sc (.int .u8 (m i0))))) (.cons 1 (.vec true 1 e e (fun i0 => (.vec true 1 (a i0) (a i0) (fun i1 => (.sc (.int .i64 (g i0 i1))))))) (.cons 1 (.vec true 1 c c (fun i0 => (.sc (.int .i64 (h i0))))) .nil))))), (1002, 145, (.mc 0 q o p)), (1003, 22, (.ar 256 1 (fun i0 => (.sc (.int .u8 (r i0)))))), (1005, 5, (.ar v 1 (fun i0 => (.sc (.int .u8 (u i0)))))), (1004, 3, (.ar t 1 (fun i0 => (.sc (.int .i64 (s i0))))))]
def L44_1 (q : Nat) (o : Nat → Nat) (n : Nat → Nat → Int) (m : Nat) (i b : Int) (J u : Nat) (t : Nat → Int) (F G : Int) (v : Nat) (s : Nat → Nat) (r : Nat → Nat → Int) (H I h : Int) (c : Nat → Int) (a k : Nat) (j : Nat → Int) (w : Int) (p : Nat → Int) (l : Nat) (e : Nat → Nat) (d : Nat → Nat → Int) (g : Nat) (f : Nat → Int) (z x : Nat) (y : MapF) (A : Nat → Int) (E : Nat) (D : Nat → Int) (C : Nat) (B : Nat → Int) (K : AV) (out : List (Nat × Nat × AV)) : Prop := Goes ⟨Go.Proofs.Try.prog, 44, [2000, 2001], K, out⟩ (place Go.Proofs.Try.f44 [1, 1, 1, 1, 0, 1, 0, 0, 1, 1, 0, 0, 1, 1, 0, 1, 0, 0]) (s44_1 q o n m i b J u t F G v s r H I h c a k j w p l e d g f z x y A E D C B) (m44_1 q o n m i b J u t F G v s r H I h c a k j w p l e d g f z x y A E D C B)
abbrev s44_2 (d : Nat) (a : Nat → Nat) (f : Nat → Nat → Int) (e : Nat) (b c : Int) (g : Nat) (j : Nat → Int) (s t o : Int) (i : Nat → Int) (h q : Nat) (p : Nat → Int) (v : Int) (u : Nat → Int) (r : Nat) (l : Nat → Nat) (k : Nat → Nat → Int) (n : Nat) (m : Nat → Int) (y w : Nat) (x : MapF) (z : Nat → Int) (B : Nat) (A : Nat → Int) : List (Nat × AV) := [(0, (.pt 2000 [] 0)), (3, (.vec true 1 d d (fun i0 => (.vec true 1 (a i0) (a i0) (fun i1 => (.sc (.int .i64 (f i0 i1)))))))), (5, (.pt 1001 [] 0)), (8, (.mp 1002)), (9, (.pt 1003 [] 0)), (10, (.rf 1004 1 0 e)), (12, (.sc (.int .u8 b))), (16, (.sc (.int .i64 c))), (25, (.vec true 1 g g (fun i0 => (.sc (.int .u8 (j i0)))))), (26, (.sc (.int .i64 s))), (27, (.sc (.int .i64 t)))]
abbrev m44_2 (x : Nat) (w : Nat → Nat) (v : Nat → Nat → Int) (u : Nat) (b c : Int) (z : Nat) (y : Nat → Int) (A B j : Int) (g : Nat → Int) (e l : Nat) (k : Nat → Int) (n : Int) (m : Nat → Int) (f : Nat) (a : Nat → Nat) (h : Nat → Nat → Int) (d : Nat) (i : Nat → Int) (q o : Nat) (p : MapF) (r : Nat → Int) (t : Nat) (s : Nat → Int) : List (Nat × Nat × AV) := [(2000, 26, (.cons 1 (.sc (.int .i64 j)) (.cons 256 (.ar 256 1 (fun i0 => (.sc (.int .u8 (g i0))))) (.cons 1 (.sc (.slice none 0 0)) (.cons 1 (.rf 2001 1 0 e) .nil))))), (2001, 3, (.ar l 1 (fun i0 => (.sc (.int .i64 (k i0)))))), (1001, 26, (.cons 1 (.sc (.int .i64 n)) (.cons 256 (.ar 256 1 (fun i0 => (.sc (.int .u8 (m i0))))) (.cons 1 (.vec true 1 f f (fun i0 => (.vec true 1 (a i0) (a i0) (fun i1 => (.sc (.int .i64 (h i0 i1))))))) (.cons 1 (.vec true 1 d d (fun i0 => (.sc (.int .i64 (i i0))))) .nil))))), (1002, 145, (.mc 0 q o p)), (1003, 22, (.ar 256 1 (fun i0 => (.sc (.int .u8 (r i0)))))), (1004, 3, (.ar t 1 (fun i0 => (.sc (.int .i64 (s i0))))))]
def L44_2 (q : Nat) (o : Nat → Nat) (n : Nat → Nat → Int) (m : Nat) (b c : Int) (s : Nat) (r : Nat → Int) (A B i : Int) (d : Nat → Int) (a k : Nat) (j : Nat → Int) (t : Int) (p : Nat → Int) (l : Nat) (f : Nat → Nat) (e : Nat → Nat → Int) (h : Nat) (g : Nat → Int) (w u : Nat) (v : MapF) (x : Nat → Int) (z : Nat) (y : Nat → Int) (C : AV) (out : List (Nat × Nat × AV)) : Prop := Goes ⟨Go.Proofs.Try.prog, 44, [2000, 2001], C, out⟩ (place Go.Proofs.Try.f44 [1, 1, 1, 1, 0, 1, 0, 0, 1, 1, 0, 0, 1, 1, 1, 1, 1]) (s44_2 q o n m b c s r A B i d a k j t p l f e h g w u v x z y) (m44_2 q o n m b c s r A B i d a k j t p l f e h g w u v x z y)
abbrev s44_3 (b : Nat) (a : Nat → Nat) (d : Nat → Nat → Int) (c e : Nat) (h : Nat → Int) (q r m : Int) (g : Nat → Int) (f o : Nat) (n : Nat → Int) (t : Int) (s : Nat → Int) (p : Nat) (j : Nat → Nat) (i : Nat → Nat → Int) (l : Nat) (k : Nat → Int) (w u : Nat) (v : MapF) (x : Nat → Int) (z : Nat) (y : Nat → Int) : List (Nat × AV) := [(0, (.pt 2000 [] 0)), (3, (.vec true 1 b b (fun i0 => (.vec true 1 (a i0) (a i0) (fun i1 => (.sc (.int .i64 (d i0 i1)))))))), (5, (.pt 1001 [] 0)), (8, (.mp 1002)), (9, (.pt 1003 [] 0)), (10, (.rf 1004 1 0 c)), (25, (.vec true 1 e e (fun i0 => (.sc (.int .u8 (h i0)))))), (26, (.sc (.int .i64 q))), (27, (.sc (.int .i64 r)))]
abbrev m44_3 (v : Nat) (u : Nat → Nat) (t : Nat → Nat → Int) (s x : Nat) (w : Nat → Int) (y z h : Int) (e : Nat → Int) (c j : Nat) (i : Nat → Int) (l : Int) (k : Nat → Int) (d : Nat) (a : Nat → Nat) (f : Nat → Nat → Int) (b : Nat) (g : Nat → Int) (o m : Nat) (n : MapF) (p : Nat → Int) (r : Nat) (q : Nat → Int) : List (Nat × Nat × AV) := [(2000, 26, (.cons 1 (.sc (.int .i64 h)) (.cons 256 (.ar 256 1 (fun i0 => (.sc (.int .u8 (e i0))))) (.cons 1 (.sc (.slice none 0 0)) (.cons 1 (.rf 2001 1 0 c) .nil))))), (2001, 3, (.ar j 1 (fun i0 => (.sc (.int .i64 (i i0)))))), (1001, 26, (.cons 1 (.sc (.int .i64 l)) (.cons 256 (.ar 256 1 (fun i0 => (.sc (.int .u8 (k i0))))) (.cons 1 (.vec true 1 d d (fun i0 => (.vec true 1 (a i0) (a i0) (fun i1 => (.sc (.int .i64 (f i0 i1))))))) (.cons 1 (.vec true 1 b b (fun i0 => (.sc (.int .i64 (g i0))))) .nil))))), (1002, 145, (.mc 0 o m n)), (1003, 22, (.ar 256 1 (fun i0 => (.sc (.int .u8 (p i0)))))), (1004, 3, (.ar r 1 (fun i0 => (.sc (.int .i64 (q i0))))))]
def L44_3 (o : Nat) (m : Nat → Nat) (l : Nat → Nat → Int) (k q : Nat) (p : Nat → Int) (y z g : Int) (b : Nat → Int) (a i : Nat) (h : Nat → Int) (r : Int) (n : Nat → Int) (j : Nat) (d : Nat → Nat) (c : Nat → Nat → Int) (f : Nat) (e : Nat → Int) (u s : Nat) (t : MapF) (v : Nat → Int) (x : Nat) (w : Nat → Int) (A : AV) (out : List (Nat × Nat × AV)) : Prop := Goes ⟨Go.Proofs.Try.prog, 44, [2000, 2001], A, out⟩ (place Go.Proofs.Try.f44 [1, 1, 1, 1, 0, 1, 0, 0, 1, 1, 1]) (s44_3 o m l k q p y z g b a i h r n j d c f e u s t v x w) (m44_3 o m l k q p y z g b a i h r n j d c f e u s t v x w)
abbrev s44_4 (b : Nat) (a : Nat → Nat) (d : Nat → Nat → Int) (c : Nat) (o k : Int) (f : Nat → Int) (e m : Nat) (l : Nat → Int) (q : Int) (p : Nat → Int) (n : Nat) (h : Nat → Nat) (g : Nat → Nat → Int) (j : Nat) (i r : Nat → Int) (t : Nat) (s : Nat → Int) : List (Nat × AV) := [(0, (.pt 2000 [] 0)), (3, (.vec true 1 b b (fun i0 => (.vec true 1 (a i0) (a i0) (fun i1 => (.sc (.int .i64 (d i0 i1)))))))), (5, (.pt 1001 [] 0)), (9, (.pt 1002 [] 0)), (10, (.rf 1003 1 0 c)), (72, (.sc (.int .i64 o)))]
abbrev m44_4 (s : Nat) (r : Nat → Nat) (q : Nat → Nat → Int) (p : Nat) (t h : Int) (e : Nat → Int) (c j : Nat) (i : Nat → Int) (l : Int) (k : Nat → Int) (d : Nat) (a : Nat → Nat) (f : Nat → Nat → Int) (b : Nat) (g m : Nat → Int) (o : Nat) (n : Nat → Int) : List (Nat × Nat × AV) := [(2000, 26, (.cons 1 (.sc (.int .i64 h)) (.cons 256 (.ar 256 1 (fun i0 => (.sc (.int .u8 (e i0))))) (.cons 1 (.sc (.slice none 0 0)) (.cons 1 (.rf 2001 1 0 c) .nil))))), (2001, 3, (.ar j 1 (fun i0 => (.sc (.int .i64 (i i0)))))), (1001, 26, (.cons 1 (.sc (.int .i64 l)) (.cons 256 (.ar 256 1 (fun i0 => (.sc (.int .u8 (k i0))))) (.cons 1 (.vec true 1 d d (fun i0 => (.vec true 1 (a i0) (a i0) (fun i1 => (.sc (.int .i64 (f i0 i1))))))) (.cons 1 (.vec true 1 b b (fun i0 => (.sc (.int .i64 (g i0))))) .nil))))), (1002, 22, (.ar 256 1 (fun i0 => (.sc (.int .u8 (m i0)))))), (1003, 3, (.ar o 1 (fun i0 => (.sc (.int .i64 (n i0))))))]
def L44_4 (o : Nat) (m : Nat → Nat) (l : Nat → Nat → Int) (k : Nat) (t g : Int) (b : Nat → Int) (a i : Nat) (h : Nat → Int) (p : Int) (n : Nat → Int) (j : Nat) (d : Nat → Nat) (c : Nat → Nat → Int) (f : Nat) (e q : Nat → Int) (s : Nat) (r : Nat → Int) (u : AV) (out : List (Nat × Nat × AV)) : Prop := Goes ⟨Go.Proofs.Try.prog, 44, [2000, 2001], u, out⟩ (place Go.Proofs.Try.f44 [1, 1, 1, 1, 1, 0, 1, 0, 0]) (s44_4 o m l k t g b a i h p n j d c f e q s r) (m44_4 o m l k t g b a i h p n j d c f e q s r)
abbrev s44_5 (b c : Nat) (a : Nat → Nat) (e : Nat → Nat → Int) (k l h : Int) (g : Nat → Int) (f d j : Nat) (i : Nat → Int) (p : Nat) (o : Nat → Int) (q : Nat) (n : Nat → Nat) (m : Nat → Nat → Int) : List (Nat × AV) := [(0, (.pt 2000 [] 0)), (10, (.rf 1001 1 0 b)), (87, (.vec true 1 c c (fun i0 => (.vec true 1 (a i0) (a i0) (fun i1 => (.sc (.int .i64 (e i0 i1)))))))), (88, (.sc (.int .i64 k))), (89, (.sc (.int .i64 l)))]
abbrev m44_5 (l o : Nat) (n : Nat → Nat) (m : Nat → Nat → Int) (p q d : Int) (c : Nat → Int) (b a f : Nat) (e : Nat → Int) (j : Nat) (i : Nat → Int) (k : Nat) (g : Nat → Nat) (h : Nat → Nat → Int) : List (Nat × Nat × AV) := [(2000, 26, (.cons 1 (.sc (.int .i64 d)) (.cons 256 (.ar 256 1 (fun i0 => (.sc (.int .u8 (c i0))))) (.cons 1 (.rf 1002 1 0 b) (.cons 1 (.rf 2001 1 0 a) .nil))))), (2001, 3, (.ar f 1 (fun i0 => (.sc (.int .i64 (e i0)))))), (1001, 3, (.ar j 1 (fun i0 => (.sc (.int .i64 (i i0)))))), (1002, 24, (.av k 1 (fun i0 => (.ow 3 0 1 (g i0) (g i0) (fun i1 => (.sc (.int .i64 (h i0 i1))))))))]
def L44_5 (g l : Nat) (i : Nat → Nat) (h : Nat → Nat → Int) (p q d : Int) (c : Nat → Int) (b a f : Nat) (e : Nat → Int) (n : Nat) (m : Nat → Int) (o : Nat) (k : Nat → Nat) (j : Nat → Nat → Int) (r : AV) (out : List (Nat × Nat × AV)) : Prop := Goes ⟨Go.Proofs.Try.prog, 44, [2000, 2001], r, out⟩ (place Go.Proofs.Try.f44 [1, 1, 1, 1, 1, 1, 1, 0, 0]) (s44_5 g l i h p q d c b a f e n m o k j) (m44_5 g l i h p q d c b a f e n m o k j)
abbrev s44_6 (b c : Nat) (j : Nat → Int) (f d : Nat) (a : Nat → Nat) (g : Nat → Nat → Int) (o p : Int) (k : Nat) (q r l : Int) (i : Nat → Int) (h e n : Nat) (m : Nat → Int) (v : Nat) (u : Nat → Int) (x : Nat) (w : Nat → Int) (y : Nat) (t : Nat → Nat) (s : Nat → Nat → Int) : List (Nat × AV) := [(0, (.pt 2000 [] 0)), (10, (.rf 1001 1 0 b)), (20, (.vec true 1 c c (fun i0 => (.sc (.int .i64 (j i0)))))), (21, (.rf 1002 1 0 f)), (87, (.vec true 1 d d (fun i0 => (.vec true 1 (a i0) (a i0) (fun i1 => (.sc (.int .i64 (g i0 i1)))))))), (88, (.sc (.int .i64 o))), (89, (.sc (.int .i64 p))), (96, (.rf 1001 1 0 k)), (97, (.sc (.int .i64 q))), (98, (.sc (.int .i64 r)))]
abbrev m44_6 (n s : Nat) (r : Nat → Int) (o t : Nat) (q : Nat → Nat) (p : Nat → Nat → Int) (v w : Int) (u : Nat) (x y d : Int) (c : Nat → Int) (b a f : Nat) (e : Nat → Int) (j : Nat) (i : Nat → Int) (l : Nat) (k : Nat → Int) (m : Nat) (g : Nat → Nat) (h : Nat → Nat → Int) : List (Nat × Nat × AV) := [(2000, 26, (.cons 1 (.sc (.int .i64 d)) (.cons 256 (.ar 256 1 (fun i0 => (.sc (.int .u8 (c i0))))) (.cons 1 (.rf 1004 1 0 b) (.cons 1 (.rf 2001 1 0 a) .nil))))), (2001, 3, (.ar f 1 (fun i0 => (.sc (.int .i64 (e i0)))))), (1001, 3, (.ar j 1 (fun i0 => (.sc (.int .i64 (i i0)))))), (1002, 3, (.ar l 1 (fun i0 => (.sc (.int .i64 (k i0)))))), (1004, 24, (.av m 1 (fun i0 => (.ow 3 0 1 (g i0) (g i0) (fun i1 => (.sc (.int .i64 (h i0 i1))))))))]
def L44_6 (g n : Nat) (m : Nat → Int) (h o : Nat) (j : Nat → Nat) (i : Nat → Nat → Int) (v w : Int) (p : Nat) (x y d : Int) (c : Nat → Int) (b a f : Nat) (e : Nat → Int) (r : Nat) (q : Nat → Int) (t : Nat) (s : Nat → Int) (u : Nat) (l : Nat → Nat) (k : Nat → Nat → Int) (z : AV) (out : List (Nat × Nat × AV)) : Prop := Goes ⟨Go.Proofs.Try.prog, 44, [2000, 2001], z, out⟩ (place Go.Proofs.Try.f44 [1, 1, 1, 1, 1, 1, 1, 0, 0, 1, 1, 0, 0, 1, 1, 0, 1, 0, 0]) (s44_6 g n m h o j i v w p x y d c b a f e r q t s u l k) (m44_6 g n m h o j i v w p x y d c b a f e r q t s u l k)
theorem o44 (t : Int) (r : Nat → Int) (k : Nat) (d : Nat → Nat) (n : Nat → Nat → Int) (e : Nat) (o : Nat → Int) (c : Nat) (m : Nat → Int) (l : Nat) (f : Nat → Nat) (p : Nat → Nat → Int) (g : Int) (b : Nat → Int) (a j : Nat) (i : Nat → Int) (s : AV) (out : List (Nat × Nat × AV)) (hnew : newOnly s ∧ ∀ q ∈ out, newOnly q.2.2) (hk : keptN [(2000, 26, (.cons 1 (.sc (.int .i64 g)) (.cons 256 (.ar 256 1 (fun i0 => (.sc (.int .u8 (b i0))))) (.cons 1 (.sc (.slice none 0 0)) (.cons 1 (.rf 2001 1 0 a) .nil))))), (2001, 3, (.ar j 1 (fun i0 => (.sc (.int .i64 (i i0))))))] out = [2000, 2001]) (h : L44_e t r k d n e o c m l f p g b a j i s out) : Ok Go.Proofs.Try.prog 44 [(.pt 2000 [] 0), (.cons 1 (.sc (.int .i64 t)) (.cons 256 (.ar 256 1 (fun i0 => (.sc (.int .u8 (r i0))))) (.cons 1 (.vec true 1 k k (fun i0 => (.vec true 1 (d i0) (d i0) (fun i1 => (.sc (.int .i64 (n i0 i1))))))) (.cons 1 (.vec true 1 e e (fun i0 => (.sc (.int .i64 (o i0))))) .nil)))), (.vec true 1 c c (fun i0 => (.sc (.int .u8 (m i0))))), (.vec true 1 l l (fun i0 => (.vec true 1 (f i0) (f i0) (fun i1 => (.sc (.int .i64 (p i0 i1)))))))] [(2000, 26, (.cons 1 (.sc (.int .i64 g)) (.cons 256 (.ar 256 1 (fun i0 => (.sc (.int .u8 (b i0))))) (.cons 1 (.sc (.slice none 0 0)) (.cons 1 (.rf 2001 1 0 a) .nil))))), (2001, 3, (.ar j 1 (fun i0 => (.sc (.int .i64 (i i0))))))] s out :=
 okRule2 44 Go.Proofs.Try.f44 hf44 [(.pt 2000 [] 0), (.cons 1 (.sc (.int .i64 t)) (.cons 256 (.ar 256 1 (fun i0 => (.sc (.int .u8 (r i0))))) (.cons 1 (.vec true 1 k k (fun i0 => (.vec true 1 (d i0) (d i0) (fun i1 => (.sc (.int .i64 (n i0 i1))))))) (.cons 1 (.vec true 1 e e (fun i0 => (.sc (.int .i64 (o i0))))) .nil)))), (.vec true 1 c c (fun i0 => (.sc (.int .u8 (m i0))))), (.vec true 1 l l (fun i0 => (.vec true 1 (f i0) (f i0) (fun i1 => (.sc (.int .i64 (p i0 i1)))))))] [(2000, 26, (.cons 1 (.sc (.int .i64 g)) (.cons 256 (.ar 256 1 (fun i0 => (.sc (.int .u8 (b i0))))) (.cons 1 (.sc (.slice none 0 0)) (.cons 1 (.rf 2001 1 0 a) .nil))))), (2001, 3, (.ar j 1 (fun i0 => (.sc (.int .i64 (i i0))))))] s out [2000, 2001] hk (by kernel_rfl) (by kernel_rfl) (by kernel_rfl) hnew (L44_e t r k d n e o c m l f p g b a j i s out) (by kernel_rfl) h
theorem r44_e (t : Int) (s : Nat → Int) (o : Nat) (d : Nat → Nat) (m : Nat → Nat → Int) (e : Nat) (p : Nat → Int) (a : Nat) (l : Nat → Int) (r : Nat) (f : Nat → Nat) (q : Nat → Nat → Int) (g : Int) (c : Nat → Int) (b k : Nat) (j : Nat → Int) (u : AV) (out : List (Nat × Nat × AV))
 (h : L44_0 r f q (0 : Nat) a l (↑a : Int) (0 : Int) g c b k j t s o d m e p
 (0 : Nat) (0 : Nat) (fun (x : Value) => none) (fun (x : Nat) => (0 : Int)) (0 : Nat) (fun (i : Nat) => Int.ofNat (0 : Nat)) u out) :
 L44_e t s o d m e p a l r f q g c b k j u out :=
 rule Go.Am.Seat.tabOk 44 [2000, 2001] Go.Proofs.Try.f44 hf44 [] (s44_e t s o d m e p a l r f q g c b k j) (m44_e t s o d m e p a l r f q g c b k j) u out 400
 (Orc.ch Ch.none
 (Orc.ch (Ch.n (9 : Nat))
 (Orc.cut (nat_lit 9)
 (s44_0 r f q (0 : Nat) a l (↑a : Int) (0 : Int) g c b k j t s o d m e
 p (0 : Nat) (0 : Nat) (fun (x : Value) => none) (fun (x : Nat) => (0 : Int)) (0 : Nat) fun (i : Nat) => Int.ofNat (0 : Nat))
 (m44_0 r f q (0 : Nat) a l (↑a : Int) (0 : Int) g c b k j t s o d m e
 p (0 : Nat) (0 : Nat) (fun (x : Value) => none) (fun (x : Nat) => (0 : Int)) (0 : Nat) fun (i : Nat) => Int.ofNat (0 : Nat))
 [((2000 : Nat), some (2000 : Nat)), ((2001 : Nat), some (2001 : Nat)), ((1001 : Nat), some (5 : Nat)), ((1002 : Nat), some (24 : Nat)),
 ((1003 : Nat), some (9 : Nat)), ((1004 : Nat), none)]))) _ _ (by kernel_rfl) (by kernel_rfl) (show True ∧
 True ∧
 True ∧
 True ∧
 True ∧
 True ∧
 True ∧
 True ∧
 ((True ∧
 SubS (.pt 2000 [] (0 : Nat)) ∧
 True ∧
 SubS (.vec true 1 r r fun (i0 : Nat) => .vec true 1 (f i0) (f i0) fun (i1 : Nat) => .sc (.int .i64 (q i0 i1))) ∧
 True ∧
 SubS (.pt 1001 [] (0 : Nat)) ∧
 True ∧
 SubS (AV.mp (1002 : Nat)) ∧
 True ∧
 SubS (.pt 1003 [] (0 : Nat)) ∧
 True ∧
 SubS (.vec true 1 a a fun (i0 : Nat) => .sc (.int .u8 (l i0))) ∧
 True ∧
 SubS (.sc (.int .i64 (↑a : Int))) ∧
 True ∧ SubS (.sc (.int .i64 (0 : Int))) ∧ True) ∧
 (True ∧ True ∧ True ∧ True ∧ True) ∧
 SubBS (.cons 1 (.sc (.int .i64 g)) (.cons 256 (.ar 256 (1 : Nat) fun (i0 : Nat) => .sc (.int .u8 (c i0))) (.cons 1 (.sc (.slice none (0 : Nat) (0 : Nat))) (.cons 1 (.rf 2001 1 0 b) .nil)))) ∧
 True ∧
 SubBS (.ar k (1 : Nat) fun (i0 : Nat) => .sc (.int .i64 (j i0))) ∧
 (True ∧ True ∧ True ∧ True ∧ True) ∧
 SubBS (.cons 1 (.sc (.int .i64 t)) (.cons 256 (.ar 256 (1 : Nat) fun (i0 : Nat) => .sc (.int .u8 (s i0))) (.cons 1 (.vec true 1 o o fun (i0 : Nat) => .vec true 1 (d i0) (d i0) fun (i1 : Nat) => .sc (.int .i64 (m i0 i1))) (.cons 1 (.vec true 1 e e fun (i0 : Nat) => .sc (.int .i64 (p i0))) .nil)))) ∧
 ((0 : Nat) = (0 : Nat) ∧ (0 : Nat) = (0 : Nat) ∧ MapEq (fun (x : Value) => none) fun (x : Value) => none) ∧
 True ∧
 SubB (.ar 256 (1 : Nat) fun (x : Nat) => .sc (.int .u8 (0 : Int)))
 (.ar 256 (1 : Nat) fun (i0 : Nat) => .sc (.int .u8 (0 : Int))) ∧
 True) ∧
 L44_0 r f q (0 : Nat) a l (↑a : Int) (0 : Int) g c b k j t s o d
 m e p (0 : Nat) (0 : Nat) (fun (x : Value) => none) (fun (x : Nat) => (0 : Int)) (0 : Nat)
 (fun (i : Nat) => Int.ofNat (0 : Nat)) u out from
 ⟨trivial, ⟨trivial, ⟨trivial, ⟨trivial, ⟨trivial, ⟨trivial, ⟨trivial, ⟨trivial, ⟨⟨⟨trivial, ⟨Sub.refl _, ⟨trivial, ⟨Sub.refl _, ⟨trivial, ⟨Sub.refl _, ⟨trivial, ⟨Sub.refl _, ⟨trivial, ⟨Sub.refl _, ⟨trivial, ⟨Sub.refl _, ⟨trivial, ⟨Sub.refl _, ⟨trivial, ⟨Sub.refl _, trivial⟩⟩⟩⟩⟩⟩⟩⟩⟩⟩⟩⟩⟩⟩⟩⟩, ⟨⟨trivial, ⟨trivial, ⟨trivial, ⟨trivial, trivial⟩⟩⟩⟩, ⟨SubB.refl _, ⟨trivial, ⟨SubB.refl _, ⟨⟨trivial, ⟨trivial, ⟨trivial, ⟨trivial, trivial⟩⟩⟩⟩, ⟨SubB.refl _, ⟨⟨rfl, ⟨rfl, (MapEq.refl _)⟩⟩, ⟨trivial, ⟨SubB.refl _, trivial⟩⟩⟩⟩⟩⟩⟩⟩⟩⟩, h⟩⟩⟩⟩⟩⟩⟩⟩⟩)
theorem r44_0 (a : Nat) (b : Nat → Nat) (f : Nat → Nat → Int) (p t : Nat) (s : Nat → Int) (y q m : Int) (g : Nat → Int) (c o : Nat) (n : Nat → Int) (u : Int) (r : Nat → Int) (j : Nat) (d : Nat → Nat) (k : Nat → Nat → Int) (e : Nat) (l : Nat → Int) (B z : Nat) (A : MapF) (v : Nat → Int) (x : Nat) (w : Nat → Int) (C : AV) (out : List (Nat × Nat × AV))
 (h : (decide (q < y) = true →
 ((0 : Int) ≤ q ∧ q < (↑t : Int)) ∧
 L44_1 a b f p q (s q.toNat) (0 : Nat) t s y q a b f (↑a : Int) (0 : Int) m g c
 o n u r j d k e l B z A v (0 : Nat) (fun (i : Nat) => Int.ofNat (0 : Nat)) x w C out) ∧
 (decide (q < y) = false →
 L44_4 a b f p (0 : Int) m g c o n u r j d k e l v x w C out)) :
 L44_0 a b f p t s y q m g c o n u r j d k e l B z A v x w C out :=
 rule Go.Am.Seat.tabOk 44 [2000, 2001] Go.Proofs.Try.f44 hf44 [1, 1, 1, 1, 0, 1, 0, 0] (s44_0 a b f p t s y q m g c o n u r j d k e l B z A v x w) (m44_0 a b f p t s y q m g c o n u r j d k e l B z A v x w) C out 400
 ((Orc.cut (nat_lit 12)
 (s44_1 a b f p q (s q.toNat) (0 : Nat) t s y q a b f (↑a : Int) (0 : Int) m g c
 o n u r j d k e l B z A v (0 : Nat) (fun (i : Nat) => Int.ofNat (0 : Nat)) x w)
 (m44_1 a b f p q (s q.toNat) (0 : Nat) t s y q a b f (↑a : Int) (0 : Int) m g c
 o n u r j d k e l B z A v (0 : Nat) (fun (i : Nat) => Int.ofNat (0 : Nat)) x w)
 [((2000 : Nat), some (2000 : Nat)), ((2001 : Nat), some (2001 : Nat)), ((1001 : Nat), some (1001 : Nat)), ((1002 : Nat), some (1002 : Nat)),
 ((1003 : Nat), some (1003 : Nat)), ((1005 : Nat), none), ((1004 : Nat), some (1004 : Nat))]).br
 (Orc.cut (nat_lit 6)
 (s44_4 a b f p (0 : Int) m g c o n u r j d k e l v x w)
 (m44_4 a b f p (0 : Int) m g c o n u r j d k e l v x w)
 [((2000 : Nat), some (2000 : Nat)), ((2001 : Nat), some (2001 : Nat)), ((1001 : Nat), some (1001 : Nat)), ((1002 : Nat), some (1003 : Nat)),
 ((1003 : Nat), some (1004 : Nat))])) _ _ (by kernel_rfl) (by kernel_rfl) (show True ∧
 (decide (q < y) = true →
 True ∧
 ((0 : Int) ≤ q ∧ q < (↑t : Int)) ∧
 True ∧
 True ∧
 True ∧
 True ∧
 True ∧
 True ∧
 True ∧
 ((True ∧
 SubS (.pt 2000 [] (0 : Nat)) ∧
 True ∧
 SubS (.vec true 1 a a fun (i0 : Nat) => .vec true 1 (b i0) (b i0) fun (i1 : Nat) => .sc (.int .i64 (f i0 i1))) ∧
 True ∧
 SubS (.pt 1001 [] (0 : Nat)) ∧
 True ∧
 SubS (AV.mp (1002 : Nat)) ∧
 True ∧
 SubS (.pt 1003 [] (0 : Nat)) ∧
 True ∧
 SubS (.rf 1004 1 0 p) ∧
 True ∧
 SubS (.sc (.int .i64 q)) ∧
 True ∧
 SubS (.sc (.int .u8 (s q.toNat))) ∧
 True ∧
 SubS (.vec true 1 t t fun (i0 : Nat) => .sc (.int .u8 (s i0))) ∧
 True ∧
 SubS (.sc (.int .i64 y)) ∧
 True ∧
 SubS (.sc (.int .i64 q)) ∧
 True ∧
 SubS (.vec true 1 a a fun (i0 : Nat) => .vec true 1 (b i0) (b i0) fun (i1 : Nat) => .sc (.int .i64 (f i0 i1))) ∧
 True ∧
 SubS (.sc (.int .i64 (↑a : Int))) ∧
 True ∧
 SubS (.sc (.int .i64 (0 : Int))) ∧
 True) ∧
 (True ∧ True ∧ True ∧ True ∧ True) ∧
 SubBS (.cons 1 (.sc (.int .i64 m)) (.cons 256 (.ar 256 (1 : Nat) fun (i0 : Nat) => .sc (.int .u8 (g i0))) (.cons 1 (.sc (.slice none (0 : Nat) (0 : Nat))) (.cons 1 (.rf 2001 1 0 c) .nil)))) ∧
 True ∧
 SubBS (.ar o (1 : Nat) fun (i0 : Nat) => .sc (.int .i64 (n i0))) ∧
 (True ∧ True ∧ True ∧ True ∧ True) ∧
 SubBS (.cons 1 (.sc (.int .i64 u)) (.cons 256 (.ar 256 (1 : Nat) fun (i0 : Nat) => .sc (.int .u8 (r i0))) (.cons 1 (.vec true 1 j j fun (i0 : Nat) => .vec true 1 (d i0) (d i0) fun (i1 : Nat) => .sc (.int .i64 (k i0 i1))) (.cons 1 (.vec true 1 e e fun (i0 : Nat) => .sc (.int .i64 (l i0))) .nil)))) ∧
 (B = B ∧ z = z ∧ MapEq A A) ∧
 True ∧
 SubBS (.ar 256 (1 : Nat) fun (i0 : Nat) => .sc (.int .u8 (v i0))) ∧
 True ∧
 SubBS (.ar x (1 : Nat) fun (i0 : Nat) => .sc (.int .i64 (w i0))) ∧
 True) ∧
 L44_1 a b f p q (s q.toNat) (0 : Nat) t s y q a b f (↑a : Int) (0 : Int) m
 g c o n u r j d k e l B z A v (0 : Nat)
 (fun (i : Nat) => Int.ofNat (0 : Nat)) x w C out) ∧
 (decide (q < y) = false →
 True ∧
 ((True ∧
 SubS (.pt 2000 [] (0 : Nat)) ∧
 True ∧
 SubS (.vec true 1 a a fun (i0 : Nat) => .vec true 1 (b i0) (b i0) fun (i1 : Nat) => .sc (.int .i64 (f i0 i1))) ∧
 True ∧
 SubS (.pt 1001 [] (0 : Nat)) ∧
 True ∧
 SubS (.pt 1002 [] (0 : Nat)) ∧
 True ∧
 SubS (.rf 1003 1 0 p) ∧
 True ∧ SubS (.sc (.int .i64 (0 : Int))) ∧ True) ∧
 (True ∧ True ∧ True ∧ True ∧ True) ∧
 SubBS (.cons 1 (.sc (.int .i64 m)) (.cons 256 (.ar 256 (1 : Nat) fun (i0 : Nat) => .sc (.int .u8 (g i0))) (.cons 1 (.sc (.slice none (0 : Nat) (0 : Nat))) (.cons 1 (.rf 2001 1 0 c) .nil)))) ∧
 True ∧
 SubBS (.ar o (1 : Nat) fun (i0 : Nat) => .sc (.int .i64 (n i0))) ∧
 (True ∧ True ∧ True ∧ True ∧ True) ∧
 SubBS (.cons 1 (.sc (.int .i64 u)) (.cons 256 (.ar 256 (1 : Nat) fun (i0 : Nat) => .sc (.int .u8 (r i0))) (.cons 1 (.vec true 1 j j fun (i0 : Nat) => .vec true 1 (d i0) (d i0) fun (i1 : Nat) => .sc (.int .i64 (k i0 i1))) (.cons 1 (.vec true 1 e e fun (i0 : Nat) => .sc (.int .i64 (l i0))) .nil)))) ∧
 True ∧
 SubBS (.ar 256 (1 : Nat) fun (i0 : Nat) => .sc (.int .u8 (v i0))) ∧
 True ∧
 SubBS (.ar x (1 : Nat) fun (i0 : Nat) => .sc (.int .i64 (w i0))) ∧
 True) ∧
 L44_4 a b f p (0 : Int) m g c o n u r j d k e l v x w C
 out) from
 ⟨trivial, (And.elim (fun h1 k1 => ⟨(fun x2 => (fun h2 => ⟨trivial, (And.elim (fun h4 k4 => ⟨(And.elim (fun h5 k5 => ⟨h5, k5⟩) h4), ⟨trivial, ⟨trivial, ⟨trivial, ⟨trivial, ⟨trivial, ⟨trivial, ⟨trivial, ⟨⟨⟨trivial, ⟨Sub.refl _, ⟨trivial, ⟨Sub.refl _, ⟨trivial, ⟨Sub.refl _, ⟨trivial, ⟨Sub.refl _, ⟨trivial, ⟨Sub.refl _, ⟨trivial, ⟨Sub.refl _, ⟨trivial, ⟨Sub.refl _, ⟨trivial, ⟨Sub.refl _, ⟨trivial, ⟨Sub.refl _, ⟨trivial, ⟨Sub.refl _, ⟨trivial, ⟨Sub.refl _, ⟨trivial, ⟨Sub.refl _, ⟨trivial, ⟨Sub.refl _, ⟨trivial, ⟨Sub.refl _, trivial⟩⟩⟩⟩⟩⟩⟩⟩⟩⟩⟩⟩⟩⟩⟩⟩⟩⟩⟩⟩⟩⟩⟩⟩⟩⟩⟩⟩, ⟨⟨trivial, ⟨trivial, ⟨trivial, ⟨trivial, trivial⟩⟩⟩⟩, ⟨SubB.refl _, ⟨trivial, ⟨SubB.refl _, ⟨⟨trivial, ⟨trivial, ⟨trivial, ⟨trivial, trivial⟩⟩⟩⟩, ⟨SubB.refl _, ⟨⟨rfl, ⟨rfl, (MapEq.refl _)⟩⟩, ⟨trivial, ⟨SubB.refl _, ⟨trivial, ⟨SubB.refl _, trivial⟩⟩⟩⟩⟩⟩⟩⟩⟩⟩⟩⟩, k4⟩⟩⟩⟩⟩⟩⟩⟩⟩) h2)⟩) (h1 x2)), (fun x2 => (fun h2 => ⟨trivial, ⟨⟨⟨trivial, ⟨Sub.refl _, ⟨trivial, ⟨Sub.refl _, ⟨trivial, ⟨Sub.refl _, ⟨trivial, ⟨Sub.refl _, ⟨trivial, ⟨Sub.refl _, ⟨trivial, ⟨Sub.refl _, trivial⟩⟩⟩⟩⟩⟩⟩⟩⟩⟩⟩⟩, ⟨⟨trivial, ⟨trivial, ⟨trivial, ⟨trivial, trivial⟩⟩⟩⟩, ⟨SubB.refl _, ⟨trivial, ⟨SubB.refl _, ⟨⟨trivial, ⟨trivial, ⟨trivial, ⟨trivial, trivial⟩⟩⟩⟩, ⟨SubB.refl _, ⟨trivial, ⟨SubB.refl _, ⟨trivial, ⟨SubB.refl _, trivial⟩⟩⟩⟩⟩⟩⟩⟩⟩⟩⟩, h2⟩⟩) (k1 x2))⟩) h)⟩)
theorem r44_1 (m : Nat) (j : Nat → Nat) (v : Nat → Nat → Int) (a : Nat) (i b : Int) (A w : Nat) (B : Nat → Int) (H I : Int) (L : Nat) (D : Nat → Nat) (K : Nat → Nat → Int) (N J p : Int) (f : Nat → Int) (c t : Nat) (q : Nat → Int) (E : Int) (y : Nat → Int) (g : Nat) (d : Nat → Nat) (k : Nat → Nat → Int) (e : Nat) (l : Nat → Int) (C z : Nat) (u : MapF) (F : Nat → Int) (O : Nat) (o : Nat → Int) (M : Nat) (G : Nat → Int) (P : AV) (out : List (Nat × Nat × AV))
 (h : (decide (J < N) = true →
 ((0 : Int) ≤ J ∧ J < (↑L : Int)) ∧
 ((0 : Int) ≤ i ∧ i < (↑(D J.toNat) : Int)) ∧
 ∃ (r : Nat × Nat × (Nat → Int)),
 Ok Proofs.Try.prog (78 : Nat) [.rf 2000 1 0 A, .sc (.int .i64 (K J.toNat i.toNat))]
 [((2000 : Nat), (5 : Nat), .ar O (1 : Nat) fun (i : Nat) => .sc (.int .u8 (o i)))]
 (.rf 1000 1 0 r.1)
 [((1000 : Nat), (5 : Nat), .ar r.2.1 (1 : Nat) fun (i0 : Nat) => .sc (.int .u8 (r.2.2 i0)))] ∧
 L44_1 m j v a i b r.1 w B H I L D K N (IntKind.i64.wrap (J + (1 : Int))) p f c
 t q E y g d k e l C z u F r.2.1 r.2.2 M G P out) ∧
 (decide (J < N) = false →
 ((0 : Nat) + A ≤ O ∧
 (strOf A fun (i : Nat) => o ((0 : Nat) + i)).size = A ∧
 ∀ (i : Nat),
 i < A →
 AV.sc (.int .u8 (o ((0 : Nat) + i))) =
 .sc (.int .u8 (↑(byteAt (strOf A fun (i : Nat) => o ((0 : Nat) + i)) i).toNat : Int))) ∧
 ((!(u (.string (strOf A fun (i : Nat) => o ((0 : Nat) + i)))).isSome) = true →
 (a ≤ M ∧ (a + (1 : Nat)) * (8 : Nat) ≤ (140737488355328 : Nat) ∧ a + (1 : Nat) ≤ maxLen) ∧
 L44_2 m j v (a + (1 : Nat)) b (↑a : Int) w B H I p f c t q E y g d
 k e l (bif (u (.string (strOf A fun (i : Nat) => o ((0 : Nat) + i)))).isSome then C else C + (1 : Nat))
 (bif (u (.string (strOf A fun (i : Nat) => o ((0 : Nat) + i)))).isSome then z else z + (1 : Nat))
 (putM u z (.string (strOf A fun (i : Nat) => o ((0 : Nat) + i))) (↑a : Int)) F (a + (1 : Nat))
 (fun (i_1 : Nat) => bif i_1.blt a then G i_1 else i) P out) ∧
 ((!(u (.string (strOf A fun (i : Nat) => o ((0 : Nat) + i)))).isSome) = false →
 L44_2 m j v a b
 ((Option.map (fun (x : Int × Nat) => x.1) (u (.string (strOf A fun (i : Nat) => o ((0 : Nat) + i))))).getD (0 : Int)) w B H I
 p f c t q E y g d k e l C z u F M G P out))) :
 L44_1 m j v a i b A w B H I L D K N J p f c t q E y g d k e l C z u F O o M G P out :=
 rule Go.Am.Seat.tabOk 44 [2000, 2001] Go.Proofs.Try.f44 hf44 [1, 1, 1, 1, 0, 1, 0, 0, 1, 1, 0, 0, 1, 1, 0, 1, 0, 0] (s44_1 m j v a i b A w B H I L D K N J p f c t q E y g d k e l C z u F O o M G) (m44_1 m j v a i b A w B H I L D K N J p f c t q E y g d k e l C z u F O o M G) P out 400
 ((Orc.call [((1005 : Nat), (2000 : Nat))] [((100430 : Nat), (1000 : Nat))]
 (fun (r78 : Nat × Nat × (Nat → Int)) => .rf 1000 1 0 r78.1)
 (fun (r78 : Nat × Nat × (Nat → Int)) =>
 [((1000 : Nat), (5 : Nat), .ar r78.2.1 (1 : Nat) fun (i0 : Nat) => .sc (.int .u8 (r78.2.2 i0)))])
 fun (r78 : Nat × Nat × (Nat → Int)) =>
 Orc.cut (nat_lit 3)
 (s44_1 m j v a i b r78.1 w B H I L D K N (IntKind.i64.wrap (J + (1 : Int))) p f c
 t q E y g d k e l C z u F r78.2.1 r78.2.2 M G)
 (m44_1 m j v a i b r78.1 w B H I L D K N (IntKind.i64.wrap (J + (1 : Int))) p f c
 t q E y g d k e l C z u F r78.2.1 r78.2.2 M G)
 [((2000 : Nat), some (2000 : Nat)), ((2001 : Nat), some (2001 : Nat)), ((1001 : Nat), some (1001 : Nat)), ((1002 : Nat), some (1002 : Nat)),
 ((1003 : Nat), some (1003 : Nat)), ((1005 : Nat), some (100430 : Nat)), ((1004 : Nat), some (1004 : Nat))]).br
 (Orc.ch Ch.none
 (Orc.ch Ch.none
 (Orc.ch (Ch.s (strOf A fun (i : Nat) => o ((0 : Nat) + i)))
 (Orc.ch (Ch.n (9 : Nat))
 ((Orc.ch Ch.none
 (Orc.ch Ch.none
 (Orc.ch Ch.none
 (Orc.ch Ch.none
 (Orc.ch Ch.none
 (Orc.ch (Ch.s (strOf A fun (i : Nat) => o ((0 : Nat) + i)))
 (Orc.ch Ch.none
 (Orc.ch (Ch.n (9 : Nat))
 (Orc.cut (nat_lit 1)
 (s44_2 m j v (a + (1 : Nat)) b (↑a : Int) w B H I p f c t q E
 y g d k e l
 (bif (u (.string (strOf A fun (i : Nat) => o ((0 : Nat) + i)))).isSome then C else C + (1 : Nat))
 (bif (u (.string (strOf A fun (i : Nat) => o ((0 : Nat) + i)))).isSome then z else z + (1 : Nat))
 (putM u z (.string (strOf A fun (i : Nat) => o ((0 : Nat) + i))) (↑a : Int)) F (a + (1 : Nat))
 fun (i_1 : Nat) => bif i_1.blt a then G i_1 else i)
 (m44_2 m j v (a + (1 : Nat)) b (↑a : Int) w B H I p f c t q E
 y g d k e l
 (bif (u (.string (strOf A fun (i : Nat) => o ((0 : Nat) + i)))).isSome then C else C + (1 : Nat))
 (bif (u (.string (strOf A fun (i : Nat) => o ((0 : Nat) + i)))).isSome then z else z + (1 : Nat))
 (putM u z (.string (strOf A fun (i : Nat) => o ((0 : Nat) + i))) (↑a : Int)) F (a + (1 : Nat))
 fun (i_1 : Nat) => bif i_1.blt a then G i_1 else i)
 [((2000 : Nat), some (2000 : Nat)), ((2001 : Nat), some (2001 : Nat)), ((1001 : Nat), some (1001 : Nat)),
 ((1002 : Nat), some (1002 : Nat)), ((1003 : Nat), some (1003 : Nat)), ((1004 : Nat), some (63 : Nat))]))))))))).br
 (Orc.cut (nat_lit 1)
 (s44_2 m j v a b
 ((Option.map (fun (x : Int × Nat) => x.1) (u (.string (strOf A fun (i : Nat) => o ((0 : Nat) + i))))).getD (0 : Int)) w B H
 I p f c t q E y g d k e l C z u F M G)
 (m44_2 m j v a b
 ((Option.map (fun (x : Int × Nat) => x.1) (u (.string (strOf A fun (i : Nat) => o ((0 : Nat) + i))))).getD (0 : Int)) w B H
 I p f c t q E y g d k e l C z u F M G)
 [((2000 : Nat), some (2000 : Nat)), ((2001 : Nat), some (2001 : Nat)), ((1001 : Nat), some (1001 : Nat)), ((1002 : Nat), some (1002 : Nat)),
 ((1003 : Nat), some (1003 : Nat)), ((1004 : Nat), some (1004 : Nat))]))))))) _ _ (by kernel_rfl) (by kernel_rfl) (show True ∧
 (decide (J < N) = true →
 ((0 : Int) ≤ J ∧ J < (↑L : Int)) ∧
 True ∧
 True ∧
 True ∧
 True ∧
 True ∧
 ((0 : Int) ≤ i ∧ i < (↑(D J.toNat) : Int)) ∧
 True ∧
 ∃ (r : Nat × Nat × (Nat → Int)),
 ((True ∧ True ∧ True) ∧
 (True ∧ True) ∧
 Ok Proofs.Try.prog (78 : Nat) [.rf 2000 1 0 A, .sc (.int .i64 (K J.toNat i.toNat))]
 [((2000 : Nat), (5 : Nat), .ar O (1 : Nat) fun (i : Nat) => .sc (.int .u8 (o i)))]
 (.rf 1000 1 0 r.1)
 [((1000 : Nat), (5 : Nat), .ar r.2.1 (1 : Nat) fun (i0 : Nat) => .sc (.int .u8 (r.2.2 i0)))]) ∧
 True ∧
 True ∧
 True ∧
 ((True ∧
 SubS (.pt 2000 [] (0 : Nat)) ∧
 True ∧
 SubS (.vec true 1 m m fun (i0 : Nat) => .vec true 1 (j i0) (j i0) fun (i1 : Nat) => .sc (.int .i64 (v i0 i1))) ∧
 True ∧
 SubS (.pt 1001 [] (0 : Nat)) ∧
 True ∧
 SubS (AV.mp (1002 : Nat)) ∧
 True ∧
 SubS (.pt 1003 [] (0 : Nat)) ∧
 True ∧
 SubS (.rf 1004 1 0 a) ∧
 True ∧
 SubS (.sc (.int .i64 i)) ∧
 True ∧
 SubS (.sc (.int .u8 b)) ∧
 True ∧
 SubS (.rf 1005 1 0 r.1) ∧
 True ∧
 SubS (.vec true 1 w w fun (i0 : Nat) => .sc (.int .u8 (B i0))) ∧
 True ∧
 SubS (.sc (.int .i64 H)) ∧
 True ∧
 SubS (.sc (.int .i64 I)) ∧
 True ∧
 SubS (.vec true 1 L L fun (i0 : Nat) => .vec true 1 (D i0) (D i0) fun (i1 : Nat) => .sc (.int .i64 (K i0 i1))) ∧
 True ∧
 SubS (.sc (.int .i64 N)) ∧
 True ∧
 SubS (.sc (.int IntKind.i64 (IntKind.i64.wrap (J + (1 : Int))))) ∧
 True) ∧
 (True ∧ True ∧ True ∧ True ∧ True) ∧
 SubBS (.cons 1 (.sc (.int .i64 p)) (.cons 256 (.ar 256 (1 : Nat) fun (i0 : Nat) => .sc (.int .u8 (f i0))) (.cons 1 (.sc (.slice none (0 : Nat) (0 : Nat))) (.cons 1 (.rf 2001 1 0 c) .nil)))) ∧
 True ∧
 SubBS (.ar t (1 : Nat) fun (i0 : Nat) => .sc (.int .i64 (q i0))) ∧
 (True ∧ True ∧ True ∧ True ∧ True) ∧
 SubBS (.cons 1 (.sc (.int .i64 E)) (.cons 256 (.ar 256 (1 : Nat) fun (i0 : Nat) => .sc (.int .u8 (y i0))) (.cons 1 (.vec true 1 g g fun (i0 : Nat) => .vec true 1 (d i0) (d i0) fun (i1 : Nat) => .sc (.int .i64 (k i0 i1))) (.cons 1 (.vec true 1 e e fun (i0 : Nat) => .sc (.int .i64 (l i0))) .nil)))) ∧
 (C = C ∧ z = z ∧ MapEq u u) ∧
 True ∧
 SubBS (.ar 256 (1 : Nat) fun (i0 : Nat) => .sc (.int .u8 (F i0))) ∧
 True ∧
 SubBS (.ar r.2.1 (1 : Nat) fun (i0 : Nat) => .sc (.int .u8 (r.2.2 i0))) ∧
 True ∧
 SubBS (.ar M (1 : Nat) fun (i0 : Nat) => .sc (.int .i64 (G i0))) ∧
 True) ∧
 L44_1 m j v a i b r.1 w B H I L D K N (IntKind.i64.wrap (J + (1 : Int))) p
 f c t q E y g d k e l C z u F r.2.1 r.2.2 M
 G P out) ∧
 (decide (J < N) = false →
 True ∧
 True ∧
 (((0 : Nat) + A ≤ O ∧ (1 : Nat) = (1 : Nat)) ∧
 (strOf A fun (i : Nat) => o ((0 : Nat) + i)).size = A ∧
 ∀ (i : Nat),
 i < A →
 AV.sc (.int .u8 (o ((0 : Nat) + i))) =
 .sc (.int .u8 (↑(byteAt (strOf A fun (i : Nat) => o ((0 : Nat) + i)) i).toNat : Int))) ∧
 True ∧
 True ∧
 True ∧
 True ∧
 True ∧
 True ∧
 True ∧
 True ∧
 ((!(u (.string (strOf A fun (i : Nat) => o ((0 : Nat) + i)))).isSome) = true →
 True ∧
 True ∧
 True ∧
 True ∧
 True ∧
 (((0 : Nat) + A ≤ O ∧ (1 : Nat) = (1 : Nat)) ∧
 (strOf A fun (i : Nat) => o ((0 : Nat) + i)).size = A ∧
 ∀ (i : Nat),
 i < A →
 AV.sc (.int .u8 (o ((0 : Nat) + i))) =
 .sc (.int .u8 (↑(byteAt (strOf A fun (i : Nat) => o ((0 : Nat) + i)) i).toNat : Int))) ∧
 True ∧
 True ∧
 True ∧
 True ∧
 ((True ∧ True) ∧ True) ∧
 (a ≤ M ∧
 ((0 : Nat) + (1 : Nat) ≤ (1 : Nat) ∧ (1 : Nat) = (1 : Nat)) ∧
 (a + (1 : Nat)) * (8 : Nat) ≤ (140737488355328 : Nat) ∧ a + (1 : Nat) ≤ maxLen) ∧
 True ∧
 ((True ∧
 SubS (.pt 2000 [] (0 : Nat)) ∧
 True ∧
 SubS (.vec true 1 m m fun (i0 : Nat) => .vec true 1 (j i0) (j i0) fun (i1 : Nat) => .sc (.int .i64 (v i0 i1))) ∧
 True ∧
 SubS (.pt 1001 [] (0 : Nat)) ∧
 True ∧
 SubS (AV.mp (1002 : Nat)) ∧
 True ∧
 SubS (.pt 1003 [] (0 : Nat)) ∧
 True ∧
 SubS (.rf 1004 1 0 (a + (1 : Nat))) ∧
 True ∧
 SubS (.sc (.int .u8 b)) ∧
 True ∧
 SubS (.sc (.int .i64 (↑a : Int))) ∧
 True ∧
 SubS (.vec true 1 w w fun (i0 : Nat) => .sc (.int .u8 (B i0))) ∧
 True ∧
 SubS (.sc (.int .i64 H)) ∧
 True ∧
 SubS (.sc (.int .i64 I)) ∧
 True) ∧
 (True ∧ True ∧ True ∧ True ∧ True) ∧
 SubBS (.cons 1 (.sc (.int .i64 p)) (.cons 256 (.ar 256 (1 : Nat) fun (i0 : Nat) => .sc (.int .u8 (f i0))) (.cons 1 (.sc (.slice none (0 : Nat) (0 : Nat))) (.cons 1 (.rf 2001 1 0 c) .nil)))) ∧
 True ∧
 SubBS (.ar t (1 : Nat) fun (i0 : Nat) => .sc (.int .i64 (q i0))) ∧
 (True ∧ True ∧ True ∧ True ∧ True) ∧
 SubBS (.cons 1 (.sc (.int .i64 E)) (.cons 256 (.ar 256 (1 : Nat) fun (i0 : Nat) => .sc (.int .u8 (y i0))) (.cons 1 (.vec true 1 g g fun (i0 : Nat) => .vec true 1 (d i0) (d i0) fun (i1 : Nat) => .sc (.int .i64 (k i0 i1))) (.cons 1 (.vec true 1 e e fun (i0 : Nat) => .sc (.int .i64 (l i0))) .nil)))) ∧
 (((bif
 (u
 (Value.string
 (strOf A fun (i : Nat) => o ((0 : Nat) + i)))).isSome then
 C
 else C + (1 : Nat)) =
 bif
 (u
 (Value.string
 (strOf A fun (i : Nat) => o ((0 : Nat) + i)))).isSome then
 C
 else C + (1 : Nat)) ∧
 ((bif
 (u
 (Value.string
 (strOf A fun (i : Nat) => o ((0 : Nat) + i)))).isSome then
 z
 else z + (1 : Nat)) =
 bif
 (u
 (Value.string
 (strOf A fun (i : Nat) => o ((0 : Nat) + i)))).isSome then
 z
 else z + (1 : Nat)) ∧
 MapEq
 (putM u z (.string (strOf A fun (i : Nat) => o ((0 : Nat) + i)))
 (↑a : Int))
 (putM u z (.string (strOf A fun (i : Nat) => o ((0 : Nat) + i)))
 (↑a : Int))) ∧
 True ∧
 SubBS (.ar 256 (1 : Nat) fun (i0 : Nat) => .sc (.int .u8 (F i0))) ∧
 True ∧
 SubBS (.ar (a + (1 : Nat)) (1 : Nat) fun (i_1 : Nat) => .sc (.int .i64 (bif i_1.blt a then G i_1 else i))) ∧
 True) ∧
 L44_2 m j v (a + (1 : Nat)) b (↑a : Int) w B H I p f
 c t q E y g d k e l
 (bif (u (.string (strOf A fun (i : Nat) => o ((0 : Nat) + i)))).isSome then C
 else C + (1 : Nat))
 (bif (u (.string (strOf A fun (i : Nat) => o ((0 : Nat) + i)))).isSome then z
 else z + (1 : Nat))
 (putM u z (.string (strOf A fun (i : Nat) => o ((0 : Nat) + i))) (↑a : Int)) F
 (a + (1 : Nat)) (fun (i_1 : Nat) => bif i_1.blt a then G i_1 else i) P out) ∧
 ((!(u (.string (strOf A fun (i : Nat) => o ((0 : Nat) + i)))).isSome) = false →
 ((True ∧
 SubS (.pt 2000 [] (0 : Nat)) ∧
 True ∧
 SubS (.vec true 1 m m fun (i0 : Nat) => .vec true 1 (j i0) (j i0) fun (i1 : Nat) => .sc (.int .i64 (v i0 i1))) ∧
 True ∧
 SubS (.pt 1001 [] (0 : Nat)) ∧
 True ∧
 SubS (AV.mp (1002 : Nat)) ∧
 True ∧
 SubS (.pt 1003 [] (0 : Nat)) ∧
 True ∧
 SubS (.rf 1004 1 0 a) ∧
 True ∧
 SubS (.sc (.int .u8 b)) ∧
 True ∧
 SubS (.sc (.int IntKind.i64 ((Option.map (fun (x : Int × Nat) => x.1) (u (.string (strOf A fun (i : Nat) => o ((0 : Nat) + i))))).getD (0 : Int)))) ∧
 True ∧
 SubS (.vec true 1 w w fun (i0 : Nat) => .sc (.int .u8 (B i0))) ∧
 True ∧
 SubS (.sc (.int .i64 H)) ∧
 True ∧
 SubS (.sc (.int .i64 I)) ∧
 True) ∧
 (True ∧ True ∧ True ∧ True ∧ True) ∧
 SubBS (.cons 1 (.sc (.int .i64 p)) (.cons 256 (.ar 256 (1 : Nat) fun (i0 : Nat) => .sc (.int .u8 (f i0))) (.cons 1 (.sc (.slice none (0 : Nat) (0 : Nat))) (.cons 1 (.rf 2001 1 0 c) .nil)))) ∧
 True ∧
 SubBS (.ar t (1 : Nat) fun (i0 : Nat) => .sc (.int .i64 (q i0))) ∧
 (True ∧ True ∧ True ∧ True ∧ True) ∧
 SubBS (.cons 1 (.sc (.int .i64 E)) (.cons 256 (.ar 256 (1 : Nat) fun (i0 : Nat) => .sc (.int .u8 (y i0))) (.cons 1 (.vec true 1 g g fun (i0 : Nat) => .vec true 1 (d i0) (d i0) fun (i1 : Nat) => .sc (.int .i64 (k i0 i1))) (.cons 1 (.vec true 1 e e fun (i0 : Nat) => .sc (.int .i64 (l i0))) .nil)))) ∧
 (C = C ∧ z = z ∧ MapEq u u) ∧
 True ∧
 SubBS (.ar 256 (1 : Nat) fun (i0 : Nat) => .sc (.int .u8 (F i0))) ∧
 True ∧
 SubBS (.ar M (1 : Nat) fun (i0 : Nat) => .sc (.int .i64 (G i0))) ∧
 True) ∧
 L44_2 m j v a b
 ((Option.map (fun (x : Int × Nat) => x.1) (u (.string (strOf A fun (i : Nat) => o ((0 : Nat) + i))))).getD
 (0 : Int))
 w B H I p f c t q E y g d k e l C z u F
 M G P out)) from
 ⟨trivial, (And.elim (fun h1 k1 => ⟨(fun x2 => (fun h2 => (And.elim (fun h3 k3 => ⟨(And.elim (fun h4 k4 => ⟨h4, k4⟩) h3), ⟨trivial, ⟨trivial, ⟨trivial, ⟨trivial, ⟨trivial, (And.elim (fun h9 k9 => ⟨(And.elim (fun h10 k10 => ⟨h10, k10⟩) h9), ⟨trivial, (Exists.elim k9 fun x11 h11 => ⟨x11, (And.elim (fun h12 k12 => ⟨⟨⟨trivial, ⟨trivial, trivial⟩⟩, ⟨⟨trivial, trivial⟩, h12⟩⟩, ⟨trivial, ⟨trivial, ⟨trivial, ⟨⟨⟨trivial, ⟨Sub.refl _, ⟨trivial, ⟨Sub.refl _, ⟨trivial, ⟨Sub.refl _, ⟨trivial, ⟨Sub.refl _, ⟨trivial, ⟨Sub.refl _, ⟨trivial, ⟨Sub.refl _, ⟨trivial, ⟨Sub.refl _, ⟨trivial, ⟨Sub.refl _, ⟨trivial, ⟨Sub.refl _, ⟨trivial, ⟨Sub.refl _, ⟨trivial, ⟨Sub.refl _, ⟨trivial, ⟨Sub.refl _, ⟨trivial, ⟨Sub.refl _, ⟨trivial, ⟨Sub.refl _, ⟨trivial, ⟨Sub.refl _, trivial⟩⟩⟩⟩⟩⟩⟩⟩⟩⟩⟩⟩⟩⟩⟩⟩⟩⟩⟩⟩⟩⟩⟩⟩⟩⟩⟩⟩⟩⟩, ⟨⟨trivial, ⟨trivial, ⟨trivial, ⟨trivial, trivial⟩⟩⟩⟩, ⟨SubB.refl _, ⟨trivial, ⟨SubB.refl _, ⟨⟨trivial, ⟨trivial, ⟨trivial, ⟨trivial, trivial⟩⟩⟩⟩, ⟨SubB.refl _, ⟨⟨rfl, ⟨rfl, (MapEq.refl _)⟩⟩, ⟨trivial, ⟨SubB.refl _, ⟨trivial, ⟨SubB.refl _, ⟨trivial, ⟨SubB.refl _, trivial⟩⟩⟩⟩⟩⟩⟩⟩⟩⟩⟩⟩⟩⟩, k12⟩⟩⟩⟩⟩) h11)⟩)⟩⟩) k3)⟩⟩⟩⟩⟩⟩) h2)) (h1 x2)), (fun x2 => (fun h2 => ⟨trivial, ⟨trivial, (And.elim (fun h5 k5 => ⟨(And.elim (fun h6 k6 => ⟨((fun h7 => ⟨h7, rfl⟩) h6), (And.elim (fun h7 k7 => ⟨h7, (fun x8 => (fun h8 => (fun x9 => (fun h9 => h9) (h8 x9))) (k7 x8))⟩) k6)⟩) h5), ⟨trivial, ⟨trivial, ⟨trivial, ⟨trivial, ⟨trivial, ⟨trivial, ⟨trivial, ⟨trivial, (And.elim (fun h14 k14 => ⟨(fun x15 => (fun h15 => ⟨trivial, ⟨trivial, ⟨trivial, ⟨trivial, ⟨trivial, ⟨(And.elim (fun h22 k22 => ⟨((fun h23 => ⟨h23, rfl⟩) h22), (And.elim (fun h23 k23 => ⟨h23, (fun x24 => (fun h24 => (fun x25 => (fun h25 => h25) (h24 x25))) (k23 x24))⟩) k22)⟩) h5), ⟨trivial, ⟨trivial, ⟨trivial, ⟨trivial, ⟨⟨⟨trivial, trivial⟩, trivial⟩, (And.elim (fun h27 k27 => ⟨(And.elim (fun h28 k28 => ⟨h28, ⟨⟨(by decide), rfl⟩, (And.elim (fun h30 k30 => ⟨h30, k30⟩) k28)⟩⟩) h27), ⟨trivial, ⟨⟨⟨trivial, ⟨Sub.refl _, ⟨trivial, ⟨Sub.refl _, ⟨trivial, ⟨Sub.refl _, ⟨trivial, ⟨Sub.refl _, ⟨trivial, ⟨Sub.refl _, ⟨trivial, ⟨Sub.refl _, ⟨trivial, ⟨Sub.refl _, ⟨trivial, ⟨Sub.refl _, ⟨trivial, ⟨Sub.refl _, ⟨trivial, ⟨Sub.refl _, ⟨trivial, ⟨Sub.refl _, trivial⟩⟩⟩⟩⟩⟩⟩⟩⟩⟩⟩⟩⟩⟩⟩⟩⟩⟩⟩⟩⟩⟩, ⟨⟨trivial, ⟨trivial, ⟨trivial, ⟨trivial, trivial⟩⟩⟩⟩, ⟨SubB.refl _, ⟨trivial, ⟨SubB.refl _, ⟨⟨trivial, ⟨trivial, ⟨trivial, ⟨trivial, trivial⟩⟩⟩⟩, ⟨SubB.refl _, ⟨⟨rfl, ⟨rfl, (MapEq.refl _)⟩⟩, ⟨trivial, ⟨SubB.refl _, ⟨trivial, ⟨SubB.refl _, trivial⟩⟩⟩⟩⟩⟩⟩⟩⟩⟩⟩⟩, k27⟩⟩⟩) h15)⟩⟩⟩⟩⟩⟩⟩⟩⟩⟩⟩) (h14 x15)), (fun x15 => (fun h15 => ⟨⟨⟨trivial, ⟨Sub.refl _, ⟨trivial, ⟨Sub.refl _, ⟨trivial, ⟨Sub.refl _, ⟨trivial, ⟨Sub.refl _, ⟨trivial, ⟨Sub.refl _, ⟨trivial, ⟨Sub.refl _, ⟨trivial, ⟨Sub.refl _, ⟨trivial, ⟨Sub.refl _, ⟨trivial, ⟨Sub.refl _, ⟨trivial, ⟨Sub.refl _, ⟨trivial, ⟨Sub.refl _, trivial⟩⟩⟩⟩⟩⟩⟩⟩⟩⟩⟩⟩⟩⟩⟩⟩⟩⟩⟩⟩⟩⟩, ⟨⟨trivial, ⟨trivial, ⟨trivial, ⟨trivial, trivial⟩⟩⟩⟩, ⟨SubB.refl _, ⟨trivial, ⟨SubB.refl _, ⟨⟨trivial, ⟨trivial, ⟨trivial, ⟨trivial, trivial⟩⟩⟩⟩, ⟨SubB.refl _, ⟨⟨rfl, ⟨rfl, (MapEq.refl _)⟩⟩, ⟨trivial, ⟨SubB.refl _, ⟨trivial, ⟨SubB.refl _, trivial⟩⟩⟩⟩⟩⟩⟩⟩⟩⟩⟩⟩, h15⟩) (k14 x15))⟩) k5)⟩⟩⟩⟩⟩⟩⟩⟩⟩) h2)⟩⟩) (k1 x2))⟩) h)⟩)
theorem r44_2 (s : Nat) (k : Nat → Nat) (r : Nat → Nat → Int) (q : Nat) (b c : Int) (t : Nat) (u : Nat → Int) (C D n : Int) (g : Nat → Int) (d p : Nat) (o : Nat → Int) (v : Int) (a : Nat → Int) (j : Nat) (e : Nat → Nat) (l : Nat → Nat → Int) (f : Nat) (m : Nat → Int) (y w : Nat) (x : MapF) (z : Nat → Int) (B : Nat) (A : Nat → Int) (E : AV) (out : List (Nat × Nat × AV))
 (h : ((0 : Int) ≤ b ∧ b < (↑(256 : Nat) : Int)) ∧
 b.toNat < (256 : Nat) ∧
 ((0 : Int) ≤ a b.toNat ∧ a b.toNat < (↑(256 : Nat) : Int)) ∧
 (a b.toNat).toNat < (256 : Nat) ∧
 L44_3 s k r q t u C D n g d p o v a j e l f m y w x
 (fun (i : Nat) => bif i.beq (a b.toNat).toNat then IntKind.u8.wrap c else z i) B A E out) :
 L44_2 s k r q b c t u C D n g d p o v a j e l f m y w x z B A E out :=
 rule Go.Am.Seat.tabOk 44 [2000, 2001] Go.Proofs.Try.f44 hf44 [1, 1, 1, 1, 0, 1, 0, 0, 1, 1, 0, 0, 1, 1, 1, 1, 1] (s44_2 s k r q b c t u C D n g d p o v a j e l f m y w x z B A) (m44_2 s k r q b c t u C D n g d p o v a j e l f m y w x z B A) E out 400
 (Orc.cut (nat_lit 2)
 (s44_3 s k r q t u C D n g d p o v a j e l f m y w x
 (fun (i : Nat) => bif i.beq (a b.toNat).toNat then IntKind.u8.wrap c else z i) B A)
 (m44_3 s k r q t u C D n g d p o v a j e l f m y w x
 (fun (i : Nat) => bif i.beq (a b.toNat).toNat then IntKind.u8.wrap c else z i) B A)
 [((2000 : Nat), some (2000 : Nat)), ((2001 : Nat), some (2001 : Nat)), ((1001 : Nat), some (1001 : Nat)), ((1002 : Nat), some (1002 : Nat)),
 ((1003 : Nat), some (1003 : Nat)), ((1004 : Nat), some (1004 : Nat))]) _ _ (by kernel_rfl) (by kernel_rfl) (show True ∧
 True ∧
 ((0 : Int) ≤ b ∧ b < (↑(256 : Nat) : Int)) ∧
 ((1 : Nat) + (b.toNat * (1 : Nat) + (0 : Nat)) = plus (1 : Nat) (b.toNat * (1 : Nat)) ∧ b.toNat < (256 : Nat) ∧ True) ∧
 True ∧
 True ∧
 ((0 : Int) ≤ a b.toNat ∧ a b.toNat < (↑(256 : Nat) : Int)) ∧
 ((a b.toNat).toNat * (1 : Nat) + (0 : Nat) = (a b.toNat).toNat * (1 : Nat) ∧ ((a b.toNat).toNat < (256 : Nat) ∧ True) ∧ True) ∧
 ((True ∧
 SubS (.pt 2000 [] (0 : Nat)) ∧
 True ∧
 SubS (.vec true 1 s s fun (i0 : Nat) => .vec true 1 (k i0) (k i0) fun (i1 : Nat) => .sc (.int .i64 (r i0 i1))) ∧
 True ∧
 SubS (.pt 1001 [] (0 : Nat)) ∧
 True ∧
 SubS (AV.mp (1002 : Nat)) ∧
 True ∧
 SubS (.pt 1003 [] (0 : Nat)) ∧
 True ∧
 SubS (.rf 1004 1 0 q) ∧
 True ∧
 SubS (.vec true 1 t t fun (i0 : Nat) => .sc (.int .u8 (u i0))) ∧
 True ∧
 SubS (.sc (.int .i64 C)) ∧
 True ∧ SubS (.sc (.int .i64 D)) ∧ True) ∧
 (True ∧ True ∧ True ∧ True ∧ True) ∧
 SubBS (.cons 1 (.sc (.int .i64 n)) (.cons 256 (.ar 256 (1 : Nat) fun (i0 : Nat) => .sc (.int .u8 (g i0))) (.cons 1 (.sc (.slice none (0 : Nat) (0 : Nat))) (.cons 1 (.rf 2001 1 0 d) .nil)))) ∧
 True ∧
 SubBS (.ar p (1 : Nat) fun (i0 : Nat) => .sc (.int .i64 (o i0))) ∧
 (True ∧ True ∧ True ∧ True ∧ True) ∧
 SubBS (.cons 1 (.sc (.int .i64 v)) (.cons 256 (.ar 256 (1 : Nat) fun (i0 : Nat) => .sc (.int .u8 (a i0))) (.cons 1 (.vec true 1 j j fun (i0 : Nat) => .vec true 1 (e i0) (e i0) fun (i1 : Nat) => .sc (.int .i64 (l i0 i1))) (.cons 1 (.vec true 1 f f fun (i0 : Nat) => .sc (.int .i64 (m i0))) .nil)))) ∧
 (y = y ∧ w = w ∧ MapEq x x) ∧
 True ∧
 SubBS (.ar 256 (1 : Nat) fun (i : Nat) => .sc (.int .u8 (bif i.beq (a b.toNat).toNat then IntKind.u8.wrap c else z i))) ∧
 True ∧
 SubBS (.ar B (1 : Nat) fun (i0 : Nat) => .sc (.int .i64 (A i0))) ∧
 True) ∧
 L44_3 s k r q t u C D n g d p o v a j e l f m
 y w x (fun (i : Nat) => bif i.beq (a b.toNat).toNat then IntKind.u8.wrap c else z i) B A E out from
 ⟨trivial, ⟨trivial, (And.elim (fun h2 k2 => ⟨(And.elim (fun h3 k3 => ⟨h3, k3⟩) h2), (And.elim (fun h3 k3 => ⟨⟨rfl, ((fun h5 => ⟨h5, trivial⟩) h3)⟩, ⟨trivial, ⟨trivial, (And.elim (fun h6 k6 => ⟨(And.elim (fun h7 k7 => ⟨h7, k7⟩) h6), (And.elim (fun h7 k7 => ⟨⟨rfl, ((fun h9 => ⟨((fun h10 => ⟨h10, trivial⟩) h9), trivial⟩) h7)⟩, ⟨⟨⟨trivial, ⟨Sub.refl _, ⟨trivial, ⟨Sub.refl _, ⟨trivial, ⟨Sub.refl _, ⟨trivial, ⟨Sub.refl _, ⟨trivial, ⟨Sub.refl _, ⟨trivial, ⟨Sub.refl _, ⟨trivial, ⟨Sub.refl _, ⟨trivial, ⟨Sub.refl _, ⟨trivial, ⟨Sub.refl _, trivial⟩⟩⟩⟩⟩⟩⟩⟩⟩⟩⟩⟩⟩⟩⟩⟩⟩⟩, ⟨⟨trivial, ⟨trivial, ⟨trivial, ⟨trivial, trivial⟩⟩⟩⟩, ⟨SubB.refl _, ⟨trivial, ⟨SubB.refl _, ⟨⟨trivial, ⟨trivial, ⟨trivial, ⟨trivial, trivial⟩⟩⟩⟩, ⟨SubB.refl _, ⟨⟨rfl, ⟨rfl, (MapEq.refl _)⟩⟩, ⟨trivial, ⟨SubB.refl _, ⟨trivial, ⟨SubB.refl _, trivial⟩⟩⟩⟩⟩⟩⟩⟩⟩⟩⟩⟩, k7⟩⟩) k6)⟩) k3)⟩⟩⟩) k2)⟩) h)⟩⟩)
theorem r44_3 (o : Nat) (f : Nat → Nat) (n : Nat → Nat → Int) (m q : Nat) (r : Nat → Int) (z A j : Int) (d : Nat → Int) (a l : Nat) (k : Nat → Int) (s : Int) (p : Nat → Int) (e : Nat) (b : Nat → Nat) (g : Nat → Nat → Int) (c : Nat) (i : Nat → Int) (v t : Nat) (u : MapF) (w : Nat → Int) (y : Nat) (x : Nat → Int) (B : AV) (out : List (Nat × Nat × AV))
 (h : L44_0 o f n m q r z (IntKind.i64.wrap (A + (1 : Int))) j d a l k s p e b g
 c i v t u w y x B out) :
 L44_3 o f n m q r z A j d a l k s p e b g c i v t u w y x B out :=
 rule Go.Am.Seat.tabOk 44 [2000, 2001] Go.Proofs.Try.f44 hf44 [1, 1, 1, 1, 0, 1, 0, 0, 1, 1, 1] (s44_3 o f n m q r z A j d a l k s p e b g c i v t u w y x) (m44_3 o f n m q r z A j d a l k s p e b g c i v t u w y x) B out 400
 (Orc.cut (nat_lit 2)
 (s44_0 o f n m q r z (IntKind.i64.wrap (A + (1 : Int))) j d a l k s p e b g
 c i v t u w y x)
 (m44_0 o f n m q r z (IntKind.i64.wrap (A + (1 : Int))) j d a l k s p e b g
 c i v t u w y x)
 [((2000 : Nat), some (2000 : Nat)), ((2001 : Nat), some (2001 : Nat)), ((1001 : Nat), some (1001 : Nat)), ((1002 : Nat), some (1002 : Nat)),
 ((1003 : Nat), some (1003 : Nat)), ((1004 : Nat), some (1004 : Nat))]) _ _ (by kernel_rfl) (by kernel_rfl) (show True ∧
 True ∧
 ((True ∧
 SubS (.pt 2000 [] (0 : Nat)) ∧
 True ∧
 SubS (.vec true 1 o o fun (i0 : Nat) => .vec true 1 (f i0) (f i0) fun (i1 : Nat) => .sc (.int .i64 (n i0 i1))) ∧
 True ∧
 SubS (.pt 1001 [] (0 : Nat)) ∧
 True ∧
 SubS (AV.mp (1002 : Nat)) ∧
 True ∧
 SubS (.pt 1003 [] (0 : Nat)) ∧
 True ∧
 SubS (.rf 1004 1 0 m) ∧
 True ∧
 SubS (.vec true 1 q q fun (i0 : Nat) => .sc (.int .u8 (r i0))) ∧
 True ∧
 SubS (.sc (.int .i64 z)) ∧
 True ∧
 SubS (.sc (.int .i64 (IntKind.i64.wrap (A + (1 : Int))))) ∧
 True) ∧
 (True ∧ True ∧ True ∧ True ∧ True) ∧
 SubBS (.cons 1 (.sc (.int .i64 j)) (.cons 256 (.ar 256 (1 : Nat) fun (i0 : Nat) => .sc (.int .u8 (d i0))) (.cons 1 (.sc (.slice none (0 : Nat) (0 : Nat))) (.cons 1 (.rf 2001 1 0 a) .nil)))) ∧
 True ∧
 SubBS (.ar l (1 : Nat) fun (i0 : Nat) => .sc (.int .i64 (k i0))) ∧
 (True ∧ True ∧ True ∧ True ∧ True) ∧
 SubBS (.cons 1 (.sc (.int .i64 s)) (.cons 256 (.ar 256 (1 : Nat) fun (i0 : Nat) => .sc (.int .u8 (p i0))) (.cons 1 (.vec true 1 e e fun (i0 : Nat) => .vec true 1 (b i0) (b i0) fun (i1 : Nat) => .sc (.int .i64 (g i0 i1))) (.cons 1 (.vec true 1 c c fun (i0 : Nat) => .sc (.int .i64 (i i0))) .nil)))) ∧
 (v = v ∧ t = t ∧ MapEq u u) ∧
 True ∧
 SubBS (.ar 256 (1 : Nat) fun (i0 : Nat) => .sc (.int .u8 (w i0))) ∧
 True ∧
 SubBS (.ar y (1 : Nat) fun (i0 : Nat) => .sc (.int .i64 (x i0))) ∧
 True) ∧
 L44_0 o f n m q r z (IntKind.i64.wrap (A + (1 : Int))) j d a l k s p e b
 g c i v t u w y x B out from
 ⟨trivial, ⟨trivial, ⟨⟨⟨trivial, ⟨Sub.refl _, ⟨trivial, ⟨Sub.refl _, ⟨trivial, ⟨Sub.refl _, ⟨trivial, ⟨Sub.refl _, ⟨trivial, ⟨Sub.refl _, ⟨trivial, ⟨Sub.refl _, ⟨trivial, ⟨Sub.refl _, ⟨trivial, ⟨Sub.refl _, ⟨trivial, ⟨Sub.refl _, trivial⟩⟩⟩⟩⟩⟩⟩⟩⟩⟩⟩⟩⟩⟩⟩⟩⟩⟩, ⟨⟨trivial, ⟨trivial, ⟨trivial, ⟨trivial, trivial⟩⟩⟩⟩, ⟨SubB.refl _, ⟨trivial, ⟨SubB.refl _, ⟨⟨trivial, ⟨trivial, ⟨trivial, ⟨trivial, trivial⟩⟩⟩⟩, ⟨SubB.refl _, ⟨⟨rfl, ⟨rfl, (MapEq.refl _)⟩⟩, ⟨trivial, ⟨SubB.refl _, ⟨trivial, ⟨SubB.refl _, trivial⟩⟩⟩⟩⟩⟩⟩⟩⟩⟩⟩⟩, h⟩⟩⟩)
theorem r44_4 (c : Nat) (f : Nat → Nat) (n : Nat → Nat → Int) (m : Nat) (b g : Int) (d : Nat → Int) (a l : Nat) (k : Nat → Int) (w : Int) (e : Nat → Int) (q : Nat) (o : Nat → Nat) (r : Nat → Nat → Int) (p : Nat) (s t : Nat → Int) (v : Nat) (u : Nat → Int) (x : AV) (out : List (Nat × Nat × AV))
 (h : (decide (b < (256 : Int)) = true →
 ((0 : Int) ≤ b ∧ b < (↑(256 : Nat) : Int)) ∧
 b.toNat < (256 : Nat) ∧
 ((0 : Int) ≤ e b.toNat ∧ e b.toNat < (↑(256 : Nat) : Int)) ∧
 (e b.toNat).toNat < (256 : Nat) ∧
 L44_4 c f n m (IntKind.i64.wrap (b + (1 : Int))) g
 (fun (i : Nat) => bif i.beq b.toNat then t (e b.toNat).toNat else d i) a l k w e q o r
 p s t v u x out) ∧
 (decide (b < (256 : Int)) = false →
 L44_5 m c f n (↑c : Int) (0 : Int) g d (0 : Nat) a l k v u (0 : Nat) (fun (i : Nat) => (0 : Nat))
 (fun (i j : Nat) => Int.ofNat (0 : Nat)) x out)) :
 L44_4 c f n m b g d a l k w e q o r p s t v u x out :=
 rule Go.Am.Seat.tabOk 44 [2000, 2001] Go.Proofs.Try.f44 hf44 [1, 1, 1, 1, 1, 0, 1, 0, 0] (s44_4 c f n m b g d a l k w e q o r p s t v u) (m44_4 c f n m b g d a l k w e q o r p s t v u) x out 400
 ((Orc.cut (nat_lit 9)
 (s44_4 c f n m (IntKind.i64.wrap (b + (1 : Int))) g
 (fun (i : Nat) => bif i.beq b.toNat then t (e b.toNat).toNat else d i) a l k w e q o r
 p s t v u)
 (m44_4 c f n m (IntKind.i64.wrap (b + (1 : Int))) g
 (fun (i : Nat) => bif i.beq b.toNat then t (e b.toNat).toNat else d i) a l k w e q o r
 p s t v u)
 [((2000 : Nat), some (2000 : Nat)), ((2001 : Nat), some (2001 : Nat)), ((1001 : Nat), some (1001 : Nat)), ((1002 : Nat), some (1002 : Nat)),
 ((1003 : Nat), some (1003 : Nat))]).br
 (Orc.cut (nat_lit 5)
 (s44_5 m c f n (↑c : Int) (0 : Int) g d (0 : Nat) a l k v u (0 : Nat) (fun (i : Nat) => (0 : Nat))
 fun (i j : Nat) => Int.ofNat (0 : Nat))
 (m44_5 m c f n (↑c : Int) (0 : Int) g d (0 : Nat) a l k v u (0 : Nat) (fun (i : Nat) => (0 : Nat))
 fun (i j : Nat) => Int.ofNat (0 : Nat))
 [((2000 : Nat), some (2000 : Nat)), ((2001 : Nat), some (2001 : Nat)), ((1001 : Nat), some (1003 : Nat)), ((1002 : Nat), none)])) _ _ (by kernel_rfl) (by kernel_rfl) (show True ∧
 (decide (b < (256 : Int)) = true →
 True ∧
 True ∧
 True ∧
 True ∧
 True ∧
 True ∧
 ((0 : Int) ≤ b ∧ b < (↑(256 : Nat) : Int)) ∧
 ((1 : Nat) + (b.toNat * (1 : Nat) + (0 : Nat)) = plus (1 : Nat) (b.toNat * (1 : Nat)) ∧ b.toNat < (256 : Nat) ∧ True) ∧
 ((0 : Int) ≤ e b.toNat ∧ e b.toNat < (↑(256 : Nat) : Int)) ∧
 ((e b.toNat).toNat * (1 : Nat) + (0 : Nat) = (e b.toNat).toNat * (1 : Nat) ∧ (e b.toNat).toNat < (256 : Nat) ∧ True) ∧
 True ∧
 True ∧
 ((0 : Int) ≤ b ∧ b < (↑(256 : Nat) : Int)) ∧
 ((1 : Nat) + (b.toNat * (1 : Nat) + (0 : Nat)) = plus (1 : Nat) (b.toNat * (1 : Nat)) ∧
 (b.toNat < (256 : Nat) ∧ True) ∧ True) ∧
 True ∧
 True ∧
 ((True ∧
 SubS (.pt 2000 [] (0 : Nat)) ∧
 True ∧
 SubS (.vec true 1 c c fun (i0 : Nat) => .vec true 1 (f i0) (f i0) fun (i1 : Nat) => .sc (.int .i64 (n i0 i1))) ∧
 True ∧
 SubS (.pt 1001 [] (0 : Nat)) ∧
 True ∧
 SubS (.pt 1002 [] (0 : Nat)) ∧
 True ∧
 SubS (.rf 1003 1 0 m) ∧
 True ∧
 SubS (.sc (.int .i64 (IntKind.i64.wrap (b + (1 : Int))))) ∧
 True) ∧
 (True ∧ True ∧ True ∧ True ∧ True) ∧
 SubBS (.cons 1 (.sc (.int .i64 g)) (.cons 256 (.ar 256 (1 : Nat) fun (i : Nat) => .sc (.int .u8 (bif i.beq b.toNat then t (e b.toNat).toNat else d i))) (.cons 1 (.sc (.slice none (0 : Nat) (0 : Nat))) (.cons 1 (.rf 2001 1 0 a) .nil)))) ∧
 True ∧
 SubBS (.ar l (1 : Nat) fun (i0 : Nat) => .sc (.int .i64 (k i0))) ∧
 (True ∧ True ∧ True ∧ True ∧ True) ∧
 SubBS (.cons 1 (.sc (.int .i64 w)) (.cons 256 (.ar 256 (1 : Nat) fun (i0 : Nat) => .sc (.int .u8 (e i0))) (.cons 1 (.vec true 1 q q fun (i0 : Nat) => .vec true 1 (o i0) (o i0) fun (i1 : Nat) => .sc (.int .i64 (r i0 i1))) (.cons 1 (.vec true 1 p p fun (i0 : Nat) => .sc (.int .i64 (s i0))) .nil)))) ∧
 True ∧
 SubBS (.ar 256 (1 : Nat) fun (i0 : Nat) => .sc (.int .u8 (t i0))) ∧
 True ∧
 SubBS (.ar v (1 : Nat) fun (i0 : Nat) => .sc (.int .i64 (u i0))) ∧
 True) ∧
 L44_4 c f n m (IntKind.i64.wrap (b + (1 : Int))) g
 (fun (i : Nat) => bif i.beq b.toNat then t (e b.toNat).toNat else d i) a l k w
 e q o r p s t v u x out) ∧
 (decide (b < (256 : Int)) = false →
 True ∧
 True ∧
 True ∧
 ((True ∧
 SubS (.pt 2000 [] (0 : Nat)) ∧
 True ∧
 SubS (.rf 1001 1 0 m) ∧
 True ∧
 SubS (.vec true 1 c c fun (i0 : Nat) => .vec true 1 (f i0) (f i0) fun (i1 : Nat) => .sc (.int .i64 (n i0 i1))) ∧
 True ∧
 SubS (.sc (.int .i64 (↑c : Int))) ∧
 True ∧ SubS (.sc (.int .i64 (0 : Int))) ∧ True) ∧
 (True ∧ True ∧ True ∧ True ∧ True) ∧
 SubBS (.cons 1 (.sc (.int .i64 g)) (.cons 256 (.ar 256 (1 : Nat) fun (i0 : Nat) => .sc (.int .u8 (d i0))) (.cons 1 (.rf 1002 1 0 (0 : Nat)) (.cons 1 (.rf 2001 1 0 a) .nil)))) ∧
 True ∧
 SubBS (.ar l (1 : Nat) fun (i0 : Nat) => .sc (.int .i64 (k i0))) ∧
 True ∧
 SubBS (.ar v (1 : Nat) fun (i0 : Nat) => .sc (.int .i64 (u i0))) ∧
 True) ∧
 L44_5 m c f n (↑c : Int) (0 : Int) g d (0 : Nat) a l k v u (0 : Nat)
 (fun (i : Nat) => (0 : Nat)) (fun (i j : Nat) => Int.ofNat (0 : Nat)) x out) from
 ⟨trivial, (And.elim (fun h1 k1 => ⟨(fun x2 => (fun h2 => ⟨trivial, ⟨trivial, ⟨trivial, ⟨trivial, ⟨trivial, ⟨trivial, (And.elim (fun h9 k9 => ⟨(And.elim (fun h10 k10 => ⟨h10, k10⟩) h9), (And.elim (fun h10 k10 => ⟨⟨rfl, ((fun h12 => ⟨h12, trivial⟩) h10)⟩, (And.elim (fun h11 k11 => ⟨(And.elim (fun h12 k12 => ⟨h12, k12⟩) h11), (And.elim (fun h12 k12 => ⟨⟨rfl, ((fun h14 => ⟨h14, trivial⟩) h12)⟩, ⟨trivial, ⟨trivial, ⟨(And.elim (fun h16 k16 => ⟨h16, k16⟩) h9), ⟨⟨rfl, ⟨⟨h10, trivial⟩, trivial⟩⟩, ⟨trivial, ⟨trivial, ⟨⟨⟨trivial, ⟨Sub.refl _, ⟨trivial, ⟨Sub.refl _, ⟨trivial, ⟨Sub.refl _, ⟨trivial, ⟨Sub.refl _, ⟨trivial, ⟨Sub.refl _, ⟨trivial, ⟨Sub.refl _, trivial⟩⟩⟩⟩⟩⟩⟩⟩⟩⟩⟩⟩, ⟨⟨trivial, ⟨trivial, ⟨trivial, ⟨trivial, trivial⟩⟩⟩⟩, ⟨SubB.refl _, ⟨trivial, ⟨SubB.refl _, ⟨⟨trivial, ⟨trivial, ⟨trivial, ⟨trivial, trivial⟩⟩⟩⟩, ⟨SubB.refl _, ⟨trivial, ⟨SubB.refl _, ⟨trivial, ⟨SubB.refl _, trivial⟩⟩⟩⟩⟩⟩⟩⟩⟩⟩⟩, k12⟩⟩⟩⟩⟩⟩⟩⟩) k11)⟩) k10)⟩) k9)⟩) h2)⟩⟩⟩⟩⟩⟩) (h1 x2)), (fun x2 => (fun h2 => ⟨trivial, ⟨trivial, ⟨trivial, ⟨⟨⟨trivial, ⟨Sub.refl _, ⟨trivial, ⟨Sub.refl _, ⟨trivial, ⟨Sub.refl _, ⟨trivial, ⟨Sub.refl _, ⟨trivial, ⟨Sub.refl _, trivial⟩⟩⟩⟩⟩⟩⟩⟩⟩⟩, ⟨⟨trivial, ⟨trivial, ⟨trivial, ⟨trivial, trivial⟩⟩⟩⟩, ⟨SubB.refl _, ⟨trivial, ⟨SubB.refl _, ⟨trivial, ⟨SubB.refl _, trivial⟩⟩⟩⟩⟩⟩⟩, h2⟩⟩⟩⟩) (k1 x2))⟩) h)⟩)
theorem r44_5 (a o : Nat) (e : Nat → Nat) (m : Nat → Nat → Int) (q f g : Int) (d : Nat → Int) (c b j : Nat) (i : Nat → Int) (s : Nat) (r : Nat → Int) (p : Nat) (l : Nat → Nat) (n : Nat → Nat → Int) (t : AV) (out : List (Nat × Nat × AV))
 (h : (decide (f < q) = true →
 ((0 : Int) ≤ f ∧ f < (↑o : Int)) ∧
 ((0 : Int) ≤ (↑a : Int) ∧
 (↑a : Int) ≤ (↑a : Int) ∧ (↑a : Int).toNat * (8 : Nat) ≤ (140737488355328 : Nat) ∧ (↑a : Int) ≤ (140737488355328 : Int)) ∧
 L44_6 a (e f.toNat) (m f.toNat) (↑a : Int).toNat o e m q f a (↑a : Int) (0 : Int) g d
 c b j i s r (↑a : Int).toNat (fun (x : Nat) => (0 : Int)) p l n t out) ∧
 (decide (f < q) = false →
 Sub AV.nil.tup t ∧
 SubOut
 [((2000 : Nat), (26 : Nat),
 .cons 1 (.sc (.int .i64 g))
 (.cons 256 (.ar 256 (1 : Nat) fun (i0 : Nat) => .sc (.int .u8 (d i0)))
 (.cons 1 (.rf 1000 1 0 c)
 (.cons 1 (.rf 2001 1 0 b) .nil)))),
 ((2001 : Nat), (3 : Nat), .ar j (1 : Nat) fun (i0 : Nat) => .sc (.int .i64 (i i0))),
 ((1000 : Nat), (24 : Nat),
 AV.av p (1 : Nat) fun (i0 : Nat) =>
 AV.ow (3 : Nat) (0 : Nat) (1 : Nat) (l i0) (l i0) fun (i1 : Nat) => .sc (.int .i64 (n i0 i1)))]
 out)) :
 L44_5 a o e m q f g d c b j i s r p l n t out :=
 rule Go.Am.Seat.tabOk 44 [2000, 2001] Go.Proofs.Try.f44 hf44 [1, 1, 1, 1, 1, 1, 1, 0, 0] (s44_5 a o e m q f g d c b j i s r p l n) (m44_5 a o e m q f g d c b j i s r p l n) t out 400
 ((Orc.cut (nat_lit 12)
 (s44_6 a (e f.toNat) (m f.toNat) (↑a : Int).toNat o e m q f a (↑a : Int) (0 : Int) g d
 c b j i s r (↑a : Int).toNat (fun (x : Nat) => (0 : Int)) p l n)
 (m44_6 a (e f.toNat) (m f.toNat) (↑a : Int).toNat o e m q f a (↑a : Int) (0 : Int) g d
 c b j i s r (↑a : Int).toNat (fun (x : Nat) => (0 : Int)) p l n)
 [((2000 : Nat), some (2000 : Nat)), ((2001 : Nat), some (2001 : Nat)), ((1001 : Nat), some (1001 : Nat)), ((1002 : Nat), some (95 : Nat)),
 ((1004 : Nat), some (1002 : Nat))]).br
 (Orc.fin AV.nil.tup
 [((2000 : Nat), (26 : Nat),
 .cons 1 (.sc (.int .i64 g))
 (.cons 256 (.ar 256 (1 : Nat) fun (i0 : Nat) => .sc (.int .u8 (d i0)))
 (.cons 1 (.rf 1000 1 0 c)
 (.cons 1 (.rf 2001 1 0 b) .nil)))),
 ((2001 : Nat), (3 : Nat), .ar j (1 : Nat) fun (i0 : Nat) => .sc (.int .i64 (i i0))),
 ((1000 : Nat), (24 : Nat),
 AV.av p (1 : Nat) fun (i0 : Nat) =>
 AV.ow (3 : Nat) (0 : Nat) (1 : Nat) (l i0) (l i0) fun (i1 : Nat) => .sc (.int .i64 (n i0 i1)))]
 [((2000 : Nat), some (2000 : Nat)), ((2001 : Nat), some (2001 : Nat)), ((1000 : Nat), some (1002 : Nat))])) _ _ (by kernel_rfl) (by kernel_rfl) (show True ∧
 (decide (f < q) = true →
 ((0 : Int) ≤ f ∧ f < (↑o : Int)) ∧
 True ∧
 True ∧
 True ∧
 True ∧
 ((0 : Int) ≤ (↑a : Int) ∧
 (↑a : Int) ≤ (↑a : Int) ∧
 (↑a : Int).toNat * (8 : Nat) ≤ (140737488355328 : Nat) ∧ (↑a : Int) ≤ (140737488355328 : Int)) ∧
 True ∧
 True ∧
 True ∧
 True ∧
 ((True ∧
 SubS (.pt 2000 [] (0 : Nat)) ∧
 True ∧
 SubS (.rf 1001 1 0 a) ∧
 True ∧
 SubS (.vec true 1 (e f.toNat) (e f.toNat) fun (i1 : Nat) => .sc (.int .i64 (m f.toNat i1))) ∧
 True ∧
 SubS (.rf 1002 1 0 (↑a : Int).toNat) ∧
 True ∧
 SubS (.vec true 1 o o fun (i0 : Nat) => .vec true 1 (e i0) (e i0) fun (i1 : Nat) => .sc (.int .i64 (m i0 i1))) ∧
 True ∧
 SubS (.sc (.int .i64 q)) ∧
 True ∧
 SubS (.sc (.int .i64 f)) ∧
 True ∧
 SubS (.rf 1001 1 0 a) ∧
 True ∧
 SubS (.sc (.int .i64 (↑a : Int))) ∧
 True ∧
 SubS (.sc (.int .i64 (0 : Int))) ∧
 True) ∧
 (True ∧ True ∧ True ∧ True ∧ True) ∧
 SubBS (.cons 1 (.sc (.int .i64 g)) (.cons 256 (.ar 256 (1 : Nat) fun (i0 : Nat) => .sc (.int .u8 (d i0))) (.cons 1 (.rf 1004 1 0 c) (.cons 1 (.rf 2001 1 0 b) .nil)))) ∧
 True ∧
 SubBS (.ar j (1 : Nat) fun (i0 : Nat) => .sc (.int .i64 (i i0))) ∧
 True ∧
 SubBS (.ar s (1 : Nat) fun (i0 : Nat) => .sc (.int .i64 (r i0))) ∧
 True ∧
 SubB (.ar (↑a : Int).toNat (1 : Nat) fun (x : Nat) => .sc (.int .i64 (0 : Int)))
 (.ar (↑a : Int).toNat (1 : Nat) fun (i0 : Nat) => .sc (.int .i64 (0 : Int))) ∧
 (p ≤ p ∧
 ∀ (k : Nat),
 k < p →
 SubO true
 (AV.ow (3 : Nat) (0 : Nat) (1 : Nat) (l k) (l k) fun (i1 : Nat) =>
 .sc (.int .i64 (n k i1)))
 (AV.ow (3 : Nat) (0 : Nat) (1 : Nat) (l k) (l k) fun (i1 : Nat) =>
 .sc (.int .i64 (n k i1)))) ∧
 True) ∧
 L44_6 a (e f.toNat) (m f.toNat) (↑a : Int).toNat o e m q f a (↑a : Int) (0 : Int)
 g d c b j i s r (↑a : Int).toNat (fun (x : Nat) => (0 : Int)) p l n t
 out) ∧
 (decide (f < q) = false →
 True ∧
 ((True ∧ SubS AV.nil.tup ∧ True) ∧
 (True ∧ True ∧ True ∧ True ∧ True) ∧
 SubBS (.cons 1 (.sc (.int .i64 g)) (.cons 256 (.ar 256 (1 : Nat) fun (i0 : Nat) => .sc (.int .u8 (d i0))) (.cons 1 (.rf 1000 1 0 c) (.cons 1 (.rf 2001 1 0 b) .nil)))) ∧
 True ∧
 SubBS (.ar j (1 : Nat) fun (i0 : Nat) => .sc (.int .i64 (i i0))) ∧
 (p ≤ p ∧
 ∀ (k : Nat),
 k < p →
 SubO true (AV.ow (3 : Nat) (0 : Nat) (1 : Nat) (l k) (l k) fun (i1 : Nat) => .sc (.int .i64 (n k i1)))
 (AV.ow (3 : Nat) (0 : Nat) (1 : Nat) (l k) (l k) fun (i1 : Nat) => .sc (.int .i64 (n k i1)))) ∧
 True) ∧
 Sub AV.nil.tup t ∧
 SubOut
 [((2000 : Nat), (26 : Nat),
 .cons 1 (.sc (.int .i64 g))
 (.cons 256 (.ar 256 (1 : Nat) fun (i0 : Nat) => .sc (.int .u8 (d i0)))
 (.cons 1 (.rf 1000 1 0 c)
 (.cons 1 (.rf 2001 1 0 b) .nil)))),
 ((2001 : Nat), (3 : Nat), .ar j (1 : Nat) fun (i0 : Nat) => .sc (.int .i64 (i i0))),
 ((1000 : Nat), (24 : Nat),
 AV.av p (1 : Nat) fun (i0 : Nat) =>
 AV.ow (3 : Nat) (0 : Nat) (1 : Nat) (l i0) (l i0) fun (i1 : Nat) => .sc (.int .i64 (n i0 i1)))]
 out) from
 ⟨trivial, (And.elim (fun h1 k1 => ⟨(fun x2 => (fun h2 => (And.elim (fun h3 k3 => ⟨(And.elim (fun h4 k4 => ⟨h4, k4⟩) h3), ⟨trivial, ⟨trivial, ⟨trivial, ⟨trivial, (And.elim (fun h8 k8 => ⟨(And.elim (fun h9 k9 => ⟨h9, (And.elim (fun h10 k10 => ⟨h10, (And.elim (fun h11 k11 => ⟨h11, k11⟩) k10)⟩) k9)⟩) h8), ⟨trivial, ⟨trivial, ⟨trivial, ⟨trivial, ⟨⟨⟨trivial, ⟨Sub.refl _, ⟨trivial, ⟨Sub.refl _, ⟨trivial, ⟨Sub.refl _, ⟨trivial, ⟨Sub.refl _, ⟨trivial, ⟨Sub.refl _, ⟨trivial, ⟨Sub.refl _, ⟨trivial, ⟨Sub.refl _, ⟨trivial, ⟨Sub.refl _, ⟨trivial, ⟨Sub.refl _, ⟨trivial, ⟨Sub.refl _, trivial⟩⟩⟩⟩⟩⟩⟩⟩⟩⟩⟩⟩⟩⟩⟩⟩⟩⟩⟩⟩, ⟨⟨trivial, ⟨trivial, ⟨trivial, ⟨trivial, trivial⟩⟩⟩⟩, ⟨SubB.refl _, ⟨trivial, ⟨SubB.refl _, ⟨trivial, ⟨SubB.refl _, ⟨trivial, ⟨SubB.refl _, ⟨⟨(Nat.le_refl _), (fun x25 => (fun x26 => (SubO.refl _ _)))⟩, trivial⟩⟩⟩⟩⟩⟩⟩⟩⟩⟩, k8⟩⟩⟩⟩⟩⟩) k3)⟩⟩⟩⟩⟩) h2)) (h1 x2)), (fun x2 => (fun h2 => ⟨trivial, ⟨⟨⟨trivial, ⟨Sub.refl _, trivial⟩⟩, ⟨⟨trivial, ⟨trivial, ⟨trivial, ⟨trivial, trivial⟩⟩⟩⟩, ⟨SubB.refl _, ⟨trivial, ⟨SubB.refl _, ⟨⟨(Nat.le_refl _), (fun x12 => (fun x13 => (SubO.refl _ _)))⟩, trivial⟩⟩⟩⟩⟩⟩, (And.elim (fun h5 k5 => ⟨h5, k5⟩) h2)⟩⟩) (k1 x2))⟩) h)⟩)
theorem r44_6 (o u : Nat) (t : Nat → Int) (e q : Nat) (f : Nat → Nat) (p : Nat → Nat → Int) (y z : Int) (A : Nat) (B c g : Int) (d : Nat → Int) (a b l : Nat) (j : Nat → Int) (v : Nat) (r : Nat → Int) (x : Nat) (w : Nat → Int) (C : Nat) (m : Nat → Nat) (s : Nat → Nat → Int) (D : AV) (out : List (Nat × Nat × AV))
 (h : (decide (c < B) = true →
 ((0 : Int) ≤ c ∧ c < (↑A : Int)) ∧
 c.toNat < v ∧
 ((0 : Int) ≤ r c.toNat ∧ r c.toNat < (↑u : Int)) ∧
 ((0 : Int) ≤ c ∧ c < (↑e : Int)) ∧
 c.toNat < x ∧
 L44_6 o u t e q f p y z A B (IntKind.i64.wrap (c + (1 : Int))) g d a b l
 j v r x (fun (i : Nat) => bif i.beq c.toNat then t (r c.toNat).toNat else w i) C m s D out) ∧
 (decide (c < B) = false →
 (a ≤ C ∧ (a + (1 : Nat)) * (24 : Nat) ≤ (140737488355328 : Nat) ∧ a + (1 : Nat) ≤ maxLen) ∧
 e ≤ x ∧
 (∀ (k : Nat),
 k < a + (1 : Nat) →
 SubO true
 (AV.ow (3 : Nat) (0 : Nat) (1 : Nat) (bif k.beq a then e else m k) (bif k.beq a then x else m k) fun (i : Nat) =>
 .sc (.int .i64 (bif k.beq a then w i else s k i)))
 (AV.ow (3 : Nat) (0 : Nat) (1 : Nat) (bif k.beq a then e else m k) (bif k.beq a then e else m k) fun (i1 : Nat) =>
 .sc (.int .i64 (bif k.beq a then w i1 else s k i1)))) ∧
 L44_5 o q f p y (IntKind.i64.wrap (z + (1 : Int))) g d (a + (1 : Nat)) b l j v r
 (a + (1 : Nat)) (fun (i : Nat) => bif i.beq a then e else m i)
 (fun (i i_1 : Nat) => bif i.beq a then w i_1 else s i i_1) D out)) :
 L44_6 o u t e q f p y z A B c g d a b l j v r x w C m s D out :=
 rule Go.Am.Seat.tabOk 44 [2000, 2001] Go.Proofs.Try.f44 hf44 [1, 1, 1, 1, 1, 1, 1, 0, 0, 1, 1, 0, 0, 1, 1, 0, 1, 0, 0] (s44_6 o u t e q f p y z A B c g d a b l j v r x w C m s) (m44_6 o u t e q f p y z A B c g d a b l j v r x w C m s) D out 400
 ((Orc.cut (nat_lit 9)
 (s44_6 o u t e q f p y z A B (IntKind.i64.wrap (c + (1 : Int))) g d a b l j
 v r x (fun (i : Nat) => bif i.beq (plus (0 : Nat) c.toNat) then t (r (plus (0 : Nat) c.toNat)).toNat else w i) C m s)
 (m44_6 o u t e q f p y z A B (IntKind.i64.wrap (c + (1 : Int))) g d a b l j
 v r x (fun (i : Nat) => bif i.beq (plus (0 : Nat) c.toNat) then t (r (plus (0 : Nat) c.toNat)).toNat else w i) C m s)
 [((2000 : Nat), some (2000 : Nat)), ((2001 : Nat), some (2001 : Nat)), ((1001 : Nat), some (1001 : Nat)), ((1002 : Nat), some (1002 : Nat)),
 ((1004 : Nat), some (1004 : Nat))]).br
 (Orc.ch Ch.none
 (Orc.ch Ch.none
 (Orc.ch Ch.none
 (Orc.ch Ch.none
 (Orc.ch Ch.none
 (Orc.ch Ch.none
 (Orc.ch (Ch.n (1 : Nat))
 (Orc.ch (Ch.n (0 : Nat))
 (Orc.cls (118 : Nat)
 (Orc.cut (nat_lit 3)
 (s44_5 o q f p y (IntKind.i64.wrap (z + (1 : Int))) g d (a + (1 : Nat)) b l j
 v r (a + (1 : Nat)) (fun (i : Nat) => bif i.beq a then e else m i) fun (i i_1 : Nat) =>
 bif i.beq a then w i_1 else s i i_1)
 (m44_5 o q f p y (IntKind.i64.wrap (z + (1 : Int))) g d (a + (1 : Nat)) b l j
 v r (a + (1 : Nat)) (fun (i : Nat) => bif i.beq a then e else m i) fun (i i_1 : Nat) =>
 bif i.beq a then w i_1 else s i i_1)
 [((2000 : Nat), some (2000 : Nat)), ((2001 : Nat), some (2001 : Nat)), ((1001 : Nat), some (1001 : Nat)),
 ((1002 : Nat), some (118 : Nat))]))))))))))) _ _ (by kernel_rfl) (by kernel_rfl) (show True ∧
 (decide (c < B) = true →
 True ∧
 ((0 : Int) ≤ c ∧ c < (↑A : Int)) ∧
 (c.toNat * (1 : Nat) + (0 : Nat) = c.toNat * (1 : Nat) ∧ c.toNat < v ∧ True) ∧
 True ∧
 True ∧
 True ∧
 True ∧
 True ∧
 True ∧
 ((0 : Int) ≤ r c.toNat ∧ r c.toNat < (↑u : Int)) ∧
 True ∧
 ((0 : Int) ≤ c ∧ c < (↑e : Int)) ∧
 (c.toNat * (1 : Nat) + (0 : Nat) = c.toNat * (1 : Nat) ∧ (c.toNat < x ∧ True) ∧ True) ∧
 True ∧
 True ∧
 ((True ∧
 SubS (.pt 2000 [] (0 : Nat)) ∧
 True ∧
 SubS (.rf 1001 1 0 o) ∧
 True ∧
 SubS (.vec true 1 u u fun (i0 : Nat) => .sc (.int .i64 (t i0))) ∧
 True ∧
 SubS (.rf 1002 1 0 e) ∧
 True ∧
 SubS (.vec true 1 q q fun (i0 : Nat) => .vec true 1 (f i0) (f i0) fun (i1 : Nat) => .sc (.int .i64 (p i0 i1))) ∧
 True ∧
 SubS (.sc (.int .i64 y)) ∧
 True ∧
 SubS (.sc (.int .i64 z)) ∧
 True ∧
 SubS (.rf 1001 1 0 A) ∧
 True ∧
 SubS (.sc (.int .i64 B)) ∧
 True ∧
 SubS (.sc (.int .i64 (IntKind.i64.wrap (c + (1 : Int))))) ∧
 True) ∧
 (True ∧ True ∧ True ∧ True ∧ True) ∧
 SubBS (.cons 1 (.sc (.int .i64 g)) (.cons 256 (.ar 256 (1 : Nat) fun (i0 : Nat) => .sc (.int .u8 (d i0))) (.cons 1 (.rf 1004 1 0 a) (.cons 1 (.rf 2001 1 0 b) .nil)))) ∧
 True ∧
 SubBS (.ar l (1 : Nat) fun (i0 : Nat) => .sc (.int .i64 (j i0))) ∧
 True ∧
 SubBS (.ar v (1 : Nat) fun (i0 : Nat) => .sc (.int .i64 (r i0))) ∧
 True ∧
 SubBS (.ar x (1 : Nat) fun (i : Nat) => .sc (.int .i64 (bif i.beq c.toNat then t (r c.toNat).toNat else w i))) ∧
 (C ≤ C ∧
 ∀ (k : Nat),
 k < C →
 SubO true
 (AV.ow (3 : Nat) (0 : Nat) (1 : Nat) (m k) (m k) fun (i1 : Nat) =>
 .sc (.int .i64 (s k i1)))
 (AV.ow (3 : Nat) (0 : Nat) (1 : Nat) (m k) (m k) fun (i1 : Nat) =>
 .sc (.int .i64 (s k i1)))) ∧
 True) ∧
 L44_6 o u t e q f p y z A B (IntKind.i64.wrap (c + (1 : Int))) g d
 a b l j v r x
 (fun (i : Nat) => bif i.beq c.toNat then t (r c.toNat).toNat else w i) C m s D out) ∧
 (decide (c < B) = false →
 True ∧
 True ∧
 True ∧
 True ∧
 ((1 : Nat) + ((256 : Nat) + (0 : Nat)) = (257 : Nat) ∧ True) ∧
 True ∧
 True ∧
 (True ∧ a ≤ C ∧ (a + (1 : Nat)) * (24 : Nat) ≤ (140737488355328 : Nat) ∧ a + (1 : Nat) ≤ maxLen) ∧
 True ∧
 True ∧
 ((1 : Nat) + ((256 : Nat) + (0 : Nat)) = (257 : Nat) ∧ True) ∧
 e ≤ x ∧
 True ∧
 True ∧
 ((True ∧
 SubS (.pt 2000 [] (0 : Nat)) ∧
 True ∧
 SubS (.rf 1001 1 0 o) ∧
 True ∧
 SubS (.vec true 1 q q fun (i0 : Nat) => .vec true 1 (f i0) (f i0) fun (i1 : Nat) => .sc (.int .i64 (p i0 i1))) ∧
 True ∧
 SubS (.sc (.int .i64 y)) ∧
 True ∧
 SubS (.sc (.int .i64 (IntKind.i64.wrap (z + (1 : Int))))) ∧
 True) ∧
 (True ∧ True ∧ True ∧ True ∧ True) ∧
 SubBS (.cons 1 (.sc (.int .i64 g)) (.cons 256 (.ar 256 (1 : Nat) fun (i0 : Nat) => .sc (.int .u8 (d i0))) (.cons 1 (.rf 1002 1 0 (a + (1 : Nat))) (.cons 1 (.rf 2001 1 0 b) .nil)))) ∧
 True ∧
 SubBS (.ar l (1 : Nat) fun (i0 : Nat) => .sc (.int .i64 (j i0))) ∧
 True ∧
 SubBS (.ar v (1 : Nat) fun (i0 : Nat) => .sc (.int .i64 (r i0))) ∧
 (a + (1 : Nat) ≤ a + (1 : Nat) ∧
 ∀ (k : Nat),
 k < a + (1 : Nat) →
 SubO true
 (AV.ow (3 : Nat) (0 : Nat) (1 : Nat) (bif k.beq a then e else m k)
 (bif k.beq a then x else m k) fun (i : Nat) =>
 .sc (.int .i64 (bif k.beq a then w i else s k i)))
 (AV.ow (3 : Nat) (0 : Nat) (1 : Nat) (bif k.beq a then e else m k)
 (bif k.beq a then e else m k) fun (i1 : Nat) =>
 .sc (.int .i64 (bif k.beq a then w i1 else s k i1)))) ∧
 True) ∧
 L44_5 o q f p y (IntKind.i64.wrap (z + (1 : Int))) g d (a + (1 : Nat)) b
 l j v r (a + (1 : Nat)) (fun (i : Nat) => bif i.beq a then e else m i)
 (fun (i i_1 : Nat) => bif i.beq a then w i_1 else s i i_1) D out) from
 ⟨trivial, (And.elim (fun h1 k1 => ⟨(fun x2 => (fun h2 => ⟨trivial, (And.elim (fun h4 k4 => ⟨(And.elim (fun h5 k5 => ⟨h5, k5⟩) h4), (And.elim (fun h5 k5 => ⟨⟨rfl, ((fun h7 => ⟨h7, trivial⟩) h5)⟩, ⟨trivial, ⟨trivial, ⟨trivial, ⟨trivial, ⟨trivial, ⟨trivial, (And.elim (fun h12 k12 => ⟨(And.elim (fun h13 k13 => ⟨h13, k13⟩) h12), ⟨trivial, (And.elim (fun h14 k14 => ⟨(And.elim (fun h15 k15 => ⟨h15, k15⟩) h14), (And.elim (fun h15 k15 => ⟨⟨rfl, ((fun h17 => ⟨((fun h18 => ⟨h18, trivial⟩) h17), trivial⟩) h15)⟩, ⟨trivial, ⟨trivial, ⟨⟨⟨trivial, ⟨Sub.refl _, ⟨trivial, ⟨Sub.refl _, ⟨trivial, ⟨Sub.refl _, ⟨trivial, ⟨Sub.refl _, ⟨trivial, ⟨Sub.refl _, ⟨trivial, ⟨Sub.refl _, ⟨trivial, ⟨Sub.refl _, ⟨trivial, ⟨Sub.refl _, ⟨trivial, ⟨Sub.refl _, ⟨trivial, ⟨Sub.refl _, trivial⟩⟩⟩⟩⟩⟩⟩⟩⟩⟩⟩⟩⟩⟩⟩⟩⟩⟩⟩⟩, ⟨⟨trivial, ⟨trivial, ⟨trivial, ⟨trivial, trivial⟩⟩⟩⟩, ⟨SubB.refl _, ⟨trivial, ⟨SubB.refl _, ⟨trivial, ⟨SubB.refl _, ⟨trivial, ⟨SubB.refl _, ⟨⟨(Nat.le_refl _), (fun x30 => (fun x31 => (SubO.refl _ _)))⟩, trivial⟩⟩⟩⟩⟩⟩⟩⟩⟩⟩, k15⟩⟩⟩⟩) k14)⟩) k12)⟩⟩) k5)⟩⟩⟩⟩⟩⟩⟩) k4)⟩) h2)⟩) (h1 x2)), (fun x2 => (fun h2 => ⟨trivial, ⟨trivial, ⟨trivial, ⟨trivial, ⟨⟨rfl, trivial⟩, ⟨trivial, ⟨trivial, (And.elim (fun h10 k10 => ⟨⟨trivial, (And.elim (fun h12 k12 => ⟨h12, (And.elim (fun h13 k13 => ⟨h13, k13⟩) k12)⟩) h10)⟩, ⟨trivial, ⟨trivial, ⟨⟨rfl, trivial⟩, (And.elim (fun h14 k14 => ⟨h14, ⟨trivial, ⟨trivial, (And.elim (fun h17 k17 => ⟨⟨⟨trivial, ⟨Sub.refl _, ⟨trivial, ⟨Sub.refl _, ⟨trivial, ⟨Sub.refl _, ⟨trivial, ⟨Sub.refl _, ⟨trivial, ⟨Sub.refl _, trivial⟩⟩⟩⟩⟩⟩⟩⟩⟩⟩, ⟨⟨trivial, ⟨trivial, ⟨trivial, ⟨trivial, trivial⟩⟩⟩⟩, ⟨SubB.refl _, ⟨trivial, ⟨SubB.refl _, ⟨trivial, ⟨SubB.refl _, ((fun h25 => ⟨⟨(Nat.le_refl _), (fun x27 => (fun h27 => (fun x28 => (fun h28 => h28) (h27 x28))) (h25 x27))⟩, trivial⟩) h17)⟩⟩⟩⟩⟩⟩⟩, k17⟩) k14)⟩⟩⟩) k10)⟩⟩⟩⟩) h2)⟩⟩⟩⟩⟩⟩⟩) (k1 x2))⟩) h)⟩)
theorem hf54 : Go.Proofs.Try.prog.funcs[54]? = some Go.Proofs.Try.f54 := by kernel_rfl
abbrev s54_e (a : Nat) (b : Nat → Int) : List (Nat × AV) := [(0, (.vec true 1 a a (fun i0 => (.sc (.int .u8 (b i0))))))]
abbrev m54_e (b : Nat) (a : Nat → Int) : List (Nat × Nat × AV) := []
def L54_e (c : Nat) (b : Nat → Int) (a : AV) : Prop := Goes ⟨Go.Proofs.Try.prog, 54, [], a, []⟩ (place Go.Proofs.Try.f54 []) (s54_e c b) (m54_e c b)
theorem a54_e (c : Nat) (b : Nat → Int) (a : AV) (h : (∀ slot, fact (look .undef (s54_e c b) slot)) → L54_e c b a) : L54_e c b a :=
 assumeRule 54 [] Go.Proofs.Try.f54 hf54 [] (s54_e c b) (m54_e c b) a [] _ (by kernel_rfl) h
abbrev s54_0 (a : Nat) (b : Nat → Int) : List (Nat × AV) := [(0, (.vec true 1 a a (fun i0 => (.sc (.int .u8 (b i0))))))]
abbrev m54_0 (b : Nat) (a : Nat → Int) : List (Nat × Nat × AV) := []
def L54_0 (c : Nat) (b : Nat → Int) (a : AV) : Prop := Goes ⟨Go.Proofs.Try.prog, 54, [], a, []⟩ (place Go.Proofs.Try.f54 [1, 1]) (s54_0 c b) (m54_0 c b)
abbrev s54_1 (a : Nat) (b : Nat → Int) (m i : Int) : List (Nat × AV) := [(0, (.vec true 1 a a (fun i0 => (.sc (.int .u8 (b i0)))))), (3, (.sc (.int .u8 m))), (4, (.sc (.int .i64 i)))]
abbrev m54_1 (b : Nat) (a : Nat → Int) (m i : Int) : List (Nat × Nat × AV) := []
def L54_1 (c : Nat) (b : Nat → Int) (m i : Int) (a : AV) : Prop := Goes ⟨Go.Proofs.Try.prog, 54, [], a, []⟩ (place Go.Proofs.Try.f54 [1, 1, 1, 0, 1, 0, 0]) (s54_1 c b m i) (m54_1 c b m i)
theorem o54 (b : Nat) (c : Nat → Int) (a : AV) (d : newOnly a) (h : L54_e b c a) : Ok Go.Proofs.Try.prog 54 [(.vec true 1 b b (fun i0 => (.sc (.int .u8 (c i0)))))] [] a [] :=
 okRule2 54 Go.Proofs.Try.f54 hf54 [(.vec true 1 b b (fun i0 => (.sc (.int .u8 (c i0)))))] [] a [] [] rfl (by kernel_rfl) (by kernel_rfl) (by kernel_rfl) ⟨d, by simp⟩ (L54_e b c a) (by kernel_rfl) h
theorem r54_e (a : Nat) (b : Nat → Int) (c : AV)
 (h : decide ((↑a : Int) < (1 : Int)) = false ∧ L54_0 a b c) :
 L54_e a b c :=
 rule Go.Am.Seat.tabOk 54 [] Go.Proofs.Try.f54 hf54 [] (s54_e a b) (m54_e a b) c [] 400
 ((Orc.cut (nat_lit 1) (s54_0 a b) (m54_0 a b) []).no) _ _ (by kernel_rfl) (by kernel_rfl) (show True ∧
 True ∧
 True ∧
 True ∧
 decide ((↑a : Int) < (1 : Int)) = false ∧
 ((True ∧
 SubS (.vec true 1 a a fun (i0 : Nat) => .sc (.int .u8 (b i0))) ∧
 True) ∧
 True) ∧
 L54_0 a b c from
 ⟨trivial, ⟨trivial, ⟨trivial, ⟨trivial, (And.elim (fun h4 k4 => ⟨h4, ⟨⟨⟨trivial, ⟨Sub.refl _, trivial⟩⟩, trivial⟩, k4⟩⟩) h)⟩⟩⟩⟩)
theorem r54_0 (b : Nat) (a : Nat → Int) (c : AV)
 (h : ((0 : Int) ≤ (0 : Int) ∧ (0 : Int) < (↑b : Int)) ∧ L54_1 b a (a (0 : Nat)) (1 : Int) c) :
 L54_0 b a c :=
 rule Go.Am.Seat.tabOk 54 [] Go.Proofs.Try.f54 hf54 [1, 1] (s54_0 b a) (m54_0 b a) c [] 400
 (Orc.cut (nat_lit 7) (s54_1 b a (a (Int.toNat (0 : Int))) (1 : Int)) (m54_1 b a (a (Int.toNat (0 : Int))) (1 : Int)) []) _ _ (by kernel_rfl) (by kernel_rfl) (show True ∧
 ((0 : Int) ≤ (0 : Int) ∧ (0 : Int) < (↑b : Int)) ∧
 True ∧
 True ∧
 True ∧
 ((True ∧
 SubS (.vec true 1 b b fun (i0 : Nat) => .sc (.int .u8 (a i0))) ∧
 True ∧
 SubS (.sc (.int .u8 (a (0 : Nat)))) ∧
 True ∧ SubS (.sc (.int .i64 (1 : Int))) ∧ True) ∧
 True) ∧
 L54_1 b a (a (0 : Nat)) (1 : Int) c from
 ⟨trivial, (And.elim (fun h1 k1 => ⟨(And.elim (fun h2 k2 => ⟨h2, k2⟩) h1), ⟨trivial, ⟨trivial, ⟨trivial, ⟨⟨⟨trivial, ⟨Sub.refl _, ⟨trivial, ⟨Sub.refl _, ⟨trivial, ⟨Sub.refl _, trivial⟩⟩⟩⟩⟩⟩, trivial⟩, k1⟩⟩⟩⟩⟩) h)⟩)
theorem r54_1 (b : Nat) (a : Nat → Int) (m i : Int) (c : AV)
 (h : (decide (i < (↑b : Int)) = true →
 ((0 : Int) ≤ i ∧ i < (↑b : Int)) ∧
 L54_1 b a (if true = true then if a i.toNat > m then a i.toNat else m else if a i.toNat < m then a i.toNat else m)
 (IntKind.i64.wrap (i + (1 : Int))) c) ∧
 (decide (i < (↑b : Int)) = false → Sub (.sc (.int .u8 m)) c)) :
 L54_1 b a m i c :=
 rule Go.Am.Seat.tabOk 54 [] Go.Proofs.Try.f54 hf54 [1, 1, 1, 0, 1, 0, 0] (s54_1 b a m i) (m54_1 b a m i) c [] 400
 ((Orc.cut (nat_lit 7)
 (s54_1 b a (if true = true then if a i.toNat > m then a i.toNat else m else if a i.toNat < m then a i.toNat else m)
 (IntKind.i64.wrap (i + (1 : Int))))
 (m54_1 b a (if true = true then if a i.toNat > m then a i.toNat else m else if a i.toNat < m then a i.toNat else m)
 (IntKind.i64.wrap (i + (1 : Int))))
 []).br
 (Orc.fin (.sc (.int .u8 m)) [] [])) _ _ (by kernel_rfl) (by kernel_rfl) (show True ∧
 True ∧
 True ∧
 True ∧
 (decide (i < (↑b : Int)) = true →
 True ∧
 True ∧
 True ∧
 ((0 : Int) ≤ i ∧ i < (↑b : Int)) ∧
 True ∧
 True ∧
 True ∧
 True ∧
 True ∧
 True ∧
 ((True ∧
 SubS (.vec true 1 b b fun (i0 : Nat) => .sc (.int .u8 (a i0))) ∧
 True ∧
 SubS (.sc (.int IntKind.u8 (if true = true then if a i.toNat > m then a i.toNat else m else if a i.toNat < m then a i.toNat else m))) ∧
 True ∧
 SubS (.sc (.int .i64 (IntKind.i64.wrap (i + (1 : Int))))) ∧
 True) ∧
 True) ∧
 L54_1 b a (if true = true then if a i.toNat > m then a i.toNat else m else if a i.toNat < m then a i.toNat else m)
 (IntKind.i64.wrap (i + (1 : Int))) c) ∧
 (decide (i < (↑b : Int)) = false →
 True ∧
 True ∧
 True ∧
 ((True ∧ SubS (.sc (.int .u8 m)) ∧ True) ∧ True) ∧
 Sub (.sc (.int .u8 m)) c ∧ SubOut [] []) from
 ⟨trivial, ⟨trivial, ⟨trivial, ⟨trivial, (And.elim (fun h4 k4 => ⟨(fun x5 => (fun h5 => ⟨trivial, ⟨trivial, ⟨trivial, (And.elim (fun h9 k9 => ⟨(And.elim (fun h10 k10 => ⟨h10, k10⟩) h9), ⟨trivial, ⟨trivial, ⟨trivial, ⟨trivial, ⟨trivial, ⟨trivial, ⟨⟨⟨trivial, ⟨Sub.refl _, ⟨trivial, ⟨Sub.refl _, ⟨trivial, ⟨Sub.refl _, trivial⟩⟩⟩⟩⟩⟩, trivial⟩, k9⟩⟩⟩⟩⟩⟩⟩⟩) h5)⟩⟩⟩) (h4 x5)), (fun x5 => (fun h5 => ⟨trivial, ⟨trivial, ⟨trivial, ⟨⟨⟨trivial, ⟨Sub.refl _, trivial⟩⟩, trivial⟩, ((fun h10 => ⟨h10, trivial⟩) h5)⟩⟩⟩⟩) (k4 x5))⟩) h)⟩⟩⟩⟩)
theorem hf55 : Go.Proofs.Try.prog.funcs[55]? = some Go.Proofs.Try.f55 := by kernel_rfl
abbrev s55_e (a : Nat) (b : Nat → Int) : List (Nat × AV) := [(0, (.vec true 1 a a (fun i0 => (.sc (.int .i64 (b i0))))))]
abbrev m55_e (b : Nat) (a : Nat → Int) : List (Nat × Nat × AV) := []
def L55_e (c : Nat) (b : Nat → Int) (a : AV) : Prop := Goes ⟨Go.Proofs.Try.prog, 55, [], a, []⟩ (place Go.Proofs.Try.f55 []) (s55_e c b) (m55_e c b)
theorem a55_e (c : Nat) (b : Nat → Int) (a : AV) (h : (∀ slot, fact (look .undef (s55_e c b) slot)) → L55_e c b a) : L55_e c b a :=
 assumeRule 55 [] Go.Proofs.Try.f55 hf55 [] (s55_e c b) (m55_e c b) a [] _ (by kernel_rfl) h
abbrev s55_0 (a : Nat) (b : Nat → Int) : List (Nat × AV) := [(0, (.vec true 1 a a (fun i0 => (.sc (.int .i64 (b i0))))))]
abbrev m55_0 (b : Nat) (a : Nat → Int) : List (Nat × Nat × AV) := []
def L55_0 (c : Nat) (b : Nat → Int) (a : AV) : Prop := Goes ⟨Go.Proofs.Try.prog, 55, [], a, []⟩ (place Go.Proofs.Try.f55 [1, 1]) (s55_0 c b) (m55_0 c b)
abbrev s55_1 (a : Nat) (b : Nat → Int) (m i : Int) : List (Nat × AV) := [(0, (.vec true 1 a a (fun i0 => (.sc (.int .i64 (b i0)))))), (3, (.sc (.int .i64 m))), (4, (.sc (.int .i64 i)))]
abbrev m55_1 (b : Nat) (a : Nat → Int) (m i : Int) : List (Nat × Nat × AV) := []
def L55_1 (c : Nat) (b : Nat → Int) (m i : Int) (a : AV) : Prop := Goes ⟨Go.Proofs.Try.prog, 55, [], a, []⟩ (place Go.Proofs.Try.f55 [1, 1, 1, 0, 1, 0, 0]) (s55_1 c b m i) (m55_1 c b m i)
theorem o55 (b : Nat) (c : Nat → Int) (a : AV) (d : newOnly a) (h : L55_e b c a) : Ok Go.Proofs.Try.prog 55 [(.vec true 1 b b (fun i0 => (.sc (.int .i64 (c i0)))))] [] a [] :=
 okRule2 55 Go.Proofs.Try.f55 hf55 [(.vec true 1 b b (fun i0 => (.sc (.int .i64 (c i0)))))] [] a [] [] rfl (by kernel_rfl) (by kernel_rfl) (by kernel_rfl) ⟨d, by simp⟩ (L55_e b c a) (by kernel_rfl) h
theorem r55_e (a : Nat) (b : Nat → Int) (c : AV)
 (h : decide ((↑a : Int) < (1 : Int)) = false ∧ L55_0 a b c) :
 L55_e a b c :=
 rule Go.Am.Seat.tabOk 55 [] Go.Proofs.Try.f55 hf55 [] (s55_e a b) (m55_e a b) c [] 400
 ((Orc.cut (nat_lit 1) (s55_0 a b) (m55_0 a b) []).no) _ _ (by kernel_rfl) (by kernel_rfl) (show True ∧
 True ∧
 True ∧
 True ∧
 decide ((↑a : Int) < (1 : Int)) = false ∧
 ((True ∧
 SubS (.vec true 1 a a fun (i0 : Nat) => .sc (.int .i64 (b i0))) ∧
 True) ∧
 True) ∧
 L55_0 a b c from
 ⟨trivial, ⟨trivial, ⟨trivial, ⟨trivial, (And.elim (fun h4 k4 => ⟨h4, ⟨⟨⟨trivial, ⟨Sub.refl _, trivial⟩⟩, trivial⟩, k4⟩⟩) h)⟩⟩⟩⟩)
theorem r55_0 (b : Nat) (a : Nat → Int) (c : AV)
 (h : ((0 : Int) ≤ (0 : Int) ∧ (0 : Int) < (↑b : Int)) ∧ L55_1 b a (a (0 : Nat)) (1 : Int) c) :
 L55_0 b a c :=
 rule Go.Am.Seat.tabOk 55 [] Go.Proofs.Try.f55 hf55 [1, 1] (s55_0 b a) (m55_0 b a) c [] 400
 (Orc.cut (nat_lit 7) (s55_1 b a (a (Int.toNat (0 : Int))) (1 : Int)) (m55_1 b a (a (Int.toNat (0 : Int))) (1 : Int)) []) _ _ (by kernel_rfl) (by kernel_rfl) (show True ∧
 ((0 : Int) ≤ (0 : Int) ∧ (0 : Int) < (↑b : Int)) ∧
 True ∧
 True ∧
 True ∧
 ((True ∧
 SubS (.vec true 1 b b fun (i0 : Nat) => .sc (.int .i64 (a i0))) ∧
 True ∧
 SubS (.sc (.int .i64 (a (0 : Nat)))) ∧
 True ∧ SubS (.sc (.int .i64 (1 : Int))) ∧ True) ∧
 True) ∧
 L55_1 b a (a (0 : Nat)) (1 : Int) c from
 ⟨trivial, (And.elim (fun h1 k1 => ⟨(And.elim (fun h2 k2 => ⟨h2, k2⟩) h1), ⟨trivial, ⟨trivial, ⟨trivial, ⟨⟨⟨trivial, ⟨Sub.refl _, ⟨trivial, ⟨Sub.refl _, ⟨trivial, ⟨Sub.refl _, trivial⟩⟩⟩⟩⟩⟩, trivial⟩, k1⟩⟩⟩⟩⟩) h)⟩)
theorem r55_1 (b : Nat) (a : Nat → Int) (m i : Int) (c : AV)
 (h : (decide (i < (↑b : Int)) = true →
 ((0 : Int) ≤ i ∧ i < (↑b : Int)) ∧
 L55_1 b a (if true = true then if a i.toNat > m then a i.toNat else m else if a i.toNat < m then a i.toNat else m)
 (IntKind.i64.wrap (i + (1 : Int))) c) ∧
 (decide (i < (↑b : Int)) = false → Sub (.sc (.int .i64 m)) c)) :
 L55_1 b a m i c :=
 rule Go.Am.Seat.tabOk 55 [] Go.Proofs.Try.f55 hf55 [1, 1, 1, 0, 1, 0, 0] (s55_1 b a m i) (m55_1 b a m i) c [] 400
 ((Orc.cut (nat_lit 7)
 (s55_1 b a (if true = true then if a i.toNat > m then a i.toNat else m else if a i.toNat < m then a i.toNat else m)
 (IntKind.i64.wrap (i + (1 : Int))))
 (m55_1 b a (if true = true then if a i.toNat > m then a i.toNat else m else if a i.toNat < m then a i.toNat else m)
 (IntKind.i64.wrap (i + (1 : Int))))
 []).br
 (Orc.fin (.sc (.int .i64 m)) [] [])) _ _ (by kernel_rfl) (by kernel_rfl) (show True ∧
 True ∧
 True ∧
 True ∧
 (decide (i < (↑b : Int)) = true →
 True ∧
 True ∧
 True ∧
 ((0 : Int) ≤ i ∧ i < (↑b : Int)) ∧
 True ∧
 True ∧
 True ∧
 True ∧
 True ∧
 True ∧
 ((True ∧
 SubS (.vec true 1 b b fun (i0 : Nat) => .sc (.int .i64 (a i0))) ∧
 True ∧
 SubS (.sc (.int IntKind.i64 (if true = true then if a i.toNat > m then a i.toNat else m else if a i.toNat < m then a i.toNat else m))) ∧
 True ∧
 SubS (.sc (.int .i64 (IntKind.i64.wrap (i + (1 : Int))))) ∧
 True) ∧
 True) ∧
 L55_1 b a (if true = true then if a i.toNat > m then a i.toNat else m else if a i.toNat < m then a i.toNat else m)
 (IntKind.i64.wrap (i + (1 : Int))) c) ∧
 (decide (i < (↑b : Int)) = false →
 True ∧
 True ∧
 True ∧
 ((True ∧ SubS (.sc (.int .i64 m)) ∧ True) ∧ True) ∧
 Sub (.sc (.int .i64 m)) c ∧ SubOut [] []) from
 ⟨trivial, ⟨trivial, ⟨trivial, ⟨trivial, (And.elim (fun h4 k4 => ⟨(fun x5 => (fun h5 => ⟨trivial, ⟨trivial, ⟨trivial, (And.elim (fun h9 k9 => ⟨(And.elim (fun h10 k10 => ⟨h10, k10⟩) h9), ⟨trivial, ⟨trivial, ⟨trivial, ⟨trivial, ⟨trivial, ⟨trivial, ⟨⟨⟨trivial, ⟨Sub.refl _, ⟨trivial, ⟨Sub.refl _, ⟨trivial, ⟨Sub.refl _, trivial⟩⟩⟩⟩⟩⟩, trivial⟩, k9⟩⟩⟩⟩⟩⟩⟩⟩) h5)⟩⟩⟩) (h4 x5)), (fun x5 => (fun h5 => ⟨trivial, ⟨trivial, ⟨trivial, ⟨⟨⟨trivial, ⟨Sub.refl _, trivial⟩⟩, trivial⟩, ((fun h10 => ⟨h10, trivial⟩) h5)⟩⟩⟩⟩) (k4 x5))⟩) h)⟩⟩⟩⟩)
theorem hf56 : Go.Proofs.Try.prog.funcs[56]? = some Go.Proofs.Try.f56 := by kernel_rfl
abbrev s56_e (i : Int) (f : Nat → Int) (c : Nat) (a : Nat → Nat) (d : Nat → Nat → Int) (b : Nat) (e : Nat → Int) (g : ByteArray) (h : Int) : List (Nat × AV) := [(0, (.cons 1 (.sc (.int .i64 i)) (.cons 256 (.ar 256 1 (fun i0 => (.sc (.int .u8 (f i0))))) (.cons 1 (.vec true 1 c c (fun i0 => (.vec true 1 (a i0) (a i0) (fun i1 => (.sc (.int .i64 (d i0 i1))))))) (.cons 1 (.vec true 1 b b (fun i0 => (.sc (.int .i64 (e i0))))) .nil))))), (1, (.sc (.string g))), (2, (.sc (.int .i64 h)))]
abbrev m56_e (i : Int) (f : Nat → Int) (e : Nat) (b : Nat → Nat) (a : Nat → Nat → Int) (d : Nat) (c : Nat → Int) (g : ByteArray) (h : Int) : List (Nat × Nat × AV) := []
def L56_e (i : Int) (f : Nat → Int) (e : Nat) (b : Nat → Nat) (a : Nat → Nat → Int) (d : Nat) (c : Nat → Int) (g : ByteArray) (h : Int) (j : AV) : Prop := Goes ⟨Go.Proofs.Try.prog, 56, [], j, []⟩ (place Go.Proofs.Try.f56 []) (s56_e i f e b a d c g h) (m56_e i f e b a d c g h)
abbrev s56_0 (a : ByteArray) (f s i n : Int) (h : Nat → Int) (g : Nat) (c : Nat → Nat) (b : Nat → Nat → Int) (e : Nat) (d : Nat → Int) (o l j p m k : Int) : List (Nat × AV) := [(1, (.sc (.string a))), (2, (.sc (.int .i64 f))), (3, (.pt 1000 [] 0)), (6, (.pt 1001 [] 0)), (7, (.pt 1002 [] 0)), (8, (.sc (.int .i64 s))), (9, (.sc (.int .i64 i)))]
abbrev m56_0 (o : ByteArray) (p s i l : Int) (f : Nat → Int) (c : Nat) (a : Nat → Nat) (d : Nat → Nat → Int) (b : Nat) (e : Nat → Int) (m j g n k h : Int) : List (Nat × Nat × AV) := [(1000, 26, (.cons 1 (.sc (.int .i64 l)) (.cons 256 (.ar 256 1 (fun i0 => (.sc (.int .u8 (f i0))))) (.cons 1 (.vec true 1 c c (fun i0 => (.vec true 1 (a i0) (a i0) (fun i1 => (.sc (.int .i64 (d i0 i1))))))) (.cons 1 (.vec true 1 b b (fun i0 => (.sc (.int .i64 (e i0))))) .nil))))), (1001, 46, (.cons 1 (.sc (.int .i64 m)) (.cons 1 (.sc (.int .i64 j)) (.cons 1 (.sc (.int .i64 g)) .nil)))), (1002, 46, (.cons 1 (.sc (.int .i64 n)) (.cons 1 (.sc (.int .i64 k)) (.cons 1 (.sc (.int .i64 h)) .nil))))]
def L56_0 (l : ByteArray) (m s i n : Int) (f : Nat → Int) (e : Nat) (b : Nat → Nat) (a : Nat → Nat → Int) (d : Nat) (c : Nat → Int) (o j g p k h : Int) (q : AV) : Prop := Goes ⟨Go.Proofs.Try.prog, 56, [], q, []⟩ (place Go.Proofs.Try.f56 [1, 0, 1, 1, 1]) (s56_0 l m s i n f e b a d c o j g p k h) (m56_0 l m s i n f e b a d c o j g p k h)
abbrev s56_1 (a : ByteArray) (f s i n : Int) (h : Nat → Int) (g : Nat) (c : Nat → Nat) (b : Nat → Nat → Int) (e : Nat) (d : Nat → Int) (o l j p m k : Int) : List (Nat × AV) := [(1, (.sc (.string a))), (2, (.sc (.int .i64 f))), (3, (.pt 1000 [] 0)), (6, (.pt 1001 [] 0)), (7, (.pt 1002 [] 0)), (8, (.sc (.int .i64 s))), (9, (.sc (.int .i64 i)))]
abbrev m56_1 (o : ByteArray) (p s i l : Int) (f : Nat → Int) (c : Nat) (a : Nat → Nat) (d : Nat → Nat → Int) (b : Nat) (e : Nat → Int) (m j g n k h : Int) : List (Nat × Nat × AV) := [(1000, 26, (.cons 1 (.sc (.int .i64 l)) (.cons 256 (.ar 256 1 (fun i0 => (.sc (.int .u8 (f i0))))) (.cons 1 (.vec true 1 c c (fun i0 => (.vec true 1 (a i0) (a i0) (fun i1 => (.sc (.int .i64 (d i0 i1))))))) (.cons 1 (.vec true 1 b b (fun i0 => (.sc (.int .i64 (e i0))))) .nil))))), (1001, 46, (.cons 1 (.sc (.int .i64 m)) (.cons 1 (.sc (.int .i64 j)) (.cons 1 (.sc (.int .i64 g)) .nil)))), (1002, 46, (.cons 1 (.sc (.int .i64 n)) (.cons 1 (.sc (.int .i64 k)) (.cons 1 (.sc (.int .i64 h)) .nil))))]
def L56_1 (l : ByteArray) (m s i n : Int) (f : Nat → Int) (e : Nat) (b : Nat → Nat) (a : Nat → Nat → Int) (d : Nat) (c : Nat → Int) (o j g p k h : Int) (q : AV) : Prop := Goes ⟨Go.Proofs.Try.prog, 56, [], q, []⟩ (place Go.Proofs.Try.f56 [1, 0, 1, 1, 1, 1, 1, 1, 1]) (s56_1 l m s i n f e b a d c o j g p k h) (m56_1 l m s i n f e b a d c o j g p k h)
abbrev s56_2 (a i f d b g e c : Int) : List (Nat × AV) := [(2, (.sc (.int .i64 a))), (6, (.pt 1000 [] 0)), (7, (.pt 1001 [] 0)), (9, (.sc (.int .i64 i)))]
abbrev m56_2 (g i e c a f d b : Int) : List (Nat × Nat × AV) := [(1000, 46, (.cons 1 (.sc (.int .i64 e)) (.cons 1 (.sc (.int .i64 c)) (.cons 1 (.sc (.int .i64 a)) .nil)))), (1001, 46, (.cons 1 (.sc (.int .i64 f)) (.cons 1 (.sc (.int .i64 d)) (.cons 1 (.sc (.int .i64 b)) .nil))))]
def L56_2 (e i f c a g d b : Int) (h : AV) : Prop := Goes ⟨Go.Proofs.Try.prog, 56, [], h, []⟩ (place Go.Proofs.Try.f56 [1, 0, 1, 1, 1, 1, 1, 1, 1, 1, 1, 1, 1]) (s56_2 e i f c a g d b) (m56_2 e i f c a g d b)
theorem o56 (k : Int) (f : Nat → Int) (c : Nat) (a : Nat → Nat) (d : Nat → Nat → Int) (b : Nat) (e : Nat → Int) (g : ByteArray) (j : Int) (i : AV) (l : newOnly i) (h : L56_e k f c a d b e g j i) : Ok Go.Proofs.Try.prog 56 [(.cons 1 (.sc (.int .i64 k)) (.cons 256 (.ar 256 1 (fun i0 => (.sc (.int .u8 (f i0))))) (.cons 1 (.vec true 1 c c (fun i0 => (.vec true 1 (a i0) (a i0) (fun i1 => (.sc (.int .i64 (d i0 i1))))))) (.cons 1 (.vec true 1 b b (fun i0 => (.sc (.int .i64 (e i0))))) .nil)))), (.sc (.string g)), (.sc (.int .i64 j))] [] i [] :=
 okRule2 56 Go.Proofs.Try.f56 hf56 [(.cons 1 (.sc (.int .i64 k)) (.cons 256 (.ar 256 1 (fun i0 => (.sc (.int .u8 (f i0))))) (.cons 1 (.vec true 1 c c (fun i0 => (.vec true 1 (a i0) (a i0) (fun i1 => (.sc (.int .i64 (d i0 i1))))))) (.cons 1 (.vec true 1 b b (fun i0 => (.sc (.int .i64 (e i0))))) .nil)))), (.sc (.string g)), (.sc (.int .i64 j))] [] i [] [] rfl (by kernel_rfl) (by kernel_rfl) (by kernel_rfl) ⟨l, by simp⟩ (L56_e k f c a d b e g j i) (by kernel_rfl) h
theorem r56_e (j : Int) (g : Nat → Int) (d : Nat) (a : Nat → Nat) (c : Nat → Nat → Int) (b : Nat) (e : Nat → Int) (i : ByteArray) (f : Int) (k : AV)
 (h : L56_0 i f j f j g d a c b e (0 : Int) (0 : Int) (0 : Int) (-1 : Int) (0 : Int) (0 : Int) k) :
 L56_e j g d a c b e i f k :=
 rule Go.Am.Seat.tabOk 56 [] Go.Proofs.Try.f56 hf56 [] (s56_e j g d a c b e i f) (m56_e j g d a c b e i f) k [] 400
 (Orc.cut (nat_lit 9) (s56_0 i f j f j g d a c b e (0 : Int) (0 : Int) (0 : Int) (-1 : Int) (0 : Int) (0 : Int))
 (m56_0 i f j f j g d a c b e (0 : Int) (0 : Int) (0 : Int) (-1 : Int) (0 : Int) (0 : Int))
 [((1000 : Nat), some (3 : Nat)), ((1001 : Nat), some (6 : Nat)), ((1002 : Nat), some (7 : Nat))]) _ _ (by kernel_rfl) (by kernel_rfl) (show True ∧
 True ∧
 True ∧
 True ∧
 ((0 : Nat) = (0 : Nat) ∧ True) ∧
 True ∧
 ((0 : Nat) = (0 : Nat) ∧ True) ∧
 True ∧
 True ∧
 True ∧
 ((True ∧
 SubS (.sc (.string i)) ∧
 True ∧
 SubS (.sc (.int .i64 f)) ∧
 True ∧
 SubS (.pt 1000 [] (0 : Nat)) ∧
 True ∧
 SubS (.pt 1001 [] (0 : Nat)) ∧
 True ∧
 SubS (.pt 1002 [] (0 : Nat)) ∧
 True ∧
 SubS (.sc (.int .i64 j)) ∧
 True ∧ SubS (.sc (.int .i64 f)) ∧ True) ∧
 (True ∧ True ∧ True ∧ True ∧ True) ∧
 SubBS (.cons 1 (.sc (.int .i64 j)) (.cons 256 (.ar 256 (1 : Nat) fun (i0 : Nat) => .sc (.int .u8 (g i0))) (.cons 1 (.vec true 1 d d fun (i0 : Nat) => .vec true 1 (a i0) (a i0) fun (i1 : Nat) => .sc (.int .i64 (c i0 i1))) (.cons 1 (.vec true 1 b b fun (i0 : Nat) => .sc (.int .i64 (e i0))) .nil)))) ∧
 (True ∧ True ∧ True ∧ True) ∧
 SubBS (.cons 1 (.sc (.int .i64 (0 : Int))) (.cons 1 (.sc (.int .i64 (0 : Int))) (.cons 1 (.sc (.int .i64 (0 : Int))) .nil))) ∧
 (True ∧ True ∧ True ∧ True) ∧
 SubBS (.cons 1 (.sc (.int .i64 (-1 : Int))) (.cons 1 (.sc (.int .i64 (0 : Int))) (.cons 1 (.sc (.int .i64 (0 : Int))) .nil))) ∧
 True) ∧
 L56_0 i f j f j g d a c b e (0 : Int) (0 : Int) (0 : Int) (-1 : Int) (0 : Int) (0 : Int) k from
 ⟨trivial, ⟨trivial, ⟨trivial, ⟨trivial, ⟨⟨rfl, trivial⟩, ⟨trivial, ⟨⟨rfl, trivial⟩, ⟨trivial, ⟨trivial, ⟨trivial, ⟨⟨⟨trivial, ⟨Sub.refl _, ⟨trivial, ⟨Sub.refl _, ⟨trivial, ⟨Sub.refl _, ⟨trivial, ⟨Sub.refl _, ⟨trivial, ⟨Sub.refl _, ⟨trivial, ⟨Sub.refl _, ⟨trivial, ⟨Sub.refl _, trivial⟩⟩⟩⟩⟩⟩⟩⟩⟩⟩⟩⟩⟩⟩, ⟨⟨trivial, ⟨trivial, ⟨trivial, ⟨trivial, trivial⟩⟩⟩⟩, ⟨SubB.refl _, ⟨⟨trivial, ⟨trivial, ⟨trivial, trivial⟩⟩⟩, ⟨SubB.refl _, ⟨⟨trivial, ⟨trivial, ⟨trivial, trivial⟩⟩⟩, ⟨SubB.refl _, trivial⟩⟩⟩⟩⟩⟩⟩, h⟩⟩⟩⟩⟩⟩⟩⟩⟩⟩⟩)
theorem r56_0 (c : ByteArray) (m s i p : Int) (b : Nat → Int) (g : Nat) (f : Nat → Nat) (a : Nat → Nat → Int) (e : Nat) (d : Nat → Int) (n l j q o k : Int) (r : AV)
 (h : ((0 : Int) ≤ s ∧ s < (↑g : Int)) ∧
 ((0 : Int) ≤ i ∧ i < (↑c.size : Int)) ∧
 ((0 : Int) ≤ (↑(byteAt c i.toNat).toNat : Int) ∧ (↑(byteAt c i.toNat).toNat : Int) < (↑(256 : Nat) : Int)) ∧
 (↑(byteAt c i.toNat).toNat : Int).toNat < (256 : Nat) ∧
 ((0 : Int) ≤ b (↑(byteAt c i.toNat).toNat : Int).toNat ∧ b (↑(byteAt c i.toNat).toNat : Int).toNat < (↑(f s.toNat) : Int)) ∧
 (decide (a s.toNat (b (↑(byteAt c i.toNat).toNat : Int).toNat).toNat < (0 : Int)) = true →
 L56_2 m (IntKind.i64.wrap (i + (1 : Int))) n l j q o k r) ∧
 (decide (a s.toNat (b (↑(byteAt c i.toNat).toNat : Int).toNat).toNat < (0 : Int)) = false →
 ((0 : Int) ≤ a s.toNat (b (↑(byteAt c i.toNat).toNat : Int).toNat).toNat ∧
 a s.toNat (b (↑(byteAt c i.toNat).toNat : Int).toNat).toNat < (↑e : Int)) ∧
 (decide (d (a s.toNat (b (↑(byteAt c i.toNat).toNat : Int).toNat).toNat).toNat ≥ (0 : Int)) = true →
 L56_1 c m (a s.toNat (b (↑(byteAt c i.toNat).toNat : Int).toNat).toNat) (IntKind.i64.wrap (i + (1 : Int))) p b
 g f a e d n l j
 (d (a s.toNat (b (↑(byteAt c i.toNat).toNat : Int).toNat).toNat).toNat)
 (IntKind.i64.wrap (IntKind.i64.wrap (i + (1 : Int)) - m)) k r) ∧
 (decide (d (a s.toNat (b (↑(byteAt c i.toNat).toNat : Int).toNat).toNat).toNat ≥ (0 : Int)) = false →
 L56_1 c m (a s.toNat (b (↑(byteAt c i.toNat).toNat : Int).toNat).toNat) (IntKind.i64.wrap (i + (1 : Int))) p b
 g f a e d n l j q o k r))) :
 L56_0 c m s i p b g f a e d n l j q o k r :=
 rule Go.Am.Seat.tabOk 56 [] Go.Proofs.Try.f56 hf56 [1, 0, 1, 1, 1] (s56_0 c m s i p b g f a e d n l j q o k) (m56_0 c m s i p b g f a e d n l j q o k) r [] 400
 ((Orc.cut (nat_lit 3) (s56_2 m (IntKind.i64.wrap (i + (1 : Int))) n l j q o k)
 (m56_2 m (IntKind.i64.wrap (i + (1 : Int))) n l j q o k) [((1000 : Nat), some (1001 : Nat)), ((1001 : Nat), some (1002 : Nat))]).br
 ((Orc.cut (nat_lit 1)
 (s56_1 c m (a s.toNat (b (↑(byteAt c i.toNat).toNat : Int).toNat).toNat) (IntKind.i64.wrap (i + (1 : Int))) p b g f
 a e d n l j (d (a s.toNat (b (↑(byteAt c i.toNat).toNat : Int).toNat).toNat).toNat)
 (IntKind.i64.wrap (IntKind.i64.wrap (i + (1 : Int)) - m)) k)
 (m56_1 c m (a s.toNat (b (↑(byteAt c i.toNat).toNat : Int).toNat).toNat) (IntKind.i64.wrap (i + (1 : Int))) p b g f
 a e d n l j (d (a s.toNat (b (↑(byteAt c i.toNat).toNat : Int).toNat).toNat).toNat)
 (IntKind.i64.wrap (IntKind.i64.wrap (i + (1 : Int)) - m)) k)
 [((1000 : Nat), some (1000 : Nat)), ((1001 : Nat), some (1001 : Nat)), ((1002 : Nat), some (1002 : Nat))]).br
 (Orc.cut (nat_lit 1)
 (s56_1 c m (a s.toNat (b (↑(byteAt c i.toNat).toNat : Int).toNat).toNat) (IntKind.i64.wrap (i + (1 : Int))) p b g f
 a e d n l j q o k)
 (m56_1 c m (a s.toNat (b (↑(byteAt c i.toNat).toNat : Int).toNat).toNat) (IntKind.i64.wrap (i + (1 : Int))) p b g f
 a e d n l j q o k)
 [((1000 : Nat), some (1000 : Nat)), ((1001 : Nat), some (1001 : Nat)), ((1002 : Nat), some (1002 : Nat))]))) _ _ (by kernel_rfl) (by kernel_rfl) (show True ∧
 ((1 : Nat) + ((256 : Nat) + (0 : Nat)) = (257 : Nat) ∧ True) ∧
 True ∧
 ((0 : Int) ≤ s ∧ s < (↑g : Int)) ∧
 True ∧
 True ∧
 True ∧
 ((0 : Int) ≤ i ∧ i < (↑c.size : Int)) ∧
 True ∧
 ((0 : Int) ≤ (↑(byteAt c i.toNat).toNat : Int) ∧ (↑(byteAt c i.toNat).toNat : Int) < (↑(256 : Nat) : Int)) ∧
 ((1 : Nat) + ((↑(byteAt c i.toNat).toNat : Int).toNat * (1 : Nat) + (0 : Nat)) =
 plus (1 : Nat) ((↑(byteAt c i.toNat).toNat : Int).toNat * (1 : Nat)) ∧
 (↑(byteAt c i.toNat).toNat : Int).toNat < (256 : Nat) ∧ True) ∧
 ((0 : Int) ≤ b (↑(byteAt c i.toNat).toNat : Int).toNat ∧
 b (↑(byteAt c i.toNat).toNat : Int).toNat < (↑(f s.toNat) : Int)) ∧
 True ∧
 True ∧
 True ∧
 True ∧
 True ∧
 True ∧
 True ∧
 (decide (a s.toNat (b (↑(byteAt c i.toNat).toNat : Int).toNat).toNat < (0 : Int)) = true →
 ((True ∧
 SubS (.sc (.int .i64 m)) ∧
 True ∧
 SubS (.pt 1000 [] (0 : Nat)) ∧
 True ∧
 SubS (.pt 1001 [] (0 : Nat)) ∧
 True ∧
 SubS (.sc (.int .i64 (IntKind.i64.wrap (i + (1 : Int))))) ∧
 True) ∧
 (True ∧ True ∧ True ∧ True) ∧
 SubBS (.cons 1 (.sc (.int .i64 n)) (.cons 1 (.sc (.int .i64 l)) (.cons 1 (.sc (.int .i64 j)) .nil))) ∧
 (True ∧ True ∧ True ∧ True) ∧
 SubBS (.cons 1 (.sc (.int .i64 q)) (.cons 1 (.sc (.int .i64 o)) (.cons 1 (.sc (.int .i64 k)) .nil))) ∧
 True) ∧
 L56_2 m (IntKind.i64.wrap (i + (1 : Int))) n l j q o k r) ∧
 (decide (a s.toNat (b (↑(byteAt c i.toNat).toNat : Int).toNat).toNat < (0 : Int)) = false →
 True ∧
 ((1 : Nat) + ((256 : Nat) + ((1 : Nat) + (0 : Nat))) = (258 : Nat) ∧ True) ∧
 True ∧
 ((0 : Int) ≤ a s.toNat (b (↑(byteAt c i.toNat).toNat : Int).toNat).toNat ∧
 a s.toNat (b (↑(byteAt c i.toNat).toNat : Int).toNat).toNat < (↑e : Int)) ∧
 True ∧
 True ∧
 (decide
 (d (a s.toNat (b (↑(byteAt c i.toNat).toNat : Int).toNat).toNat).toNat ≥
 (0 : Int)) =
 true →
 True ∧
 ((1 : Nat) + ((256 : Nat) + ((1 : Nat) + (0 : Nat))) = (258 : Nat) ∧ True) ∧
 True ∧
 ((0 : Int) ≤ a s.toNat (b (↑(byteAt c i.toNat).toNat : Int).toNat).toNat ∧
 a s.toNat (b (↑(byteAt c i.toNat).toNat : Int).toNat).toNat <
 (↑e : Int)) ∧
 True ∧
 True ∧
 True ∧
 True ∧
 True ∧
 ((0 : Nat) = (0 : Nat) ∧ True) ∧
 True ∧
 ((1 : Nat) + (0 : Nat) = (1 : Nat) ∧ True) ∧
 ((True ∧
 SubS (.sc (.string c)) ∧
 True ∧
 SubS (.sc (.int .i64 m)) ∧
 True ∧
 SubS (.pt 1000 [] (0 : Nat)) ∧
 True ∧
 SubS (.pt 1001 [] (0 : Nat)) ∧
 True ∧
 SubS (.pt 1002 [] (0 : Nat)) ∧
 True ∧
 SubS (.sc (.int IntKind.i64 (a s.toNat (b (↑(byteAt c i.toNat).toNat : Int).toNat).toNat))) ∧
 True ∧
 SubS (.sc (.int IntKind.i64 (IntKind.i64.wrap (i + (1 : Int))))) ∧
 True) ∧
 (True ∧ True ∧ True ∧ True ∧ True) ∧
 SubBS (.cons 1 (.sc (.int .i64 p)) (.cons 256 (.ar 256 (1 : Nat) fun (i0 : Nat) => .sc (.int .u8 (b i0))) (.cons 1 (.vec true 1 g g fun (i0 : Nat) => .vec true 1 (f i0) (f i0) fun (i1 : Nat) => .sc (.int .i64 (a i0 i1))) (.cons 1 (.vec true 1 e e fun (i0 : Nat) => .sc (.int .i64 (d i0))) .nil)))) ∧
 (True ∧ True ∧ True ∧ True) ∧
 SubBS (.cons 1 (.sc (.int .i64 n)) (.cons 1 (.sc (.int .i64 l)) (.cons 1 (.sc (.int .i64 j)) .nil))) ∧
 (True ∧ True ∧ True ∧ True) ∧
 SubBS (.cons 1 (.sc (.int IntKind.i64 (d (a s.toNat (b (↑(byteAt c i.toNat).toNat : Int).toNat).toNat).toNat))) (.cons 1 (.sc (.int IntKind.i64 (IntKind.i64.wrap (IntKind.i64.wrap (i + (1 : Int)) - m)))) (.cons 1 (.sc (.int .i64 k)) .nil))) ∧
 True) ∧
 L56_1 c m
 (a s.toNat (b (↑(byteAt c i.toNat).toNat : Int).toNat).toNat)
 (IntKind.i64.wrap (i + (1 : Int))) p b g f a
 e d n l j
 (d
 (a s.toNat
 (b (↑(byteAt c i.toNat).toNat : Int).toNat).toNat).toNat)
 (IntKind.i64.wrap (IntKind.i64.wrap (i + (1 : Int)) - m)) k r) ∧
 (decide
 (d (a s.toNat (b (↑(byteAt c i.toNat).toNat : Int).toNat).toNat).toNat ≥
 (0 : Int)) =
 false →
 ((True ∧
 SubS (.sc (.string c)) ∧
 True ∧
 SubS (.sc (.int .i64 m)) ∧
 True ∧
 SubS (.pt 1000 [] (0 : Nat)) ∧
 True ∧
 SubS (.pt 1001 [] (0 : Nat)) ∧
 True ∧
 SubS (.pt 1002 [] (0 : Nat)) ∧
 True ∧
 SubS (.sc (.int IntKind.i64 (a s.toNat (b (↑(byteAt c i.toNat).toNat : Int).toNat).toNat))) ∧
 True ∧
 SubS (.sc (.int .i64 (IntKind.i64.wrap (i + (1 : Int))))) ∧
 True) ∧
 (True ∧ True ∧ True ∧ True ∧ True) ∧
 SubBS (.cons 1 (.sc (.int .i64 p)) (.cons 256 (.ar 256 (1 : Nat) fun (i0 : Nat) => .sc (.int .u8 (b i0))) (.cons 1 (.vec true 1 g g fun (i0 : Nat) => .vec true 1 (f i0) (f i0) fun (i1 : Nat) => .sc (.int .i64 (a i0 i1))) (.cons 1 (.vec true 1 e e fun (i0 : Nat) => .sc (.int .i64 (d i0))) .nil)))) ∧
 (True ∧ True ∧ True ∧ True) ∧
 SubBS (.cons 1 (.sc (.int .i64 n)) (.cons 1 (.sc (.int .i64 l)) (.cons 1 (.sc (.int .i64 j)) .nil))) ∧
 (True ∧ True ∧ True ∧ True) ∧
 SubBS (.cons 1 (.sc (.int .i64 q)) (.cons 1 (.sc (.int .i64 o)) (.cons 1 (.sc (.int .i64 k)) .nil))) ∧
 True) ∧
 L56_1 c m (a s.toNat (b (↑(byteAt c i.toNat).toNat : Int).toNat).toNat)
 (IntKind.i64.wrap (i + (1 : Int))) p b g f a e d n l j
 q o k r)) from
 ⟨trivial, ⟨⟨rfl, trivial⟩, ⟨trivial, (And.elim (fun h3 k3 => ⟨(And.elim (fun h4 k4 => ⟨h4, k4⟩) h3), ⟨trivial, ⟨trivial, ⟨trivial, (And.elim (fun h7 k7 => ⟨(And.elim (fun h8 k8 => ⟨h8, k8⟩) h7), ⟨trivial, (And.elim (fun h9 k9 => ⟨(And.elim (fun h10 k10 => ⟨h10, k10⟩) h9), (And.elim (fun h10 k10 => ⟨⟨rfl, ((fun h12 => ⟨h12, trivial⟩) h10)⟩, (And.elim (fun h11 k11 => ⟨(And.elim (fun h12 k12 => ⟨h12, k12⟩) h11), ⟨trivial, ⟨trivial, ⟨trivial, ⟨trivial, ⟨trivial, ⟨trivial, ⟨trivial, (And.elim (fun h19 k19 => ⟨(fun x20 => (fun h20 => ⟨⟨⟨trivial, ⟨Sub.refl _, ⟨trivial, ⟨Sub.refl _, ⟨trivial, ⟨Sub.refl _, ⟨trivial, ⟨Sub.refl _, trivial⟩⟩⟩⟩⟩⟩⟩⟩, ⟨⟨trivial, ⟨trivial, ⟨trivial, trivial⟩⟩⟩, ⟨SubB.refl _, ⟨⟨trivial, ⟨trivial, ⟨trivial, trivial⟩⟩⟩, ⟨SubB.refl _, trivial⟩⟩⟩⟩⟩, h20⟩) (h19 x20)), (fun x20 => (fun h20 => ⟨trivial, ⟨⟨rfl, trivial⟩, ⟨trivial, (And.elim (fun h24 k24 => ⟨(And.elim (fun h25 k25 => ⟨h25, k25⟩) h24), ⟨trivial, ⟨trivial, (And.elim (fun h27 k27 => ⟨(fun x28 => (fun h28 => ⟨trivial, ⟨⟨rfl, trivial⟩, ⟨trivial, ⟨(And.elim (fun h33 k33 => ⟨h33, k33⟩) h24), ⟨trivial, ⟨trivial, ⟨trivial, ⟨trivial, ⟨trivial, ⟨⟨rfl, trivial⟩, ⟨trivial, ⟨⟨rfl, trivial⟩, ⟨⟨⟨trivial, ⟨Sub.refl _, ⟨trivial, ⟨Sub.refl _, ⟨trivial, ⟨Sub.refl _, ⟨trivial, ⟨Sub.refl _, ⟨trivial, ⟨Sub.refl _, ⟨trivial, ⟨Sub.refl _, ⟨trivial, ⟨Sub.refl _, trivial⟩⟩⟩⟩⟩⟩⟩⟩⟩⟩⟩⟩⟩⟩, ⟨⟨trivial, ⟨trivial, ⟨trivial, ⟨trivial, trivial⟩⟩⟩⟩, ⟨SubB.refl _, ⟨⟨trivial, ⟨trivial, ⟨trivial, trivial⟩⟩⟩, ⟨SubB.refl _, ⟨⟨trivial, ⟨trivial, ⟨trivial, trivial⟩⟩⟩, ⟨SubB.refl _, trivial⟩⟩⟩⟩⟩⟩⟩, h28⟩⟩⟩⟩⟩⟩⟩⟩⟩⟩⟩⟩⟩) (h27 x28)), (fun x28 => (fun h28 => ⟨⟨⟨trivial, ⟨Sub.refl _, ⟨trivial, ⟨Sub.refl _, ⟨trivial, ⟨Sub.refl _, ⟨trivial, ⟨Sub.refl _, ⟨trivial, ⟨Sub.refl _, ⟨trivial, ⟨Sub.refl _, ⟨trivial, ⟨Sub.refl _, trivial⟩⟩⟩⟩⟩⟩⟩⟩⟩⟩⟩⟩⟩⟩, ⟨⟨trivial, ⟨trivial, ⟨trivial, ⟨trivial, trivial⟩⟩⟩⟩, ⟨SubB.refl _, ⟨⟨trivial, ⟨trivial, ⟨trivial, trivial⟩⟩⟩, ⟨SubB.refl _, ⟨⟨trivial, ⟨trivial, ⟨trivial, trivial⟩⟩⟩, ⟨SubB.refl _, trivial⟩⟩⟩⟩⟩⟩⟩, h28⟩) (k27 x28))⟩) k24)⟩⟩⟩) h20)⟩⟩⟩) (k19 x20))⟩) k11)⟩⟩⟩⟩⟩⟩⟩⟩) k10)⟩) k9)⟩) k7)⟩⟩) k3)⟩⟩⟩⟩) h)⟩⟩⟩)
theorem r56_1 (o : ByteArray) (l s i q : Int) (p : Nat → Int) (g : Nat) (a : Nat → Nat) (f : Nat → Nat → Int) (j : Nat) (k : Nat → Int) (m d b n e c : Int) (t : AV)
 (h : ((0 : Int) ≤ s ∧ s < (↑g : Int)) ∧
 ∃ (r : Bool),
 Ok Proofs.Try.prog (82 : Nat)
 [.vec true 1 (a s.toNat) (a s.toNat) fun (i : Nat) => .sc (.int .i64 (f s.toNat i)),
 .sc (.func (Fn.func (83 : Nat)) #[] #[])]
 [] (.sc (.bool r)) [] ∧
 ((!r) = true → L56_2 l i m d b n e c t) ∧
 ((!r) = false →
 (decide (i < (↑o.size : Int)) = true → L56_0 o l s i q p g a f j k m d b n e c t) ∧
 (decide (i < (↑o.size : Int)) = false → L56_2 l (IntKind.i64.wrap (i + (1 : Int))) m d b n e c t))) :
 L56_1 o l s i q p g a f j k m d b n e c t :=
 rule Go.Am.Seat.tabOk 56 [] Go.Proofs.Try.f56 hf56 [1, 0, 1, 1, 1, 1, 1, 1, 1] (s56_1 o l s i q p g a f j k m d b n e c) (m56_1 o l s i q p g a f j k m d b n e c) t [] 400
 (Orc.call [] [] (fun (r82 : Bool) => .sc (.bool r82)) (fun (r82 : Bool) => []) fun (r82 : Bool) =>
 (Orc.cut (nat_lit 3) (s56_2 l i m d b n e c) (m56_2 l i m d b n e c)
 [((1000 : Nat), some (1001 : Nat)), ((1001 : Nat), some (1002 : Nat))]).br
 ((Orc.cut (nat_lit 3) (s56_0 o l s i q p g a f j k m d b n e c)
 (m56_0 o l s i q p g a f j k m d b n e c)
 [((1000 : Nat), some (1000 : Nat)), ((1001 : Nat), some (1001 : Nat)), ((1002 : Nat), some (1002 : Nat))]).br
 (Orc.cut (nat_lit 5) (s56_2 l (IntKind.i64.wrap (i + (1 : Int))) m d b n e c)
 (m56_2 l (IntKind.i64.wrap (i + (1 : Int))) m d b n e c) [((1000 : Nat), some (1001 : Nat)), ((1001 : Nat), some (1002 : Nat))]))) _ _ (by kernel_rfl) (by kernel_rfl) (show True ∧
 ((1 : Nat) + ((256 : Nat) + (0 : Nat)) = (257 : Nat) ∧ True) ∧
 True ∧
 ((0 : Int) ≤ s ∧ s < (↑g : Int)) ∧
 True ∧
 ∃ (r : Bool),
 ((True ∧ True ∧ True) ∧
 True ∧
 Ok Proofs.Try.prog (82 : Nat)
 [.vec true 1 (a s.toNat) (a s.toNat) fun (i : Nat) => .sc (.int .i64 (f s.toNat i)),
 .sc (.func (Fn.func (83 : Nat)) #[] #[])]
 [] (.sc (.bool r)) []) ∧
 True ∧
 ((!r) = true →
 ((True ∧
 SubS (.sc (.int .i64 l)) ∧
 True ∧
 SubS (.pt 1000 [] (0 : Nat)) ∧
 True ∧
 SubS (.pt 1001 [] (0 : Nat)) ∧
 True ∧ SubS (.sc (.int .i64 i)) ∧ True) ∧
 (True ∧ True ∧ True ∧ True) ∧
 SubBS (.cons 1 (.sc (.int .i64 m)) (.cons 1 (.sc (.int .i64 d)) (.cons 1 (.sc (.int .i64 b)) .nil))) ∧
 (True ∧ True ∧ True ∧ True) ∧
 SubBS (.cons 1 (.sc (.int .i64 n)) (.cons 1 (.sc (.int .i64 e)) (.cons 1 (.sc (.int .i64 c)) .nil))) ∧
 True) ∧
 L56_2 l i m d b n e c t) ∧
 ((!r) = false →
 True ∧
 True ∧
 True ∧
 True ∧
 (decide (i < (↑o.size : Int)) = true →
 ((True ∧
 SubS (.sc (.string o)) ∧
 True ∧
 SubS (.sc (.int .i64 l)) ∧
 True ∧
 SubS (.pt 1000 [] (0 : Nat)) ∧
 True ∧
 SubS (.pt 1001 [] (0 : Nat)) ∧
 True ∧
 SubS (.pt 1002 [] (0 : Nat)) ∧
 True ∧
 SubS (.sc (.int .i64 s)) ∧
 True ∧ SubS (.sc (.int .i64 i)) ∧ True) ∧
 (True ∧ True ∧ True ∧ True ∧ True) ∧
 SubBS (.cons 1 (.sc (.int .i64 q)) (.cons 256 (.ar 256 (1 : Nat) fun (i0 : Nat) => .sc (.int .u8 (p i0))) (.cons 1 (.vec true 1 g g fun (i0 : Nat) => .vec true 1 (a i0) (a i0) fun (i1 : Nat) => .sc (.int .i64 (f i0 i1))) (.cons 1 (.vec true 1 j j fun (i0 : Nat) => .sc (.int .i64 (k i0))) .nil)))) ∧
 (True ∧ True ∧ True ∧ True) ∧
 SubBS (.cons 1 (.sc (.int .i64 m)) (.cons 1 (.sc (.int .i64 d)) (.cons 1 (.sc (.int .i64 b)) .nil))) ∧
 (True ∧ True ∧ True ∧ True) ∧
 SubBS (.cons 1 (.sc (.int .i64 n)) (.cons 1 (.sc (.int .i64 e)) (.cons 1 (.sc (.int .i64 c)) .nil))) ∧
 True) ∧
 L56_0 o l s i q p g a f j k m d b n e c t) ∧
 (decide (i < (↑o.size : Int)) = false →
 True ∧
 True ∧
 True ∧
 ((True ∧
 SubS (.sc (.int .i64 l)) ∧
 True ∧
 SubS (.pt 1000 [] (0 : Nat)) ∧
 True ∧
 SubS (.pt 1001 [] (0 : Nat)) ∧
 True ∧
 SubS (.sc (.int .i64 (IntKind.i64.wrap (i + (1 : Int))))) ∧
 True) ∧
 (True ∧ True ∧ True ∧ True) ∧
 SubBS (.cons 1 (.sc (.int .i64 m)) (.cons 1 (.sc (.int .i64 d)) (.cons 1 (.sc (.int .i64 b)) .nil))) ∧
 (True ∧ True ∧ True ∧ True) ∧
 SubBS (.cons 1 (.sc (.int .i64 n)) (.cons 1 (.sc (.int .i64 e)) (.cons 1 (.sc (.int .i64 c)) .nil))) ∧
 True) ∧
 L56_2 l (IntKind.i64.wrap (i + (1 : Int))) m d b n e c t)) from
 ⟨trivial, ⟨⟨rfl, trivial⟩, ⟨trivial, (And.elim (fun h3 k3 => ⟨(And.elim (fun h4 k4 => ⟨h4, k4⟩) h3), ⟨trivial, (Exists.elim k3 fun x5 h5 => ⟨x5, (And.elim (fun h6 k6 => ⟨⟨⟨trivial, ⟨trivial, trivial⟩⟩, ⟨trivial, h6⟩⟩, ⟨trivial, (And.elim (fun h8 k8 => ⟨(fun x9 => (fun h9 => ⟨⟨⟨trivial, ⟨Sub.refl _, ⟨trivial, ⟨Sub.refl _, ⟨trivial, ⟨Sub.refl _, ⟨trivial, ⟨Sub.refl _, trivial⟩⟩⟩⟩⟩⟩⟩⟩, ⟨⟨trivial, ⟨trivial, ⟨trivial, trivial⟩⟩⟩, ⟨SubB.refl _, ⟨⟨trivial, ⟨trivial, ⟨trivial, trivial⟩⟩⟩, ⟨SubB.refl _, trivial⟩⟩⟩⟩⟩, h9⟩) (h8 x9)), (fun x9 => (fun h9 => ⟨trivial, ⟨trivial, ⟨trivial, ⟨trivial, (And.elim (fun h14 k14 => ⟨(fun x15 => (fun h15 => ⟨⟨⟨trivial, ⟨Sub.refl _, ⟨trivial, ⟨Sub.refl _, ⟨trivial, ⟨Sub.refl _, ⟨trivial, ⟨Sub.refl _, ⟨trivial, ⟨Sub.refl _, ⟨trivial, ⟨Sub.refl _, ⟨trivial, ⟨Sub.refl _, trivial⟩⟩⟩⟩⟩⟩⟩⟩⟩⟩⟩⟩⟩⟩, ⟨⟨trivial, ⟨trivial, ⟨trivial, ⟨trivial, trivial⟩⟩⟩⟩, ⟨SubB.refl _, ⟨⟨trivial, ⟨trivial, ⟨trivial, trivial⟩⟩⟩, ⟨SubB.refl _, ⟨⟨trivial, ⟨trivial, ⟨trivial, trivial⟩⟩⟩, ⟨SubB.refl _, trivial⟩⟩⟩⟩⟩⟩⟩, h15⟩) (h14 x15)), (fun x15 => (fun h15 => ⟨trivial, ⟨trivial, ⟨trivial, ⟨⟨⟨trivial, ⟨Sub.refl _, ⟨trivial, ⟨Sub.refl _, ⟨trivial, ⟨Sub.refl _, ⟨trivial, ⟨Sub.refl _, trivial⟩⟩⟩⟩⟩⟩⟩⟩, ⟨⟨trivial, ⟨trivial, ⟨trivial, trivial⟩⟩⟩, ⟨SubB.refl _, ⟨⟨trivial, ⟨trivial, ⟨trivial, trivial⟩⟩⟩, ⟨SubB.refl _, trivial⟩⟩⟩⟩⟩, h15⟩⟩⟩⟩) (k14 x15))⟩) h9)⟩⟩⟩⟩) (k8 x9))⟩) k6)⟩⟩) h5)⟩)⟩⟩) h)⟩⟩⟩)
theorem r56_2 (b i j f d c a e : Int) (g : AV)
 (h : Sub
 (.cons 1 (.sc (.int .i64 c))
 (.cons 1 (.sc (.int .i64 a)) (.cons 1 (.sc (.int .i64 (IntKind.i64.wrap (i - b)))) .nil)))
 g) :
 L56_2 b i j f d c a e g :=
 rule Go.Am.Seat.tabOk 56 [] Go.Proofs.Try.f56 hf56 [1, 0, 1, 1, 1, 1, 1, 1, 1, 1, 1, 1, 1] (s56_2 b i j f d c a e) (m56_2 b i j f d c a e) g [] 400
 (Orc.fin
 (.cons 1 (.sc (.int .i64 c))
 (.cons 1 (.sc (.int .i64 a)) (.cons 1 (.sc (.int .i64 (IntKind.i64.wrap (i - b)))) .nil)))
 [] []) _ _ (by kernel_rfl) (by kernel_rfl) (show True ∧
 True ∧
 True ∧
 True ∧
 ((1 : Nat) + ((1 : Nat) + (0 : Nat)) = (2 : Nat) ∧ True) ∧
 ((0 : Nat) = (0 : Nat) ∧ True) ∧
 ((0 : Nat) = (0 : Nat) ∧ True) ∧
 ((0 : Nat) = (0 : Nat) ∧ True) ∧
 (((True ∧ True ∧ True ∧ True) ∧
 SubS (.cons 1 (.sc (.int .i64 c)) (.cons 1 (.sc (.int .i64 a)) (.cons 1 (.sc (.int .i64 (IntKind.i64.wrap (i - b)))) .nil))) ∧
 True) ∧
 True) ∧
 Sub
 (.cons 1 (.sc (.int .i64 c))
 (.cons 1 (.sc (.int .i64 a))
 (.cons 1 (.sc (.int .i64 (IntKind.i64.wrap (i - b)))) .nil)))
 g ∧
 SubOut [] [] from
 ⟨trivial, ⟨trivial, ⟨trivial, ⟨trivial, ⟨⟨rfl, trivial⟩, ⟨⟨rfl, trivial⟩, ⟨⟨rfl, trivial⟩, ⟨⟨rfl, trivial⟩, ⟨⟨⟨⟨trivial, ⟨trivial, ⟨trivial, trivial⟩⟩⟩, ⟨Sub.refl _, trivial⟩⟩, trivial⟩, ((fun h9 => ⟨h9, trivial⟩) h)⟩⟩⟩⟩⟩⟩⟩⟩⟩)
theorem hf57 : Go.Proofs.Try.prog.funcs[57]? = some Go.Proofs.Try.f57 := by kernel_rfl
abbrev s57_e : List (Nat × AV) := []
abbrev m57_e : List (Nat × Nat × AV) := []
def L57_e (a : AV) : Prop := Goes ⟨Go.Proofs.Try.prog, 57, [], a, []⟩ (place Go.Proofs.Try.f57 []) (s57_e ) (m57_e )
theorem o57 (a : AV) (b : newOnly a) (h : L57_e  a) : Ok Go.Proofs.Try.prog 57 [] [] a [] :=
 okRule2 57 Go.Proofs.Try.f57 hf57 [] [] a [] [] rfl (by kernel_rfl) (by kernel_rfl) (by kernel_rfl) ⟨b, by simp⟩ (L57_e  a) (by kernel_rfl) h
theorem r57_e (a : AV)
 (h : ((0 : Int) ≤ (97 : Int) ∧ (97 : Int) < (↑(256 : Nat) : Int)) ∧
 (97 : Nat) < (256 : Nat) ∧
 ((0 : Int) ≤ (98 : Int) ∧ (98 : Int) < (↑(256 : Nat) : Int)) ∧
 (98 : Nat) < (256 : Nat) ∧
 Sub
 (.cons 1 (.sc (.int .i64 (0 : Int)))
 (.cons 256
 (.ar 256 (1 : Nat) fun (i : Nat) =>
 .sc (.int .u8 (bif i.beq (98 : Nat) then (2 : Int) else bif i.beq (97 : Nat) then (1 : Int) else (0 : Int))))
 (.cons 1
 (.vec false 1 5 5 fun (i : Nat) =>
 AV.pick (i.beq (4 : Nat))
 (.vec false 1 3 3 fun (i : Nat) =>
 .sc
 (.int IntKind.i64
 (bif i.beq (2 : Nat) then (-1 : Int)
 else bif i.beq (1 : Nat) then (-1 : Int) else bif i.beq (0 : Nat) then (-1 : Int) else (0 : Int))))
 (AV.pick (i.beq (3 : Nat))
 (.vec false 1 3 3 fun (i : Nat) =>
 .sc
 (.int IntKind.i64
 (bif i.beq (2 : Nat) then (-1 : Int)
 else bif i.beq (1 : Nat) then (4 : Int) else bif i.beq (0 : Nat) then (-1 : Int) else (0 : Int))))
 (AV.pick (i.beq (2 : Nat))
 (.vec false 1 3 3 fun (i : Nat) =>
 .sc
 (.int IntKind.i64
 (bif i.beq (2 : Nat) then (-1 : Int)
 else bif i.beq (1 : Nat) then (-1 : Int) else bif i.beq (0 : Nat) then (-1 : Int) else (0 : Int))))
 (AV.pick (i.beq (1 : Nat))
 (.vec false 1 3 3 fun (i : Nat) =>
 .sc
 (.int IntKind.i64
 (bif i.beq (2 : Nat) then (3 : Int)
 else bif i.beq (1 : Nat) then (1 : Int) else bif i.beq (0 : Nat) then (-1 : Int) else (0 : Int))))
 (AV.pick (i.beq (0 : Nat))
 (.vec false 1 3 3 fun (i : Nat) =>
 .sc
 (.int IntKind.i64
 (bif i.beq (2 : Nat) then (2 : Int)
 else bif i.beq (1 : Nat) then (1 : Int) else bif i.beq (0 : Nat) then (-1 : Int) else (0 : Int))))
 (.sc (.slice none (0 : Nat) (0 : Nat))))))))
 (.cons 1
 (.vec false 1 5 5 fun (i : Nat) =>
 .sc
 (.int IntKind.i64
 (bif i.beq (4 : Nat) then (6 : Int)
 else
 bif i.beq (3 : Nat) then (-1 : Int)
 else
 bif i.beq (2 : Nat) then (5 : Int)
 else bif i.beq (1 : Nat) then (4 : Int) else bif i.beq (0 : Nat) then (-1 : Int) else (0 : Int))))
 .nil))))
 a) :
 L57_e  a :=
 rule Go.Am.Seat.tabOk 57 [] Go.Proofs.Try.f57 hf57 [] (s57_e ) (m57_e ) a [] 400
 (Orc.fin
 (.cons 1 (.sc (.int .i64 (0 : Int)))
 (.cons 256
 (.ar 256 (1 : Nat) fun (i : Nat) =>
 .sc (.int .u8 (bif i.beq (Int.toNat (98 : Int)) then (2 : Int) else bif i.beq (Int.toNat (97 : Int)) then (1 : Int) else (0 : Int))))
 (.cons 1
 (.vec false 1 5 5 fun (i : Nat) =>
 AV.pick ((plus (0 : Nat) i).beq ((4 : Nat), Operand.tmp (6 : Nat)).1)
 (.vec false 1 3 3 fun (i : Nat) =>
 .sc
 (.int IntKind.i64
 (bif (plus (0 : Nat) i).beq ((2 : Nat), Operand.const (.int .i64 (-1 : Int))).1 then (-1 : Int)
 else
 bif (plus (0 : Nat) i).beq ((1 : Nat), Operand.const (.int .i64 (-1 : Int))).1 then (-1 : Int)
 else bif (plus (0 : Nat) i).beq ((0 : Nat), Operand.const (.int .i64 (-1 : Int))).1 then (-1 : Int) else (0 : Int))))
 (AV.pick ((plus (0 : Nat) i).beq ((3 : Nat), Operand.tmp (5 : Nat)).1)
 (.vec false 1 3 3 fun (i : Nat) =>
 .sc
 (.int IntKind.i64
 (bif (plus (0 : Nat) i).beq ((2 : Nat), Operand.const (.int .i64 (-1 : Int))).1 then (-1 : Int)
 else
 bif (plus (0 : Nat) i).beq ((1 : Nat), Operand.const (.int .i64 (4 : Int))).1 then (4 : Int)
 else bif (plus (0 : Nat) i).beq ((0 : Nat), Operand.const (.int .i64 (-1 : Int))).1 then (-1 : Int) else (0 : Int))))
 (AV.pick ((plus (0 : Nat) i).beq ((2 : Nat), Operand.tmp (4 : Nat)).1)
 (.vec false 1 3 3 fun (i : Nat) =>
 .sc
 (.int IntKind.i64
 (bif (plus (0 : Nat) i).beq ((2 : Nat), Operand.const (.int .i64 (-1 : Int))).1 then (-1 : Int)
 else
 bif (plus (0 : Nat) i).beq ((1 : Nat), Operand.const (.int .i64 (-1 : Int))).1 then (-1 : Int)
 else bif (plus (0 : Nat) i).beq ((0 : Nat), Operand.const (.int .i64 (-1 : Int))).1 then (-1 : Int) else (0 : Int))))
 (AV.pick ((plus (0 : Nat) i).beq ((1 : Nat), Operand.tmp (3 : Nat)).1)
 (.vec false 1 3 3 fun (i : Nat) =>
 .sc
 (.int IntKind.i64
 (bif (plus (0 : Nat) i).beq ((2 : Nat), Operand.const (.int .i64 (3 : Int))).1 then (3 : Int)
 else
 bif (plus (0 : Nat) i).beq ((1 : Nat), Operand.const (.int .i64 (1 : Int))).1 then (1 : Int)
 else bif (plus (0 : Nat) i).beq ((0 : Nat), Operand.const (.int .i64 (-1 : Int))).1 then (-1 : Int) else (0 : Int))))
 (AV.pick ((plus (0 : Nat) i).beq ((0 : Nat), Operand.tmp (2 : Nat)).1)
 (.vec false 1 3 3 fun (i : Nat) =>
 .sc
 (.int IntKind.i64
 (bif (plus (0 : Nat) i).beq ((2 : Nat), Operand.const (.int .i64 (2 : Int))).1 then (2 : Int)
 else
 bif (plus (0 : Nat) i).beq ((1 : Nat), Operand.const (.int .i64 (1 : Int))).1 then (1 : Int)
 else bif (plus (0 : Nat) i).beq ((0 : Nat), Operand.const (.int .i64 (-1 : Int))).1 then (-1 : Int) else (0 : Int))))
 (.sc (.slice none (0 : Nat) (0 : Nat))))))))
 (.cons 1
 (.vec false 1 5 5 fun (i : Nat) =>
 .sc
 (.int IntKind.i64
 (bif (plus (0 : Nat) i).beq ((4 : Nat), Operand.const (.int .i64 (6 : Int))).1 then (6 : Int)
 else
 bif (plus (0 : Nat) i).beq ((3 : Nat), Operand.const (.int .i64 (-1 : Int))).1 then (-1 : Int)
 else
 bif (plus (0 : Nat) i).beq ((2 : Nat), Operand.const (.int .i64 (5 : Int))).1 then (5 : Int)
 else
 bif (plus (0 : Nat) i).beq ((1 : Nat), Operand.const (.int .i64 (4 : Int))).1 then (4 : Int)
 else bif (plus (0 : Nat) i).beq ((0 : Nat), Operand.const (.int .i64 (-1 : Int))).1 then (-1 : Int) else (0 : Int))))
 .nil))))
 [] []) _ _ (by kernel_rfl) (by kernel_rfl) (show True ∧
 ((True ∧ True ∧ True ∧ True) ∧ True) ∧
 ((True ∧ True ∧ True ∧ True) ∧ True) ∧
 ((True ∧ True ∧ True ∧ True) ∧ True) ∧
 ((True ∧ True ∧ True ∧ True) ∧ True) ∧
 ((True ∧ True ∧ True ∧ True) ∧ True) ∧
 (((0 : Nat) + (3 : Nat) ≤ (3 : Nat) ∧
 (0 : Nat) + (3 : Nat) ≤ (3 : Nat) ∧
 (0 : Nat) + (3 : Nat) ≤ (3 : Nat) ∧ (0 : Nat) + (3 : Nat) ≤ (3 : Nat) ∧ (0 : Nat) + (3 : Nat) ≤ (3 : Nat) ∧ True) ∧
 True) ∧
 ((True ∧ True ∧ True ∧ True ∧ True ∧ True) ∧ True) ∧
 True ∧
 True ∧
 ((0 : Nat) = (0 : Nat) ∧ True) ∧
 True ∧
 ((0 : Int) ≤ (97 : Int) ∧ (97 : Int) < (↑(256 : Nat) : Int)) ∧
 ((1 : Nat) + ((97 : Nat) * (1 : Nat) + (0 : Nat)) = plus (1 : Nat) ((97 : Nat) * (1 : Nat)) ∧
 ((97 : Nat) < (256 : Nat) ∧ True) ∧ True) ∧
 True ∧
 ((0 : Int) ≤ (98 : Int) ∧ (98 : Int) < (↑(256 : Nat) : Int)) ∧
 ((1 : Nat) + ((98 : Nat) * (1 : Nat) + (0 : Nat)) = plus (1 : Nat) ((98 : Nat) * (1 : Nat)) ∧
 ((98 : Nat) < (256 : Nat) ∧ True) ∧ True) ∧
 ((0 : Nat) = (0 : Nat) ∧ True) ∧
 ((0 : Nat) = (0 : Nat) ∧ True) ∧
 ((0 : Nat) = (0 : Nat) ∧ True) ∧
 (((True ∧ True ∧ (0 : Nat) + (5 : Nat) ≤ (5 : Nat) ∧ (0 : Nat) + (5 : Nat) ≤ (5 : Nat) ∧ True) ∧
 SubS (.cons 1 (.sc (.int .i64 (0 : Int))) (.cons 256 (.ar 256 (1 : Nat) fun (i : Nat) => .sc (.int IntKind.u8 (bif i.beq (98 : Nat) then (2 : Int) else bif i.beq (97 : Nat) then (1 : Int) else (0 : Int)))) (.cons 1 (.vec false 1 5 5 fun (i : Nat) => AV.pick (i.beq (4 : Nat)) (.vec false 1 3 3 fun (i : Nat) => .sc (.int IntKind.i64 (bif i.beq (2 : Nat) then (-1 : Int) else bif i.beq (1 : Nat) then (-1 : Int) else bif i.beq (0 : Nat) then (-1 : Int) else (0 : Int)))) (AV.pick (i.beq (3 : Nat)) (.vec false 1 3 3 fun (i : Nat) => .sc (.int IntKind.i64 (bif i.beq (2 : Nat) then (-1 : Int) else bif i.beq (1 : Nat) then (4 : Int) else bif i.beq (0 : Nat) then (-1 : Int) else (0 : Int)))) (AV.pick (i.beq (2 : Nat)) (.vec false 1 3 3 fun (i : Nat) => .sc (.int IntKind.i64 (bif i.beq (2 : Nat) then (-1 : Int) else bif i.beq (1 : Nat) then (-1 : Int) else bif i.beq (0 : Nat) then (-1 : Int) else (0 : Int)))) (AV.pick (i.beq (1 : Nat)) (.vec false 1 3 3 fun (i : Nat) => .sc (.int IntKind.i64 (bif i.beq (2 : Nat) then (3 : Int) else bif i.beq (1 : Nat) then (1 : Int) else bif i.beq (0 : Nat) then (-1 : Int) else (0 : Int)))) (AV.pick (i.beq (0 : Nat)) (.vec false 1 3 3 fun (i : Nat) => .sc (.int IntKind.i64 (bif i.beq (2 : Nat) then (2 : Int) else bif i.beq (1 : Nat) then (1 : Int) else bif i.beq (0 : Nat) then (-1 : Int) else (0 : Int)))) (.sc (.slice none (0 : Nat) (0 : Nat)))))))) (.cons 1 (.vec false 1 5 5 fun (i : Nat) => .sc (.int IntKind.i64 (bif i.beq (4 : Nat) then (6 : Int) else bif i.beq (3 : Nat) then (-1 : Int) else bif i.beq (2 : Nat) then (5 : Int) else bif i.beq (1 : Nat) then (4 : Int) else bif i.beq (0 : Nat) then (-1 : Int) else (0 : Int)))) .nil)))) ∧
 True) ∧
 True) ∧
 Sub
 (.cons 1 (.sc (.int .i64 (0 : Int)))
 (.cons 256
 (.ar 256 (1 : Nat) fun (i : Nat) =>
 .sc
 (.int IntKind.u8
 (bif i.beq (98 : Nat) then (2 : Int) else bif i.beq (97 : Nat) then (1 : Int) else (0 : Int))))
 (.cons 1
 (.vec false 1 5 5 fun (i : Nat) =>
 AV.pick (i.beq (4 : Nat))
 (.vec false 1 3 3 fun (i : Nat) =>
 .sc
 (.int IntKind.i64
 (bif i.beq (2 : Nat) then (-1 : Int)
 else
 bif i.beq (1 : Nat) then (-1 : Int) else bif i.beq (0 : Nat) then (-1 : Int) else (0 : Int))))
 (AV.pick (i.beq (3 : Nat))
 (.vec false 1 3 3 fun (i : Nat) =>
 .sc
 (.int IntKind.i64
 (bif i.beq (2 : Nat) then (-1 : Int)
 else
 bif i.beq (1 : Nat) then (4 : Int) else bif i.beq (0 : Nat) then (-1 : Int) else (0 : Int))))
 (AV.pick (i.beq (2 : Nat))
 (.vec false 1 3 3 fun (i : Nat) =>
 .sc
 (.int IntKind.i64
 (bif i.beq (2 : Nat) then (-1 : Int)
 else
 bif i.beq (1 : Nat) then (-1 : Int)
 else bif i.beq (0 : Nat) then (-1 : Int) else (0 : Int))))
 (AV.pick (i.beq (1 : Nat))
 (.vec false 1 3 3 fun (i : Nat) =>
 .sc
 (.int IntKind.i64
 (bif i.beq (2 : Nat) then (3 : Int)
 else
 bif i.beq (1 : Nat) then (1 : Int)
 else bif i.beq (0 : Nat) then (-1 : Int) else (0 : Int))))
 (AV.pick (i.beq (0 : Nat))
 (.vec false 1 3 3 fun (i : Nat) =>
 .sc
 (.int IntKind.i64
 (bif i.beq (2 : Nat) then (2 : Int)
 else
 bif i.beq (1 : Nat) then (1 : Int)
 else bif i.beq (0 : Nat) then (-1 : Int) else (0 : Int))))
 (.sc (.slice none (0 : Nat) (0 : Nat))))))))
 (.cons 1
 (.vec false 1 5 5 fun (i : Nat) =>
 .sc
 (.int IntKind.i64
 (bif i.beq (4 : Nat) then (6 : Int)
 else
 bif i.beq (3 : Nat) then (-1 : Int)
 else
 bif i.beq (2 : Nat) then (5 : Int)
 else
 bif i.beq (1 : Nat) then (4 : Int) else bif i.beq (0 : Nat) then (-1 : Int) else (0 : Int))))
 .nil))))
 a ∧
 SubOut [] [] from
 ⟨trivial, ⟨⟨⟨trivial, ⟨trivial, ⟨trivial, trivial⟩⟩⟩, trivial⟩, ⟨⟨⟨trivial, ⟨trivial, ⟨trivial, trivial⟩⟩⟩, trivial⟩, ⟨⟨⟨trivial, ⟨trivial, ⟨trivial, trivial⟩⟩⟩, trivial⟩, ⟨⟨⟨trivial, ⟨trivial, ⟨trivial, trivial⟩⟩⟩, trivial⟩, ⟨⟨⟨trivial, ⟨trivial, ⟨trivial, trivial⟩⟩⟩, trivial⟩, ⟨⟨⟨(by decide), ⟨(by decide), ⟨(by decide), ⟨(by decide), ⟨(by decide), trivial⟩⟩⟩⟩⟩, trivial⟩, ⟨⟨⟨trivial, ⟨trivial, ⟨trivial, ⟨trivial, ⟨trivial, trivial⟩⟩⟩⟩⟩, trivial⟩, ⟨trivial, ⟨trivial, ⟨⟨rfl, trivial⟩, ⟨trivial, (And.elim (fun h12 k12 => ⟨(And.elim (fun h13 k13 => ⟨h13, k13⟩) h12), (And.elim (fun h13 k13 => ⟨⟨rfl, ((fun h15 => ⟨((fun h16 => ⟨h16, trivial⟩) h15), trivial⟩) h13)⟩, ⟨trivial, (And.elim (fun h15 k15 => ⟨(And.elim (fun h16 k16 => ⟨h16, k16⟩) h15), (And.elim (fun h16 k16 => ⟨⟨rfl, ((fun h18 => ⟨((fun h19 => ⟨h19, trivial⟩) h18), trivial⟩) h16)⟩, ⟨⟨rfl, trivial⟩, ⟨⟨rfl, trivial⟩, ⟨⟨rfl, trivial⟩, ⟨⟨⟨⟨trivial, ⟨trivial, ⟨(by decide), ⟨(by decide), trivial⟩⟩⟩⟩, ⟨Sub.refl _, trivial⟩⟩, trivial⟩, ((fun h21 => ⟨h21, trivial⟩) k16)⟩⟩⟩⟩⟩) k15)⟩) k13)⟩⟩) k12)⟩) h)⟩⟩⟩⟩⟩⟩⟩⟩⟩⟩⟩⟩)
theorem hf75 : Go.Proofs.Try.prog.funcs[75]? = some Go.Proofs.Try.f75 := by kernel_rfl
abbrev s75_e (g : Int) (f : Nat → Int) (c : Nat) (a : Nat → Nat) (d : Nat → Nat → Int) (b : Nat) (e : Nat → Int) : List (Nat × AV) := [(0, (.cons 1 (.sc (.int .i64 g)) (.cons 256 (.ar 256 1 (fun i0 => (.sc (.int .u8 (f i0))))) (.cons 1 (.vec true 1 c c (fun i0 => (.vec true 1 (a i0) (a i0) (fun i1 => (.sc (.int .i64 (d i0 i1))))))) (.cons 1 (.vec true 1 b b (fun i0 => (.sc (.int .i64 (e i0))))) .nil)))))]
abbrev m75_e (g : Int) (f : Nat → Int) (e : Nat) (b : Nat → Nat) (a : Nat → Nat → Int) (d : Nat) (c : Nat → Int) : List (Nat × Nat × AV) := []
def L75_e (g : Int) (f : Nat → Int) (e : Nat) (b : Nat → Nat) (a : Nat → Nat → Int) (d : Nat) (c : Nat → Int) (h : AV) : Prop := Goes ⟨Go.Proofs.Try.prog, 75, [], h, []⟩ (place Go.Proofs.Try.f75 []) (s75_e g f e b a d c) (m75_e g f e b a d c)
abbrev s75_0 (a : Nat) (h i : Int) (g : Nat → Int) (f : Nat) (c : Nat → Nat) (b : Nat → Nat → Int) (e : Nat) (d : Nat → Int) (l : Nat → Bool) (k : Nat) (j : Nat → Int) : List (Nat × AV) := [(1, (.pt 1000 [] 0)), (3, (.rf 1001 1 0 a)), (4, (.pt 1002 [] 0)), (7, (.sc (.int .i64 h)))]
abbrev m75_0 (k : Nat) (l g : Int) (f : Nat → Int) (c : Nat) (a : Nat → Nat) (d : Nat → Nat → Int) (b : Nat) (e : Nat → Int) (j : Nat → Bool) (i : Nat) (h : Nat → Int) : List (Nat × Nat × AV) := [(1000, 26, (.cons 1 (.sc (.int .i64 g)) (.cons 256 (.ar 256 1 (fun i0 => (.sc (.int .u8 (f i0))))) (.cons 1 (.vec true 1 c c (fun i0 => (.vec true 1 (a i0) (a i0) (fun i1 => (.sc (.int .i64 (d i0 i1))))))) (.cons 1 (.vec true 1 b b (fun i0 => (.sc (.int .i64 (e i0))))) .nil))))), (1002, 163, (.ar 256 1 (fun i0 => (.sc (.bool (j i0)))))), (1001, 5, (.ar i 1 (fun i0 => (.sc (.int .u8 (h i0))))))]
def L75_0 (g : Nat) (m h : Int) (f : Nat → Int) (e : Nat) (b : Nat → Nat) (a : Nat → Nat → Int) (d : Nat) (c : Nat → Int) (k : Nat → Bool) (j : Nat) (i : Nat → Int) (l : AV) : Prop := Goes ⟨Go.Proofs.Try.prog, 75, [], l, []⟩ (place Go.Proofs.Try.f75 [1, 1, 1, 0, 1, 0, 0]) (s75_0 g m h f e b a d c k j i) (m75_0 g m h f e b a d c k j i)
abbrev s75_1 (a : Nat) (h i : Int) (g : Nat → Int) (f : Nat) (c : Nat → Nat) (b : Nat → Nat → Int) (e : Nat) (d : Nat → Int) (k : Nat) (j : Nat → Int) (l : Nat → Bool) : List (Nat × AV) := [(1, (.pt 1000 [] 0)), (3, (.rf 1001 1 0 a)), (4, (.pt 1002 [] 0)), (7, (.sc (.int .i64 h)))]
abbrev m75_1 (k : Nat) (l g : Int) (f : Nat → Int) (c : Nat) (a : Nat → Nat) (d : Nat → Nat → Int) (b : Nat) (e : Nat → Int) (i : Nat) (h : Nat → Int) (j : Nat → Bool) : List (Nat × Nat × AV) := [(1000, 26, (.cons 1 (.sc (.int .i64 g)) (.cons 256 (.ar 256 1 (fun i0 => (.sc (.int .u8 (f i0))))) (.cons 1 (.vec true 1 c c (fun i0 => (.vec true 1 (a i0) (a i0) (fun i1 => (.sc (.int .i64 (d i0 i1))))))) (.cons 1 (.vec true 1 b b (fun i0 => (.sc (.int .i64 (e i0))))) .nil))))), (1001, 5, (.ar i 1 (fun i0 => (.sc (.int .u8 (h i0)))))), (1002, 163, (.ar 256 1 (fun i0 => (.sc (.bool (j i0))))))]
def L75_1 (g : Nat) (m h : Int) (f : Nat → Int) (e : Nat) (b : Nat → Nat) (a : Nat → Nat → Int) (d : Nat) (c : Nat → Int) (j : Nat) (i : Nat → Int) (k : Nat → Bool) (l : AV) : Prop := Goes ⟨Go.Proofs.Try.prog, 75, [], l, []⟩ (place Go.Proofs.Try.f75 [1, 1, 1, 0, 1, 0, 0, 1, 1, 1]) (s75_1 g m h f e b a d c j i k) (m75_1 g m h f e b a d c j i k)
theorem o75 (i : Int) (f : Nat → Int) (c : Nat) (a : Nat → Nat) (d : Nat → Nat → Int) (b : Nat) (e : Nat → Int) (g : AV) (j : newOnly g) (h : L75_e i f c a d b e g) : Ok Go.Proofs.Try.prog 75 [(.cons 1 (.sc (.int .i64 i)) (.cons 256 (.ar 256 1 (fun i0 => (.sc (.int .u8 (f i0))))) (.cons 1 (.vec true 1 c c (fun i0 => (.vec true 1 (a i0) (a i0) (fun i1 => (.sc (.int .i64 (d i0 i1))))))) (.cons 1 (.vec true 1 b b (fun i0 => (.sc (.int .i64 (e i0))))) .nil))))] [] g [] :=
 okRule2 75 Go.Proofs.Try.f75 hf75 [(.cons 1 (.sc (.int .i64 i)) (.cons 256 (.ar 256 1 (fun i0 => (.sc (.int .u8 (f i0))))) (.cons 1 (.vec true 1 c c (fun i0 => (.vec true 1 (a i0) (a i0) (fun i1 => (.sc (.int .i64 (d i0 i1))))))) (.cons 1 (.vec true 1 b b (fun i0 => (.sc (.int .i64 (e i0))))) .nil))))] [] g [] [] rfl (by kernel_rfl) (by kernel_rfl) (by kernel_rfl) ⟨j, by simp⟩ (L75_e i f c a d b e g) (by kernel_rfl) h
theorem r75_e (g : Int) (f : Nat → Int) (d : Nat) (a : Nat → Nat) (c : Nat → Nat → Int) (b : Nat) (e : Nat → Int) (j : AV)
 (h : L75_0 (0 : Nat) (0 : Int) g f d a c b e (fun (x : Nat) => false) (0 : Nat) (fun (i : Nat) => Int.ofNat (0 : Nat)) j) :
 L75_e g f d a c b e j :=
 rule Go.Am.Seat.tabOk 75 [] Go.Proofs.Try.f75 hf75 [] (s75_e g f d a c b e) (m75_e g f d a c b e) j [] 400
 (Orc.cut (nat_lit 11)
 (s75_0 (0 : Nat) (0 : Int) g f d a c b e (fun (x : Nat) => false) (0 : Nat) fun (i : Nat) => Int.ofNat (0 : Nat))
 (m75_0 (0 : Nat) (0 : Int) g f d a c b e (fun (x : Nat) => false) (0 : Nat) fun (i : Nat) => Int.ofNat (0 : Nat))
 [((1000 : Nat), some (1 : Nat)), ((1002 : Nat), some (4 : Nat)), ((1001 : Nat), none)]) _ _ (by kernel_rfl) (by kernel_rfl) (show True ∧
 True ∧
 True ∧
 True ∧
 True ∧
 ((True ∧
 SubS (.pt 1000 [] (0 : Nat)) ∧
 True ∧
 SubS (.pt 1002 [] (0 : Nat)) ∧
 True ∧ SubS (.sc (.int .i64 (0 : Int))) ∧ True) ∧
 (True ∧ True ∧ True ∧ True ∧ True) ∧
 SubBS (.cons 1 (.sc (.int .i64 g)) (.cons 256 (.ar 256 (1 : Nat) fun (i0 : Nat) => .sc (.int .u8 (f i0))) (.cons 1 (.vec true 1 d d fun (i0 : Nat) => .vec true 1 (a i0) (a i0) fun (i1 : Nat) => .sc (.int .i64 (c i0 i1))) (.cons 1 (.vec true 1 b b fun (i0 : Nat) => .sc (.int .i64 (e i0))) .nil)))) ∧
 True ∧
 SubB (.ar 256 (1 : Nat) fun (x : Nat) => .sc (.bool false))
 (.ar 256 (1 : Nat) fun (i0 : Nat) => .sc (.bool false)) ∧
 True) ∧
 L75_0 (0 : Nat) (0 : Int) g f d a c b e (fun (x : Nat) => false) (0 : Nat) (fun (i : Nat) => Int.ofNat (0 : Nat)) j from
 ⟨trivial, ⟨trivial, ⟨trivial, ⟨trivial, ⟨trivial, ⟨⟨⟨trivial, ⟨Sub.refl _, ⟨trivial, ⟨Sub.refl _, ⟨trivial, ⟨Sub.refl _, trivial⟩⟩⟩⟩⟩⟩, ⟨⟨trivial, ⟨trivial, ⟨trivial, ⟨trivial, trivial⟩⟩⟩⟩, ⟨SubB.refl _, ⟨trivial, ⟨SubB.refl _, trivial⟩⟩⟩⟩⟩, h⟩⟩⟩⟩⟩⟩)
theorem r75_0 (a : Nat) (f m : Int) (b : Nat → Int) (e : Nat) (c : Nat → Nat) (g : Nat → Nat → Int) (d : Nat) (j : Nat → Int) (l : Nat → Bool) (n : Nat) (k : Nat → Int) (o : AV)
 (h : (decide (f < (256 : Int)) = true →
 ((0 : Int) ≤ f ∧ f < (↑(256 : Nat) : Int)) ∧
 f.toNat < (256 : Nat) ∧
 ((0 : Int) ≤ b f.toNat ∧ b f.toNat < (↑(256 : Nat) : Int)) ∧
 (b f.toNat).toNat < (256 : Nat) ∧
 ((!l (b f.toNat).toNat) = true →
 (a ≤ n ∧ (a + (1 : Nat)) * (1 : Nat) ≤ (140737488355328 : Nat) ∧ a + (1 : Nat) ≤ maxLen) ∧
 L75_1 (a + (1 : Nat)) f m b e c g d j (a + (1 : Nat))
 (fun (i : Nat) => bif i.blt a then k i else IntKind.u8.wrap f)
 (fun (i : Nat) => bif i.beq (b f.toNat).toNat then true else l i) o) ∧
 ((!l (b f.toNat).toNat) = false → L75_1 a f m b e c g d j n k l o)) ∧
 (decide (f < (256 : Int)) = false →
 ((0 : Nat) + a ≤ n ∧
 Sub (.vec false 1 a (n - (0 : Nat)) fun (i : Nat) => .sc (.int .u8 (k i)))
 (.vec false 1 a a fun (i : Nat) => .sc (.int .u8 (k i)))) ∧
 Sub (.vec false 1 a a fun (i : Nat) => .sc (.int .u8 (k i))) o)) :
 L75_0 a f m b e c g d j l n k o :=
 rule Go.Am.Seat.tabOk 75 [] Go.Proofs.Try.f75 hf75 [1, 1, 1, 0, 1, 0, 0] (s75_0 a f m b e c g d j l n k) (m75_0 a f m b e c g d j l n k) o [] 400
 (((Orc.cut (nat_lit 4)
 (s75_1 (a + (1 : Nat)) f m b e c g d j (a + (1 : Nat))
 (fun (i : Nat) => bif i.blt a then k i else IntKind.u8.wrap f) fun (i : Nat) => bif i.beq (b f.toNat).toNat then true else l i)
 (m75_1 (a + (1 : Nat)) f m b e c g d j (a + (1 : Nat))
 (fun (i : Nat) => bif i.blt a then k i else IntKind.u8.wrap f) fun (i : Nat) => bif i.beq (b f.toNat).toNat then true else l i)
 [((1000 : Nat), some (1000 : Nat)), ((1001 : Nat), some (24 : Nat)), ((1002 : Nat), some (1002 : Nat))]).br
 (Orc.cut (nat_lit 2) (s75_1 a f m b e c g d j n k l)
 (m75_1 a f m b e c g d j n k l)
 [((1000 : Nat), some (1000 : Nat)), ((1001 : Nat), some (1001 : Nat)), ((1002 : Nat), some (1002 : Nat))])).br
 (Orc.fin (.vec false 1 a a fun (i : Nat) => .sc (.int .u8 (k (plus (0 : Nat) i)))) [] [])) _ _ (by kernel_rfl) (by kernel_rfl) (show True ∧
 (decide (f < (256 : Int)) = true →
 True ∧
 True ∧
 True ∧
 True ∧
 ((0 : Int) ≤ f ∧ f < (↑(256 : Nat) : Int)) ∧
 ((1 : Nat) + (f.toNat * (1 : Nat) + (0 : Nat)) = plus (1 : Nat) (f.toNat * (1 : Nat)) ∧ f.toNat < (256 : Nat) ∧ True) ∧
 True ∧
 True ∧
 ((0 : Int) ≤ b f.toNat ∧ b f.toNat < (↑(256 : Nat) : Int)) ∧
 ((b f.toNat).toNat * (1 : Nat) + (0 : Nat) = (b f.toNat).toNat * (1 : Nat) ∧ (b f.toNat).toNat < (256 : Nat) ∧ True) ∧
 True ∧
 ((!l (b f.toNat).toNat) = true →
 True ∧
 ((0 : Int) ≤ b f.toNat ∧ b f.toNat < (↑(256 : Nat) : Int)) ∧
 ((b f.toNat).toNat * (1 : Nat) + (0 : Nat) = (b f.toNat).toNat * (1 : Nat) ∧
 ((b f.toNat).toNat < (256 : Nat) ∧ True) ∧ True) ∧
 True ∧
 True ∧
 True ∧
 ((True ∧ True) ∧ True) ∧
 (a ≤ n ∧
 ((0 : Nat) + (1 : Nat) ≤ (1 : Nat) ∧ (1 : Nat) = (1 : Nat)) ∧
 (a + (1 : Nat)) * (1 : Nat) ≤ (140737488355328 : Nat) ∧ a + (1 : Nat) ≤ maxLen) ∧
 True ∧
 ((True ∧
 SubS (.pt 1000 [] (0 : Nat)) ∧
 True ∧
 SubS (.rf 1001 1 0 (a + (1 : Nat))) ∧
 True ∧
 SubS (.pt 1002 [] (0 : Nat)) ∧
 True ∧ SubS (.sc (.int .i64 f)) ∧ True) ∧
 (True ∧ True ∧ True ∧ True ∧ True) ∧
 SubBS (.cons 1 (.sc (.int .i64 m)) (.cons 256 (.ar 256 (1 : Nat) fun (i0 : Nat) => .sc (.int .u8 (b i0))) (.cons 1 (.vec true 1 e e fun (i0 : Nat) => .vec true 1 (c i0) (c i0) fun (i1 : Nat) => .sc (.int .i64 (g i0 i1))) (.cons 1 (.vec true 1 d d fun (i0 : Nat) => .sc (.int .i64 (j i0))) .nil)))) ∧
 True ∧
 SubBS (.ar (a + (1 : Nat)) (1 : Nat) fun (i : Nat) => .sc (.int .u8 (bif i.blt a then k i else IntKind.u8.wrap f))) ∧
 True ∧
 SubBS (.ar 256 (1 : Nat) fun (i : Nat) => .sc (.bool (bif i.beq (b f.toNat).toNat then true else l i))) ∧
 True) ∧
 L75_1 (a + (1 : Nat)) f m b e c g d j (a + (1 : Nat))
 (fun (i : Nat) => bif i.blt a then k i else IntKind.u8.wrap f)
 (fun (i : Nat) => bif i.beq (b f.toNat).toNat then true else l i) o) ∧
 ((!l (b f.toNat).toNat) = false →
 ((True ∧
 SubS (.pt 1000 [] (0 : Nat)) ∧
 True ∧
 SubS (.rf 1001 1 0 a) ∧
 True ∧
 SubS (.pt 1002 [] (0 : Nat)) ∧
 True ∧ SubS (.sc (.int .i64 f)) ∧ True) ∧
 (True ∧ True ∧ True ∧ True ∧ True) ∧
 SubBS (.cons 1 (.sc (.int .i64 m)) (.cons 256 (.ar 256 (1 : Nat) fun (i0 : Nat) => .sc (.int .u8 (b i0))) (.cons 1 (.vec true 1 e e fun (i0 : Nat) => .vec true 1 (c i0) (c i0) fun (i1 : Nat) => .sc (.int .i64 (g i0 i1))) (.cons 1 (.vec true 1 d d fun (i0 : Nat) => .sc (.int .i64 (j i0))) .nil)))) ∧
 True ∧
 SubBS (.ar n (1 : Nat) fun (i0 : Nat) => .sc (.int .u8 (k i0))) ∧
 True ∧
 SubBS (.ar 256 (1 : Nat) fun (i0 : Nat) => .sc (.bool (l i0))) ∧
 True) ∧
 L75_1 a f m b e c g d j n k l o)) ∧
 (decide (f < (256 : Int)) = false →
 True ∧
 True ∧
 True ∧
 (((0 : Nat) + a ≤ n ∧
 Sub (.vec false 1 a (n - (0 : Nat)) fun (i : Nat) => .sc (.int .u8 (k i)))
 (.vec false 1 a a fun (i : Nat) => .sc (.int .u8 (k i))) ∧
 True) ∧
 True) ∧
 Sub (.vec false 1 a a fun (i : Nat) => .sc (.int .u8 (k i))) o ∧ SubOut [] []) from
 ⟨trivial, (And.elim (fun h1 k1 => ⟨(fun x2 => (fun h2 => ⟨trivial, ⟨trivial, ⟨trivial, ⟨trivial, (And.elim (fun h7 k7 => ⟨(And.elim (fun h8 k8 => ⟨h8, k8⟩) h7), (And.elim (fun h8 k8 => ⟨⟨rfl, ((fun h10 => ⟨h10, trivial⟩) h8)⟩, ⟨trivial, ⟨trivial, (And.elim (fun h11 k11 => ⟨(And.elim (fun h12 k12 => ⟨h12, k12⟩) h11), (And.elim (fun h12 k12 => ⟨⟨rfl, ((fun h14 => ⟨h14, trivial⟩) h12)⟩, ⟨trivial, (And.elim (fun h14 k14 => ⟨(fun x15 => (fun h15 => ⟨trivial, ⟨(And.elim (fun h18 k18 => ⟨h18, k18⟩) h11), ⟨⟨rfl, ⟨⟨h12, trivial⟩, trivial⟩⟩, ⟨trivial, ⟨trivial, ⟨trivial, ⟨⟨⟨trivial, trivial⟩, trivial⟩, (And.elim (fun h23 k23 => ⟨(And.elim (fun h24 k24 => ⟨h24, ⟨⟨(by decide), rfl⟩, (And.elim (fun h26 k26 => ⟨h26, k26⟩) k24)⟩⟩) h23), ⟨trivial, ⟨⟨⟨trivial, ⟨Sub.refl _, ⟨trivial, ⟨Sub.refl _, ⟨trivial, ⟨Sub.refl _, ⟨trivial, ⟨Sub.refl _, trivial⟩⟩⟩⟩⟩⟩⟩⟩, ⟨⟨trivial, ⟨trivial, ⟨trivial, ⟨trivial, trivial⟩⟩⟩⟩, ⟨SubB.refl _, ⟨trivial, ⟨SubB.refl _, ⟨trivial, ⟨SubB.refl _, trivial⟩⟩⟩⟩⟩⟩⟩, k23⟩⟩⟩) h15)⟩⟩⟩⟩⟩⟩⟩) (h14 x15)), (fun x15 => (fun h15 => ⟨⟨⟨trivial, ⟨Sub.refl _, ⟨trivial, ⟨Sub.refl _, ⟨trivial, ⟨Sub.refl _, ⟨trivial, ⟨Sub.refl _, trivial⟩⟩⟩⟩⟩⟩⟩⟩, ⟨⟨trivial, ⟨trivial, ⟨trivial, ⟨trivial, trivial⟩⟩⟩⟩, ⟨SubB.refl _, ⟨trivial, ⟨SubB.refl _, ⟨trivial, ⟨SubB.refl _, trivial⟩⟩⟩⟩⟩⟩⟩, h15⟩) (k14 x15))⟩) k12)⟩⟩) k11)⟩) k8)⟩⟩⟩) k7)⟩) h2)⟩⟩⟩⟩) (h1 x2)), (fun x2 => (fun h2 => ⟨trivial, ⟨trivial, ⟨trivial, (And.elim (fun h6 k6 => ⟨((fun h7 => ⟨(And.elim (fun h8 k8 => ⟨h8, ((fun h9 => ⟨h9, trivial⟩) k8)⟩) h7), trivial⟩) h6), ((fun h7 => ⟨h7, trivial⟩) k6)⟩) h2)⟩⟩⟩) (k1 x2))⟩) h)⟩)
theorem r75_1 (g : Nat) (m i : Int) (f : Nat → Int) (c : Nat) (a : Nat → Nat) (d : Nat → Nat → Int) (b : Nat) (e : Nat → Int) (k : Nat) (j : Nat → Int) (l : Nat → Bool) (n : AV)
 (h : L75_0 g (IntKind.i64.wrap (m + (1 : Int))) i f c a d b e l k j n) :
 L75_1 g m i f c a d b e k j l n :=
 rule Go.Am.Seat.tabOk 75 [] Go.Proofs.Try.f75 hf75 [1, 1, 1, 0, 1, 0, 0, 1, 1, 1] (s75_1 g m i f c a d b e k j l) (m75_1 g m i f c a d b e k j l) n [] 400
 (Orc.cut (nat_lit 2) (s75_0 g (IntKind.i64.wrap (m + (1 : Int))) i f c a d b e l k j)
 (m75_0 g (IntKind.i64.wrap (m + (1 : Int))) i f c a d b e l k j)
 [((1000 : Nat), some (1000 : Nat)), ((1002 : Nat), some (1002 : Nat)), ((1001 : Nat), some (1001 : Nat))]) _ _ (by kernel_rfl) (by kernel_rfl) (show True ∧
 True ∧
 ((True ∧
 SubS (.pt 1000 [] (0 : Nat)) ∧
 True ∧
 SubS (.rf 1001 1 0 g) ∧
 True ∧
 SubS (.pt 1002 [] (0 : Nat)) ∧
 True ∧
 SubS (.sc (.int .i64 (IntKind.i64.wrap (m + (1 : Int))))) ∧
 True) ∧
 (True ∧ True ∧ True ∧ True ∧ True) ∧
 SubBS (.cons 1 (.sc (.int .i64 i)) (.cons 256 (.ar 256 (1 : Nat) fun (i0 : Nat) => .sc (.int .u8 (f i0))) (.cons 1 (.vec true 1 c c fun (i0 : Nat) => .vec true 1 (a i0) (a i0) fun (i1 : Nat) => .sc (.int .i64 (d i0 i1))) (.cons 1 (.vec true 1 b b fun (i0 : Nat) => .sc (.int .i64 (e i0))) .nil)))) ∧
 True ∧
 SubBS (.ar 256 (1 : Nat) fun (i0 : Nat) => .sc (.bool (l i0))) ∧
 True ∧
 SubBS (.ar k (1 : Nat) fun (i0 : Nat) => .sc (.int .u8 (j i0))) ∧
 True) ∧
 L75_0 g (IntKind.i64.wrap (m + (1 : Int))) i f c a d b e l k j n from
 ⟨trivial, ⟨trivial, ⟨⟨⟨trivial, ⟨Sub.refl _, ⟨trivial, ⟨Sub.refl _, ⟨trivial, ⟨Sub.refl _, ⟨trivial, ⟨Sub.refl _, trivial⟩⟩⟩⟩⟩⟩⟩⟩, ⟨⟨trivial, ⟨trivial, ⟨trivial, ⟨trivial, trivial⟩⟩⟩⟩, ⟨SubB.refl _, ⟨trivial, ⟨SubB.refl _, ⟨trivial, ⟨SubB.refl _, trivial⟩⟩⟩⟩⟩⟩⟩, h⟩⟩⟩)
theorem hf76 : Go.Proofs.Try.prog.funcs[76]? = some Go.Proofs.Try.f76 := by kernel_rfl
abbrev s76_e (g : Int) (f : Nat → Int) (c : Nat) (a : Nat → Nat) (d : Nat → Nat → Int) (b : Nat) (e : Nat → Int) (s : Int) : List (Nat × AV) := [(0, (.cons 1 (.sc (.int .i64 g)) (.cons 256 (.ar 256 1 (fun i0 => (.sc (.int .u8 (f i0))))) (.cons 1 (.vec true 1 c c (fun i0 => (.vec true 1 (a i0) (a i0) (fun i1 => (.sc (.int .i64 (d i0 i1))))))) (.cons 1 (.vec true 1 b b (fun i0 => (.sc (.int .i64 (e i0))))) .nil))))), (1, (.sc (.int .i64 s)))]
abbrev m76_e (g : Int) (f : Nat → Int) (e : Nat) (b : Nat → Nat) (a : Nat → Nat → Int) (d : Nat) (c : Nat → Int) (s : Int) : List (Nat × Nat × AV) := []
def L76_e (g : Int) (f : Nat → Int) (e : Nat) (b : Nat → Nat) (a : Nat → Nat → Int) (d : Nat) (c : Nat → Int) (s : Int) (h : AV) : Prop := Goes ⟨Go.Proofs.Try.prog, 76, [], h, []⟩ (place Go.Proofs.Try.f76 []) (s76_e g f e b a d c s) (m76_e g f e b a d c s)
theorem o76 (i : Int) (f : Nat → Int) (c : Nat) (a : Nat → Nat) (d : Nat → Nat → Int) (b : Nat) (e : Nat → Int) (s : Int) (g : AV) (j : newOnly g) (h : L76_e i f c a d b e s g) : Ok Go.Proofs.Try.prog 76 [(.cons 1 (.sc (.int .i64 i)) (.cons 256 (.ar 256 1 (fun i0 => (.sc (.int .u8 (f i0))))) (.cons 1 (.vec true 1 c c (fun i0 => (.vec true 1 (a i0) (a i0) (fun i1 => (.sc (.int .i64 (d i0 i1))))))) (.cons 1 (.vec true 1 b b (fun i0 => (.sc (.int .i64 (e i0))))) .nil)))), (.sc (.int .i64 s))] [] g [] :=
 okRule2 76 Go.Proofs.Try.f76 hf76 [(.cons 1 (.sc (.int .i64 i)) (.cons 256 (.ar 256 1 (fun i0 => (.sc (.int .u8 (f i0))))) (.cons 1 (.vec true 1 c c (fun i0 => (.vec true 1 (a i0) (a i0) (fun i1 => (.sc (.int .i64 (d i0 i1))))))) (.cons 1 (.vec true 1 b b (fun i0 => (.sc (.int .i64 (e i0))))) .nil)))), (.sc (.int .i64 s))] [] g [] [] rfl (by kernel_rfl) (by kernel_rfl) (by kernel_rfl) ⟨j, by simp⟩ (L76_e i f c a d b e s g) (by kernel_rfl) h
theorem r76_e (i : Int) (f : Nat → Int) (e : Nat) (d : Nat → Nat) (c : Nat → Nat → Int) (b : Nat) (a : Nat → Int) (s : Int) (g : AV)
 (h : ((0 : Int) ≤ s ∧ s < (↑b : Int)) ∧
 Sub
 (.sc
 (.int IntKind.i64
 (if true = true then if (-1 : Int) > a s.toNat then (-1 : Int) else a s.toNat
 else if (-1 : Int) < a s.toNat then (-1 : Int) else a s.toNat)))
 g) :
 L76_e i f e d c b a s g :=
 rule Go.Am.Seat.tabOk 76 [] Go.Proofs.Try.f76 hf76 [] (s76_e i f e d c b a s) (m76_e i f e d c b a s) g [] 400
 (Orc.fin
 (.sc
 (.int IntKind.i64
 (if true = true then if (-1 : Int) > a s.toNat then (-1 : Int) else a s.toNat
 else if (-1 : Int) < a s.toNat then (-1 : Int) else a s.toNat)))
 [] []) _ _ (by kernel_rfl) (by kernel_rfl) (show True ∧
 True ∧
 True ∧
 ((1 : Nat) + ((256 : Nat) + ((1 : Nat) + (0 : Nat))) = (258 : Nat) ∧ True) ∧
 True ∧
 ((0 : Int) ≤ s ∧ s < (↑b : Int)) ∧
 True ∧
 True ∧
 True ∧
 True ∧
 ((True ∧
 SubS (.sc (.int IntKind.i64 (if true = true then if (-1 : Int) > a s.toNat then (-1 : Int) else a s.toNat else if (-1 : Int) < a s.toNat then (-1 : Int) else a s.toNat))) ∧
 True) ∧
 True) ∧
 Sub
 (.sc
 (.int IntKind.i64
 (if true = true then if (-1 : Int) > a s.toNat then (-1 : Int) else a s.toNat
 else if (-1 : Int) < a s.toNat then (-1 : Int) else a s.toNat)))
 g ∧
 SubOut [] [] from
 ⟨trivial, ⟨trivial, ⟨trivial, ⟨⟨rfl, trivial⟩, ⟨trivial, (And.elim (fun h5 k5 => ⟨(And.elim (fun h6 k6 => ⟨h6, k6⟩) h5), ⟨trivial, ⟨trivial, ⟨trivial, ⟨trivial, ⟨⟨⟨trivial, ⟨Sub.refl _, trivial⟩⟩, trivial⟩, ((fun h11 => ⟨h11, trivial⟩) k5)⟩⟩⟩⟩⟩⟩) h)⟩⟩⟩⟩⟩)
theorem hf77 : Go.Proofs.Try.prog.funcs[77]? = some Go.Proofs.Try.f77 := by kernel_rfl
abbrev s77_e (c : Nat) (a : Nat → Nat) (d : Nat → Nat → Int) (b : Nat) (e : Nat → Int) : List (Nat × AV) := [(0, (.vec true 1 c c (fun i0 => (.vec true 1 (a i0) (a i0) (fun i1 => (.sc (.int .i64 (d i0 i1)))))))), (1, (.vec true 1 b b (fun i0 => (.sc (.int .i64 (e i0))))))]
abbrev m77_e (e : Nat) (b : Nat → Nat) (a : Nat → Nat → Int) (d : Nat) (c : Nat → Int) : List (Nat × Nat × AV) := []
def L77_e (e : Nat) (b : Nat → Nat) (a : Nat → Nat → Int) (d : Nat) (c : Nat → Int) (f : AV) : Prop := Goes ⟨Go.Proofs.Try.prog, 77, [], f, []⟩ (place Go.Proofs.Try.f77 []) (s77_e e b a d c) (m77_e e b a d c)
abbrev s77_0 (a : Nat) (c : Nat → Int) (e h g d : Nat) (b : Nat → Nat) (f : Nat → Nat → Int) (i j : Int) (m : Nat) (l : Nat → Nat) (k : Nat → Nat → Int) (o : Nat) (n : Nat → Bool) (q : Nat) (p : Nat → Int) : List (Nat × AV) := [(1, (.vec true 1 a a (fun i0 => (.sc (.int .i64 (c i0)))))), (5, (.rf 1000 1 0 e)), (6, (.rf 1001 1 0 h)), (7, (.rf 1002 1 0 g)), (19, (.vec true 1 d d (fun i0 => (.vec true 1 (b i0) (b i0) (fun i1 => (.sc (.int .i64 (f i0 i1)))))))), (20, (.sc (.int .i64 i))), (21, (.sc (.int .i64 j)))]
abbrev m77_0 (i : Nat) (h : Nat → Int) (j o m n : Nat) (l : Nat → Nat) (k : Nat → Nat → Int) (p q : Int) (c : Nat) (a : Nat → Nat) (b : Nat → Nat → Int) (e : Nat) (d : Nat → Bool) (g : Nat) (f : Nat → Int) : List (Nat × Nat × AV) := [(1000, 24, (.av c 1 (fun i0 => (.ow 3 0 1 (a i0) (a i0) (fun i1 => (.sc (.int .i64 (b i0 i1)))))))), (1001, 4, (.ar e 1 (fun i0 => (.sc (.bool (d i0)))))), (1002, 3, (.ar g 1 (fun i0 => (.sc (.int .i64 (f i0))))))]
def L77_0 (b : Nat) (a : Nat → Int) (c o f i : Nat) (e : Nat → Nat) (d : Nat → Nat → Int) (p q : Int) (j : Nat) (h : Nat → Nat) (g : Nat → Nat → Int) (l : Nat) (k : Nat → Bool) (n : Nat) (m : Nat → Int) (r : AV) : Prop := Goes ⟨Go.Proofs.Try.prog, 77, [], r, []⟩ (place Go.Proofs.Try.f77 [1, 1, 1, 1, 0, 1, 0, 0]) (s77_0 b a c o f i e d p q j h g l k n m) (m77_0 b a c o f i e d p q j h g l k n m)
abbrev s77_1 (a : Nat) (c : Nat → Int) (f j h : Nat) (s : Int) (d : Nat) (b : Nat → Nat) (g : Nat → Nat → Int) (k l : Int) (e : Nat) (i : Nat → Int) (m n : Int) (q : Nat) (p : Nat → Nat) (o : Nat → Nat → Int) (t : Nat) (r : Nat → Bool) (v : Nat) (u : Nat → Int) : List (Nat × AV) := [(1, (.vec true 1 a a (fun i0 => (.sc (.int .i64 (c i0)))))), (5, (.rf 1000 1 0 f)), (6, (.rf 1001 1 0 j)), (7, (.rf 1002 1 0 h)), (8, (.sc (.int .i64 s))), (19, (.vec true 1 d d (fun i0 => (.vec true 1 (b i0) (b i0) (fun i1 => (.sc (.int .i64 (g i0 i1)))))))), (20, (.sc (.int .i64 k))), (21, (.sc (.int .i64 l))), (26, (.vec true 1 e e (fun i0 => (.sc (.int .i64 (i i0)))))), (27, (.sc (.int .i64 m))), (28, (.sc (.int .i64 n)))]
abbrev m77_1 (i : Nat) (h : Nat → Int) (j q m : Nat) (s : Int) (n : Nat) (l : Nat → Nat) (k : Nat → Nat → Int) (r t : Int) (p : Nat) (o : Nat → Int) (u v : Int) (c : Nat) (a : Nat → Nat) (b : Nat → Nat → Int) (e : Nat) (d : Nat → Bool) (g : Nat) (f : Nat → Int) : List (Nat × Nat × AV) := [(1000, 24, (.av c 1 (fun i0 => (.ow 3 0 1 (a i0) (a i0) (fun i1 => (.sc (.int .i64 (b i0 i1)))))))), (1001, 4, (.ar e 1 (fun i0 => (.sc (.bool (d i0)))))), (1002, 3, (.ar g 1 (fun i0 => (.sc (.int .i64 (f i0))))))]
def L77_1 (b : Nat) (a : Nat → Int) (c q f : Nat) (s : Int) (i : Nat) (e : Nat → Nat) (d : Nat → Nat → Int) (r t : Int) (k : Nat) (j : Nat → Int) (u v : Int) (l : Nat) (h : Nat → Nat) (g : Nat → Nat → Int) (n : Nat) (m : Nat → Bool) (p : Nat) (o : Nat → Int) (w : AV) : Prop := Goes ⟨Go.Proofs.Try.prog, 77, [], w, []⟩ (place Go.Proofs.Try.f77 [1, 1, 1, 1, 0, 1, 0, 0, 1, 1, 0, 0, 1, 0, 1, 0, 0]) (s77_1 b a c q f s i e d r t k j u v l h g n m p o) (m77_1 b a c q f s i e d r t k j u v l h g n m p o)
abbrev s77_2 (a : Nat) (c : Nat → Int) (f j h : Nat) (s : Int) (d : Nat) (b : Nat → Nat) (g : Nat → Nat → Int) (k l : Int) (e : Nat) (i : Nat → Int) (m n : Int) (q : Nat) (p : Nat → Nat) (o : Nat → Nat → Int) (t : Nat) (r : Nat → Bool) (v : Nat) (u : Nat → Int) : List (Nat × AV) := [(1, (.vec true 1 a a (fun i0 => (.sc (.int .i64 (c i0)))))), (5, (.rf 1000 1 0 f)), (6, (.rf 1001 1 0 j)), (7, (.rf 1002 1 0 h)), (8, (.sc (.int .i64 s))), (19, (.vec true 1 d d (fun i0 => (.vec true 1 (b i0) (b i0) (fun i1 => (.sc (.int .i64 (g i0 i1)))))))), (20, (.sc (.int .i64 k))), (21, (.sc (.int .i64 l))), (26, (.vec true 1 e e (fun i0 => (.sc (.int .i64 (i i0)))))), (27, (.sc (.int .i64 m))), (28, (.sc (.int .i64 n)))]
abbrev m77_2 (i : Nat) (h : Nat → Int) (j q m : Nat) (s : Int) (n : Nat) (l : Nat → Nat) (k : Nat → Nat → Int) (r t : Int) (p : Nat) (o : Nat → Int) (u v : Int) (c : Nat) (a : Nat → Nat) (b : Nat → Nat → Int) (e : Nat) (d : Nat → Bool) (g : Nat) (f : Nat → Int) : List (Nat × Nat × AV) := [(1000, 24, (.av c 1 (fun i0 => (.ow 3 0 1 (a i0) (a i0) (fun i1 => (.sc (.int .i64 (b i0 i1)))))))), (1001, 4, (.ar e 1 (fun i0 => (.sc (.bool (d i0)))))), (1002, 3, (.ar g 1 (fun i0 => (.sc (.int .i64 (f i0))))))]
def L77_2 (b : Nat) (a : Nat → Int) (c q f : Nat) (s : Int) (i : Nat) (e : Nat → Nat) (d : Nat → Nat → Int) (r t : Int) (k : Nat) (j : Nat → Int) (u v : Int) (l : Nat) (h : Nat → Nat) (g : Nat → Nat → Int) (n : Nat) (m : Nat → Bool) (p : Nat) (o : Nat → Int) (w : AV) : Prop := Goes ⟨Go.Proofs.Try.prog, 77, [], w, []⟩ (place Go.Proofs.Try.f77 [1, 1, 1, 1, 0, 1, 0, 0, 1, 1, 0, 0, 1, 0, 1, 0, 0, 1, 1, 1]) (s77_2 b a c q f s i e d r t k j u v l h g n m p o) (m77_2 b a c q f s i e d r t k j u v l h g n m p o)
abbrev s77_3 (a : Nat) (c : Nat → Int) (e h g d : Nat) (b : Nat → Nat) (f : Nat → Nat → Int) (i j : Int) (m : Nat) (l : Nat → Nat) (k : Nat → Nat → Int) (o : Nat) (n : Nat → Bool) (q : Nat) (p : Nat → Int) : List (Nat × AV) := [(1, (.vec true 1 a a (fun i0 => (.sc (.int .i64 (c i0)))))), (5, (.rf 1000 1 0 e)), (6, (.rf 1001 1 0 h)), (7, (.rf 1002 1 0 g)), (19, (.vec true 1 d d (fun i0 => (.vec true 1 (b i0) (b i0) (fun i1 => (.sc (.int .i64 (f i0 i1)))))))), (20, (.sc (.int .i64 i))), (21, (.sc (.int .i64 j)))]
abbrev m77_3 (i : Nat) (h : Nat → Int) (j o m n : Nat) (l : Nat → Nat) (k : Nat → Nat → Int) (p q : Int) (c : Nat) (a : Nat → Nat) (b : Nat → Nat → Int) (e : Nat) (d : Nat → Bool) (g : Nat) (f : Nat → Int) : List (Nat × Nat × AV) := [(1000, 24, (.av c 1 (fun i0 => (.ow 3 0 1 (a i0) (a i0) (fun i1 => (.sc (.int .i64 (b i0 i1)))))))), (1001, 4, (.ar e 1 (fun i0 => (.sc (.bool (d i0)))))), (1002, 3, (.ar g 1 (fun i0 => (.sc (.int .i64 (f i0))))))]
def L77_3 (b : Nat) (a : Nat → Int) (c o f i : Nat) (e : Nat → Nat) (d : Nat → Nat → Int) (p q : Int) (j : Nat) (h : Nat → Nat) (g : Nat → Nat → Int) (l : Nat) (k : Nat → Bool) (n : Nat) (m : Nat → Int) (r : AV) : Prop := Goes ⟨Go.Proofs.Try.prog, 77, [], r, []⟩ (place Go.Proofs.Try.f77 [1, 1, 1, 1, 0, 1, 0, 0, 1, 1, 1]) (s77_3 b a c o f i e d p q j h g l k n m) (m77_3 b a c o f i e d p q j h g l k n m)
abbrev s77_4 (a c b f : Nat) (e : Nat → Nat) (d : Nat → Nat → Int) (h : Nat) (g : Nat → Bool) (j : Nat) (i : Nat → Int) : List (Nat × AV) := [(5, (.rf 1000 1 0 a)), (6, (.rf 1001 1 0 c)), (7, (.rf 1002 1 0 b))]
abbrev m77_4 (h j i c : Nat) (a : Nat → Nat) (b : Nat → Nat → Int) (e : Nat) (d : Nat → Bool) (g : Nat) (f : Nat → Int) : List (Nat × Nat × AV) := [(1000, 24, (.av c 1 (fun i0 => (.ow 3 0 1 (a i0) (a i0) (fun i1 => (.sc (.int .i64 (b i0 i1)))))))), (1001, 4, (.ar e 1 (fun i0 => (.sc (.bool (d i0)))))), (1002, 3, (.ar g 1 (fun i0 => (.sc (.int .i64 (f i0))))))]
def L77_4 (a j b e : Nat) (d : Nat → Nat) (c : Nat → Nat → Int) (g : Nat) (f : Nat → Bool) (i : Nat) (h : Nat → Int) (k : AV) : Prop := Goes ⟨Go.Proofs.Try.prog, 77, [], k, []⟩ (place Go.Proofs.Try.f77 [1, 1, 1, 1, 1, 0, 0, 0]) (s77_4 a j b e d c g f i h) (m77_4 a j b e d c g f i h)
theorem o77 (c : Nat) (a : Nat → Nat) (d : Nat → Nat → Int) (b : Nat) (e : Nat → Int) (f : AV) (g : newOnly f) (h : L77_e c a d b e f) : Ok Go.Proofs.Try.prog 77 [(.vec true 1 c c (fun i0 => (.vec true 1 (a i0) (a i0) (fun i1 => (.sc (.int .i64 (d i0 i1))))))), (.vec true 1 b b (fun i0 => (.sc (.int .i64 (e i0)))))] [] f [] :=
 okRule2 77 Go.Proofs.Try.f77 hf77 [(.vec true 1 c c (fun i0 => (.vec true 1 (a i0) (a i0) (fun i1 => (.sc (.int .i64 (d i0 i1))))))), (.vec true 1 b b (fun i0 => (.sc (.int .i64 (e i0)))))] [] f [] [] rfl (by kernel_rfl) (by kernel_rfl) (by kernel_rfl) ⟨g, by simp⟩ (L77_e c a d b e f) (by kernel_rfl) h
theorem r77_e (a : Nat) (b : Nat → Nat) (d : Nat → Nat → Int) (c : Nat) (e : Nat → Int) (f : AV)
 (h : ((0 : Int) ≤ (↑a : Int) ∧
 (↑a : Int) ≤ (↑a : Int) ∧ (↑a : Int).toNat * (24 : Nat) ≤ (140737488355328 : Nat) ∧ (↑a : Int) ≤ (140737488355328 : Int)) ∧
 ((0 : Int) ≤ (↑a : Int) ∧
 (↑a : Int) ≤ (↑a : Int) ∧ (↑a : Int).toNat * (1 : Nat) ≤ (140737488355328 : Nat) ∧ (↑a : Int) ≤ (140737488355328 : Int)) ∧
 L77_0 c e (↑a : Int).toNat (↑a : Int).toNat (0 : Nat) a b d (↑a : Int) (0 : Int) (↑a : Int).toNat
 (fun (x : Nat) => (0 : Nat)) (fun (x i : Nat) => Int.ofNat (0 : Nat)) (↑a : Int).toNat (fun (x : Nat) => false) (0 : Nat)
 (fun (i : Nat) => Int.ofNat (0 : Nat)) f) :
 L77_e a b d c e f :=
 rule Go.Am.Seat.tabOk 77 [] Go.Proofs.Try.f77 hf77 [] (s77_e a b d c e) (m77_e a b d c e) f [] 400
 (Orc.cut (nat_lit 13)
 (s77_0 c e (↑a : Int).toNat (↑a : Int).toNat (0 : Nat) a b d (↑a : Int) (0 : Int) (↑a : Int).toNat
 (fun (x : Nat) => (0 : Nat)) (fun (x i : Nat) => Int.ofNat (0 : Nat)) (↑a : Int).toNat (fun (x : Nat) => false) (0 : Nat) fun (i : Nat) =>
 Int.ofNat (0 : Nat))
 (m77_0 c e (↑a : Int).toNat (↑a : Int).toNat (0 : Nat) a b d (↑a : Int) (0 : Int) (↑a : Int).toNat
 (fun (x : Nat) => (0 : Nat)) (fun (x i : Nat) => Int.ofNat (0 : Nat)) (↑a : Int).toNat (fun (x : Nat) => false) (0 : Nat) fun (i : Nat) =>
 Int.ofNat (0 : Nat))
 [((1000 : Nat), some (15 : Nat)), ((1001 : Nat), some (18 : Nat)), ((1002 : Nat), none)]) _ _ (by kernel_rfl) (by kernel_rfl) (show True ∧
 True ∧
 True ∧
 ((0 : Int) ≤ (↑a : Int) ∧
 (↑a : Int) ≤ (↑a : Int) ∧ (↑a : Int).toNat * (24 : Nat) ≤ (140737488355328 : Nat) ∧ (↑a : Int) ≤ (140737488355328 : Int)) ∧
 True ∧
 True ∧
 True ∧
 ((0 : Int) ≤ (↑a : Int) ∧
 (↑a : Int) ≤ (↑a : Int) ∧ (↑a : Int).toNat * (1 : Nat) ≤ (140737488355328 : Nat) ∧ (↑a : Int) ≤ (140737488355328 : Int)) ∧
 True ∧
 True ∧
 True ∧
 True ∧
 True ∧
 ((True ∧
 SubS (.vec true 1 c c fun (i0 : Nat) => .sc (.int .i64 (e i0))) ∧
 True ∧
 SubS (.rf 1000 1 0 (↑a : Int).toNat) ∧
 True ∧
 SubS (.rf 1001 1 0 (↑a : Int).toNat) ∧
 True ∧
 SubS (.vec true 1 a a fun (i0 : Nat) => .vec true 1 (b i0) (b i0) fun (i1 : Nat) => .sc (.int .i64 (d i0 i1))) ∧
 True ∧
 SubS (.sc (.int .i64 (↑a : Int))) ∧
 True ∧ SubS (.sc (.int .i64 (0 : Int))) ∧ True) ∧
 ((↑a : Int).toNat ≤ (↑a : Int).toNat ∧
 ∀ (k : Nat),
 k < (↑a : Int).toNat →
 SubO false (.sc (.slice none (0 : Nat) (0 : Nat)))
 (AV.ow (3 : Nat) (0 : Nat) (1 : Nat) (0 : Nat) (0 : Nat) fun (i1 : Nat) =>
 .sc (.int .i64 (Int.ofNat (0 : Nat))))) ∧
 True ∧
 SubB (.ar (↑a : Int).toNat (1 : Nat) fun (x : Nat) => .sc (.bool false))
 (.ar (↑a : Int).toNat (1 : Nat) fun (i0 : Nat) => .sc (.bool false)) ∧
 True) ∧
 L77_0 c e (↑a : Int).toNat (↑a : Int).toNat (0 : Nat) a b d (↑a : Int) (0 : Int)
 (↑a : Int).toNat (fun (x : Nat) => (0 : Nat)) (fun (x i : Nat) => Int.ofNat (0 : Nat)) (↑a : Int).toNat
 (fun (x : Nat) => false) (0 : Nat) (fun (i : Nat) => Int.ofNat (0 : Nat)) f from
 ⟨trivial, ⟨trivial, ⟨trivial, (And.elim (fun h3 k3 => ⟨(And.elim (fun h4 k4 => ⟨h4, (And.elim (fun h5 k5 => ⟨h5, (And.elim (fun h6 k6 => ⟨h6, k6⟩) k5)⟩) k4)⟩) h3), ⟨trivial, ⟨trivial, ⟨trivial, (And.elim (fun h7 k7 => ⟨(And.elim (fun h8 k8 => ⟨h8, (And.elim (fun h9 k9 => ⟨h9, (And.elim (fun h10 k10 => ⟨h10, k10⟩) k9)⟩) k8)⟩) h7), ⟨trivial, ⟨trivial, ⟨trivial, ⟨trivial, ⟨trivial, ⟨⟨⟨trivial, ⟨Sub.refl _, ⟨trivial, ⟨Sub.refl _, ⟨trivial, ⟨Sub.refl _, ⟨trivial, ⟨Sub.refl _, ⟨trivial, ⟨Sub.refl _, ⟨trivial, ⟨Sub.refl _, trivial⟩⟩⟩⟩⟩⟩⟩⟩⟩⟩⟩⟩, ⟨⟨(Nat.le_refl _), (fun x17 => (fun x18 => SubO.nil))⟩, ⟨trivial, ⟨SubB.refl _, trivial⟩⟩⟩⟩, k7⟩⟩⟩⟩⟩⟩⟩) k3)⟩⟩⟩⟩) h)⟩⟩⟩)
theorem r77_0 (g : Nat) (j : Nat → Int) (d r f l : Nat) (b : Nat → Nat) (e : Nat → Nat → Int) (s a : Int) (m : Nat) (c : Nat → Nat) (i : Nat → Nat → Int) (o : Nat) (n : Nat → Bool) (q : Nat) (p : Nat → Int) (t : AV)
 (h : (decide (a < s) = true →
 ((0 : Int) ≤ a ∧ a < (↑l : Int)) ∧
 L77_1 g j d r f a l b e s a (b a.toNat) (e a.toNat) (↑(b a.toNat) : Int) (0 : Int) m c i
 o n q p t) ∧
 (decide (a < s) = false → L77_4 d r f m c i o n q p t)) :
 L77_0 g j d r f l b e s a m c i o n q p t :=
 rule Go.Am.Seat.tabOk 77 [] Go.Proofs.Try.f77 hf77 [1, 1, 1, 1, 0, 1, 0, 0] (s77_0 g j d r f l b e s a m c i o n q p) (m77_0 g j d r f l b e s a m c i o n q p) t [] 400
 ((Orc.cut (nat_lit 10)
 (s77_1 g j d r f a l b e s a (b a.toNat) (e a.toNat) (↑(b a.toNat) : Int) (0 : Int) m c i
 o n q p)
 (m77_1 g j d r f a l b e s a (b a.toNat) (e a.toNat) (↑(b a.toNat) : Int) (0 : Int) m c i
 o n q p)
 [((1000 : Nat), some (1000 : Nat)), ((1001 : Nat), some (1001 : Nat)), ((1002 : Nat), some (1002 : Nat))]).br
 (Orc.cut (nat_lit 4) (s77_4 d r f m c i o n q p) (m77_4 d r f m c i o n q p)
 [((1000 : Nat), some (1000 : Nat)), ((1001 : Nat), some (1001 : Nat)), ((1002 : Nat), some (1002 : Nat))])) _ _ (by kernel_rfl) (by kernel_rfl) (show True ∧
 (decide (a < s) = true →
 True ∧
 ((0 : Int) ≤ a ∧ a < (↑l : Int)) ∧
 True ∧
 True ∧
 True ∧
 True ∧
 True ∧
 True ∧
 ((True ∧
 SubS (.vec true 1 g g fun (i0 : Nat) => .sc (.int .i64 (j i0))) ∧
 True ∧
 SubS (.rf 1000 1 0 d) ∧
 True ∧
 SubS (.rf 1001 1 0 r) ∧
 True ∧
 SubS (.rf 1002 1 0 f) ∧
 True ∧
 SubS (.sc (.int .i64 a)) ∧
 True ∧
 SubS (.vec true 1 l l fun (i0 : Nat) => .vec true 1 (b i0) (b i0) fun (i1 : Nat) => .sc (.int .i64 (e i0 i1))) ∧
 True ∧
 SubS (.sc (.int .i64 s)) ∧
 True ∧
 SubS (.sc (.int .i64 a)) ∧
 True ∧
 SubS (.vec true 1 (b a.toNat) (b a.toNat) fun (i1 : Nat) => .sc (.int .i64 (e a.toNat i1))) ∧
 True ∧
 SubS (.sc (.int .i64 (↑(b a.toNat) : Int))) ∧
 True ∧
 SubS (.sc (.int .i64 (0 : Int))) ∧
 True) ∧
 (m ≤ m ∧
 ∀ (k : Nat),
 k < m →
 SubO true (AV.ow (3 : Nat) (0 : Nat) (1 : Nat) (c k) (c k) fun (i1 : Nat) => .sc (.int .i64 (i k i1)))
 (AV.ow (3 : Nat) (0 : Nat) (1 : Nat) (c k) (c k) fun (i1 : Nat) => .sc (.int .i64 (i k i1)))) ∧
 True ∧
 SubBS (.ar o (1 : Nat) fun (i0 : Nat) => .sc (.bool (n i0))) ∧
 True ∧
 SubBS (.ar q (1 : Nat) fun (i0 : Nat) => .sc (.int .i64 (p i0))) ∧
 True) ∧
 L77_1 g j d r f a l b e s a (b a.toNat) (e a.toNat) (↑(b a.toNat) : Int)
 (0 : Int) m c i o n q p t) ∧
 (decide (a < s) = false →
 ((True ∧
 SubS (.rf 1000 1 0 d) ∧
 True ∧
 SubS (.rf 1001 1 0 r) ∧
 True ∧ SubS (.rf 1002 1 0 f) ∧ True) ∧
 (m ≤ m ∧
 ∀ (k : Nat),
 k < m →
 SubO true (AV.ow (3 : Nat) (0 : Nat) (1 : Nat) (c k) (c k) fun (i1 : Nat) => .sc (.int .i64 (i k i1)))
 (AV.ow (3 : Nat) (0 : Nat) (1 : Nat) (c k) (c k) fun (i1 : Nat) => .sc (.int .i64 (i k i1)))) ∧
 True ∧
 SubBS (.ar o (1 : Nat) fun (i0 : Nat) => .sc (.bool (n i0))) ∧
 True ∧
 SubBS (.ar q (1 : Nat) fun (i0 : Nat) => .sc (.int .i64 (p i0))) ∧
 True) ∧
 L77_4 d r f m c i o n q p t) from
 ⟨trivial, (And.elim (fun h1 k1 => ⟨(fun x2 => (fun h2 => ⟨trivial, (And.elim (fun h4 k4 => ⟨(And.elim (fun h5 k5 => ⟨h5, k5⟩) h4), ⟨trivial, ⟨trivial, ⟨trivial, ⟨trivial, ⟨trivial, ⟨trivial, ⟨⟨⟨trivial, ⟨Sub.refl _, ⟨trivial, ⟨Sub.refl _, ⟨trivial, ⟨Sub.refl _, ⟨trivial, ⟨Sub.refl _, ⟨trivial, ⟨Sub.refl _, ⟨trivial, ⟨Sub.refl _, ⟨trivial, ⟨Sub.refl _, ⟨trivial, ⟨Sub.refl _, ⟨trivial, ⟨Sub.refl _, ⟨trivial, ⟨Sub.refl _, ⟨trivial, ⟨Sub.refl _, trivial⟩⟩⟩⟩⟩⟩⟩⟩⟩⟩⟩⟩⟩⟩⟩⟩⟩⟩⟩⟩⟩⟩, ⟨⟨(Nat.le_refl _), (fun x15 => (fun x16 => (SubO.refl _ _)))⟩, ⟨trivial, ⟨SubB.refl _, ⟨trivial, ⟨SubB.refl _, trivial⟩⟩⟩⟩⟩⟩, k4⟩⟩⟩⟩⟩⟩⟩⟩) h2)⟩) (h1 x2)), (fun x2 => (fun h2 => ⟨⟨⟨trivial, ⟨Sub.refl _, ⟨trivial, ⟨Sub.refl _, ⟨trivial, ⟨Sub.refl _, trivial⟩⟩⟩⟩⟩⟩, ⟨⟨(Nat.le_refl _), (fun x7 => (fun x8 => (SubO.refl _ _)))⟩, ⟨trivial, ⟨SubB.refl _, ⟨trivial, ⟨SubB.refl _, trivial⟩⟩⟩⟩⟩⟩, h2⟩) (k1 x2))⟩) h)⟩)
theorem r77_1 (e : Nat) (f : Nat → Int) (j v d : Nat) (s : Int) (m : Nat) (g : Nat → Nat) (o : Nat → Nat → Int) (w x : Int) (q : Nat) (a : Nat → Int) (z b : Int) (p : Nat) (c : Nat → Nat) (l : Nat → Nat → Int) (t : Nat) (r : Nat → Bool) (y : Nat) (u : Nat → Int) (A : AV)
 (h : (decide (b < z) = true →
 ((0 : Int) ≤ b ∧ b < (↑q : Int)) ∧
 (decide (a b.toNat ≥ (0 : Int)) = true →
 ((0 : Int) ≤ a b.toNat ∧ a b.toNat < (↑j : Int)) ∧
 (a b.toNat).toNat < p ∧
 ((c (a b.toNat).toNat + (1 : Nat)) * (8 : Nat) ≤ (140737488355328 : Nat) ∧ c (a b.toNat).toNat + (1 : Nat) ≤ maxLen) ∧
 L77_2 e f j v d s m g o w x q a z b p
 (fun (i : Nat) => bif i.beq (a b.toNat).toNat then c (a b.toNat).toNat + (1 : Nat) else c i)
 (fun (i i_1 : Nat) =>
 bif i.beq (a b.toNat).toNat then bif i_1.blt (c (a b.toNat).toNat) then l (a b.toNat).toNat i_1 else s else l i i_1)
 t r y u A) ∧
 (decide (a b.toNat ≥ (0 : Int)) = false →
 L77_2 e f j v d s m g o w x q a z b p c l t r y u A)) ∧
 (decide (b < z) = false →
 ((0 : Int) ≤ s ∧ s < (↑e : Int)) ∧
 (decide (f s.toNat ≥ (0 : Int)) = true →
 (d ≤ y ∧ (d + (1 : Nat)) * (8 : Nat) ≤ (140737488355328 : Nat) ∧ d + (1 : Nat) ≤ maxLen) ∧
 L77_3 e f j v (d + (1 : Nat)) m g o w x p c l t r (d + (1 : Nat))
 (fun (i : Nat) => bif i.blt d then u i else s) A) ∧
 (decide (f s.toNat ≥ (0 : Int)) = false → L77_3 e f j v d m g o w x p c l t r y u A))) :
 L77_1 e f j v d s m g o w x q a z b p c l t r y u A :=
 rule Go.Am.Seat.tabOk 77 [] Go.Proofs.Try.f77 hf77 [1, 1, 1, 1, 0, 1, 0, 0, 1, 1, 0, 0, 1, 0, 1, 0, 0] (s77_1 e f j v d s m g o w x q a z b p c l t r y u) (m77_1 e f j v d s m g o w x q a z b p c l t r y u) A [] 400
 (((Orc.ch Ch.none
 (Orc.ch Ch.none
 (Orc.ch Ch.none
 (Orc.ch Ch.none
 (Orc.ch Ch.none
 (Orc.ch (Ch.n (0 : Nat))
 (Orc.ch Ch.none
 (Orc.ch Ch.none
 (Orc.ch Ch.none
 (Orc.ch Ch.none
 (Orc.ch (Ch.n (2 : Nat))
 (Orc.cls (1000 : Nat)
 (Orc.cut (nat_lit 1)
 (s77_2 e f j v d s m g o w x q a z b
 (Cl.mk [] (24 : Nat) p (1 : Nat)
 (fun (i0 : Nat) =>
 AV.ow (3 : Nat) (0 : Nat) (1 : Nat) (c i0) (c i0) fun (i1 : Nat) => .sc (.int .i64 (l i0 i1)))
 True).n
 (fun (i : Nat) =>
 bif i.beq (plus (0 : Nat) (a b.toNat).toNat) then c (plus (0 : Nat) (a b.toNat).toNat) + (1 : Nat)
 else c i)
 (fun (i i_1 : Nat) =>
 bif i.beq (plus (0 : Nat) (a b.toNat).toNat) then
 bif i_1.blt (c (plus (0 : Nat) (a b.toNat).toNat)) then l (plus (0 : Nat) (a b.toNat).toNat) i_1 else s
 else l i i_1)
 t r y u)
 (m77_2 e f j v d s m g o w x q a z b
 (Cl.mk [] (24 : Nat) p (1 : Nat)
 (fun (i0 : Nat) =>
 AV.ow (3 : Nat) (0 : Nat) (1 : Nat) (c i0) (c i0) fun (i1 : Nat) => .sc (.int .i64 (l i0 i1)))
 True).n
 (fun (i : Nat) =>
 bif i.beq (plus (0 : Nat) (a b.toNat).toNat) then c (plus (0 : Nat) (a b.toNat).toNat) + (1 : Nat)
 else c i)
 (fun (i i_1 : Nat) =>
 bif i.beq (plus (0 : Nat) (a b.toNat).toNat) then
 bif i_1.blt (c (plus (0 : Nat) (a b.toNat).toNat)) then l (plus (0 : Nat) (a b.toNat).toNat) i_1 else s
 else l i i_1)
 t r y u)
 [((1000 : Nat), some (1000 : Nat)), ((1001 : Nat), some (1001 : Nat)), ((1002 : Nat), some (1002 : Nat))]))))))))))))).br
 (Orc.cut (nat_lit 2) (s77_2 e f j v d s m g o w x q a z b p c l t r y u)
 (m77_2 e f j v d s m g o w x q a z b p c l t r y u)
 [((1000 : Nat), some (1000 : Nat)), ((1001 : Nat), some (1001 : Nat)), ((1002 : Nat), some (1002 : Nat))])).br
 ((Orc.cut (nat_lit 2)
 (s77_3 e f j v (d + (1 : Nat)) m g o w x p c l t r (d + (1 : Nat)) fun (i : Nat) =>
 bif i.blt d then u i else s)
 (m77_3 e f j v (d + (1 : Nat)) m g o w x p c l t r (d + (1 : Nat)) fun (i : Nat) =>
 bif i.blt d then u i else s)
 [((1000 : Nat), some (1000 : Nat)), ((1001 : Nat), some (1001 : Nat)), ((1002 : Nat), some (53 : Nat))]).br
 (Orc.cut (nat_lit 2) (s77_3 e f j v d m g o w x p c l t r y u)
 (m77_3 e f j v d m g o w x p c l t r y u)
 [((1000 : Nat), some (1000 : Nat)), ((1001 : Nat), some (1001 : Nat)), ((1002 : Nat), some (1002 : Nat))]))) _ _ (by kernel_rfl) (by kernel_rfl) (show True ∧
 (decide (b < z) = true →
 ((0 : Int) ≤ b ∧ b < (↑q : Int)) ∧
 True ∧
 True ∧
 True ∧
 True ∧
 (decide (a b.toNat ≥ (0 : Int)) = true →
 True ∧
 True ∧
 True ∧
 True ∧
 ((0 : Int) ≤ a b.toNat ∧ a b.toNat < (↑j : Int)) ∧
 (True ∧
 (a b.toNat).toNat * (1 : Nat) + (0 : Nat) = (a b.toNat).toNat * (1 : Nat) ∧ (a b.toNat).toNat < p ∧ True) ∧
 True ∧
 ((True ∧ True) ∧ True) ∧
 (c (a b.toNat).toNat ≤ c (a b.toNat).toNat ∧
 ((0 : Nat) + (1 : Nat) ≤ (1 : Nat) ∧ (1 : Nat) = (1 : Nat)) ∧
 (c (a b.toNat).toNat + (1 : Nat)) * (8 : Nat) ≤ (140737488355328 : Nat) ∧
 c (a b.toNat).toNat + (1 : Nat) ≤ maxLen) ∧
 ((0 : Int) ≤ a b.toNat ∧ a b.toNat < (↑j : Int)) ∧
 ((a b.toNat).toNat = (a b.toNat).toNat ∧
 (a b.toNat).toNat * (1 : Nat) + (0 : Nat) = (a b.toNat).toNat * (1 : Nat) ∧
 (a b.toNat).toNat < p ∧ True) ∧
 c (a b.toNat).toNat + (1 : Nat) ≤ c (a b.toNat).toNat + (1 : Nat) ∧
 ((True ∧
 SubS (.vec true 1 e e fun (i0 : Nat) => .sc (.int .i64 (f i0))) ∧
 True ∧
 SubS (.rf 1000 1 0 j) ∧
 True ∧
 SubS (.rf 1001 1 0 v) ∧
 True ∧
 SubS (.rf 1002 1 0 d) ∧
 True ∧
 SubS (.sc (.int .i64 s)) ∧
 True ∧
 SubS (.vec true 1 m m fun (i0 : Nat) => .vec true 1 (g i0) (g i0) fun (i1 : Nat) => .sc (.int .i64 (o i0 i1))) ∧
 True ∧
 SubS (.sc (.int .i64 w)) ∧
 True ∧
 SubS (.sc (.int .i64 x)) ∧
 True ∧
 SubS (.vec true 1 q q fun (i0 : Nat) => .sc (.int .i64 (a i0))) ∧
 True ∧
 SubS (.sc (.int .i64 z)) ∧
 True ∧
 SubS (.sc (.int .i64 b)) ∧
 True) ∧
 (p ≤ p ∧
 ∀ (k : Nat),
 k < p →
 SubO true
 (AV.ow (3 : Nat) (0 : Nat) (1 : Nat)
 (bif k.beq (a b.toNat).toNat then c (a b.toNat).toNat + (1 : Nat) else c k)
 (bif k.beq (a b.toNat).toNat then c (a b.toNat).toNat + (1 : Nat) else c k)
 fun (i : Nat) =>
 .sc
 (.int IntKind.i64
 (bif k.beq (a b.toNat).toNat then
 bif i.blt (c (a b.toNat).toNat) then l (a b.toNat).toNat i else s
 else l k i)))
 (AV.ow (3 : Nat) (0 : Nat) (1 : Nat)
 (bif k.beq (a b.toNat).toNat then c (a b.toNat).toNat + (1 : Nat) else c k)
 (bif k.beq (a b.toNat).toNat then c (a b.toNat).toNat + (1 : Nat) else c k)
 fun (i1 : Nat) =>
 .sc
 (.int IntKind.i64
 (bif k.beq (a b.toNat).toNat then
 bif i1.blt (c (a b.toNat).toNat) then l (a b.toNat).toNat i1 else s
 else l k i1)))) ∧
 True ∧
 SubBS (.ar t (1 : Nat) fun (i0 : Nat) => .sc (.bool (r i0))) ∧
 True ∧
 SubBS (.ar y (1 : Nat) fun (i0 : Nat) => .sc (.int .i64 (u i0))) ∧
 True) ∧
 L77_2 e f j v d s m g o w x q a z b p
 (fun (i : Nat) => bif i.beq (a b.toNat).toNat then c (a b.toNat).toNat + (1 : Nat) else c i)
 (fun (i i_1 : Nat) =>
 bif i.beq (a b.toNat).toNat then
 bif i_1.blt (c (a b.toNat).toNat) then l (a b.toNat).toNat i_1 else s
 else l i i_1)
 t r y u A) ∧
 (decide (a b.toNat ≥ (0 : Int)) = false →
 ((True ∧
 SubS (.vec true 1 e e fun (i0 : Nat) => .sc (.int .i64 (f i0))) ∧
 True ∧
 SubS (.rf 1000 1 0 j) ∧
 True ∧
 SubS (.rf 1001 1 0 v) ∧
 True ∧
 SubS (.rf 1002 1 0 d) ∧
 True ∧
 SubS (.sc (.int .i64 s)) ∧
 True ∧
 SubS (.vec true 1 m m fun (i0 : Nat) => .vec true 1 (g i0) (g i0) fun (i1 : Nat) => .sc (.int .i64 (o i0 i1))) ∧
 True ∧
 SubS (.sc (.int .i64 w)) ∧
 True ∧
 SubS (.sc (.int .i64 x)) ∧
 True ∧
 SubS (.vec true 1 q q fun (i0 : Nat) => .sc (.int .i64 (a i0))) ∧
 True ∧
 SubS (.sc (.int .i64 z)) ∧
 True ∧ SubS (.sc (.int .i64 b)) ∧ True) ∧
 (p ≤ p ∧
 ∀ (k : Nat),
 k < p →
 SubO true (AV.ow (3 : Nat) (0 : Nat) (1 : Nat) (c k) (c k) fun (i1 : Nat) => .sc (.int .i64 (l k i1)))
 (AV.ow (3 : Nat) (0 : Nat) (1 : Nat) (c k) (c k) fun (i1 : Nat) => .sc (.int .i64 (l k i1)))) ∧
 True ∧
 SubBS (.ar t (1 : Nat) fun (i0 : Nat) => .sc (.bool (r i0))) ∧
 True ∧
 SubBS (.ar y (1 : Nat) fun (i0 : Nat) => .sc (.int .i64 (u i0))) ∧
 True) ∧
 L77_2 e f j v d s m g o w x q a z b p c l t r y u A)) ∧
 (decide (b < z) = false →
 True ∧
 True ∧
 ((0 : Int) ≤ s ∧ s < (↑e : Int)) ∧
 True ∧
 True ∧
 (decide (f s.toNat ≥ (0 : Int)) = true →
 True ∧
 True ∧
 ((True ∧ True) ∧ True) ∧
 (d ≤ y ∧
 ((0 : Nat) + (1 : Nat) ≤ (1 : Nat) ∧ (1 : Nat) = (1 : Nat)) ∧
 (d + (1 : Nat)) * (8 : Nat) ≤ (140737488355328 : Nat) ∧ d + (1 : Nat) ≤ maxLen) ∧
 True ∧
 ((True ∧
 SubS (.vec true 1 e e fun (i0 : Nat) => .sc (.int .i64 (f i0))) ∧
 True ∧
 SubS (.rf 1000 1 0 j) ∧
 True ∧
 SubS (.rf 1001 1 0 v) ∧
 True ∧
 SubS (.rf 1002 1 0 (d + (1 : Nat))) ∧
 True ∧
 SubS (.vec true 1 m m fun (i0 : Nat) => .vec true 1 (g i0) (g i0) fun (i1 : Nat) => .sc (.int .i64 (o i0 i1))) ∧
 True ∧
 SubS (.sc (.int .i64 w)) ∧
 True ∧ SubS (.sc (.int .i64 x)) ∧ True) ∧
 (p ≤ p ∧
 ∀ (k : Nat),
 k < p →
 SubO true
 (AV.ow (3 : Nat) (0 : Nat) (1 : Nat) (c k) (c k) fun (i1 : Nat) => .sc (.int .i64 (l k i1)))
 (AV.ow (3 : Nat) (0 : Nat) (1 : Nat) (c k) (c k) fun (i1 : Nat) =>
 .sc (.int .i64 (l k i1)))) ∧
 True ∧
 SubBS (.ar t (1 : Nat) fun (i0 : Nat) => .sc (.bool (r i0))) ∧
 True ∧
 SubBS (.ar (d + (1 : Nat)) (1 : Nat) fun (i : Nat) => .sc (.int .i64 (bif i.blt d then u i else s))) ∧
 True) ∧
 L77_3 e f j v (d + (1 : Nat)) m g o w x p c l t r (d + (1 : Nat))
 (fun (i : Nat) => bif i.blt d then u i else s) A) ∧
 (decide (f s.toNat ≥ (0 : Int)) = false →
 ((True ∧
 SubS (.vec true 1 e e fun (i0 : Nat) => .sc (.int .i64 (f i0))) ∧
 True ∧
 SubS (.rf 1000 1 0 j) ∧
 True ∧
 SubS (.rf 1001 1 0 v) ∧
 True ∧
 SubS (.rf 1002 1 0 d) ∧
 True ∧
 SubS (.vec true 1 m m fun (i0 : Nat) => .vec true 1 (g i0) (g i0) fun (i1 : Nat) => .sc (.int .i64 (o i0 i1))) ∧
 True ∧
 SubS (.sc (.int .i64 w)) ∧
 True ∧ SubS (.sc (.int .i64 x)) ∧ True) ∧
 (p ≤ p ∧
 ∀ (k : Nat),
 k < p →
 SubO true (AV.ow (3 : Nat) (0 : Nat) (1 : Nat) (c k) (c k) fun (i1 : Nat) => .sc (.int .i64 (l k i1)))
 (AV.ow (3 : Nat) (0 : Nat) (1 : Nat) (c k) (c k) fun (i1 : Nat) => .sc (.int .i64 (l k i1)))) ∧
 True ∧
 SubBS (.ar t (1 : Nat) fun (i0 : Nat) => .sc (.bool (r i0))) ∧
 True ∧
 SubBS (.ar y (1 : Nat) fun (i0 : Nat) => .sc (.int .i64 (u i0))) ∧
 True) ∧
 L77_3 e f j v d m g o w x p c l t r y u A)) from
 ⟨trivial, (And.elim (fun h1 k1 => ⟨(fun x2 => (fun h2 => (And.elim (fun h3 k3 => ⟨(And.elim (fun h4 k4 => ⟨h4, k4⟩) h3), ⟨trivial, ⟨trivial, ⟨trivial, ⟨trivial, (And.elim (fun h8 k8 => ⟨(fun x9 => (fun h9 => ⟨trivial, ⟨trivial, ⟨trivial, ⟨trivial, (And.elim (fun h14 k14 => ⟨(And.elim (fun h15 k15 => ⟨h15, k15⟩) h14), (And.elim (fun h15 k15 => ⟨⟨trivial, ⟨rfl, ((fun h18 => ⟨h18, trivial⟩) h15)⟩⟩, ⟨trivial, ⟨⟨⟨trivial, trivial⟩, trivial⟩, (And.elim (fun h18 k18 => ⟨⟨(Nat.le_refl _), ⟨⟨(by decide), rfl⟩, (And.elim (fun h21 k21 => ⟨h21, k21⟩) h18)⟩⟩, ⟨(And.elim (fun h20 k20 => ⟨h20, k20⟩) h14), ⟨⟨rfl, ⟨rfl, ⟨h15, trivial⟩⟩⟩, ⟨(Nat.le_refl _), ⟨⟨⟨trivial, ⟨Sub.refl _, ⟨trivial, ⟨Sub.refl _, ⟨trivial, ⟨Sub.refl _, ⟨trivial, ⟨Sub.refl _, ⟨trivial, ⟨Sub.refl _, ⟨trivial, ⟨Sub.refl _, ⟨trivial, ⟨Sub.refl _, ⟨trivial, ⟨Sub.refl _, ⟨trivial, ⟨Sub.refl _, ⟨trivial, ⟨Sub.refl _, ⟨trivial, ⟨Sub.refl _, trivial⟩⟩⟩⟩⟩⟩⟩⟩⟩⟩⟩⟩⟩⟩⟩⟩⟩⟩⟩⟩⟩⟩, ⟨⟨(Nat.le_refl _), (fun x26 => (fun x27 => (SubO.refl _ _)))⟩, ⟨trivial, ⟨SubB.refl _, ⟨trivial, ⟨SubB.refl _, trivial⟩⟩⟩⟩⟩⟩, k18⟩⟩⟩⟩⟩) k15)⟩⟩⟩) k14)⟩) h9)⟩⟩⟩⟩) (h8 x9)), (fun x9 => (fun h9 => ⟨⟨⟨trivial, ⟨Sub.refl _, ⟨trivial, ⟨Sub.refl _, ⟨trivial, ⟨Sub.refl _, ⟨trivial, ⟨Sub.refl _, ⟨trivial, ⟨Sub.refl _, ⟨trivial, ⟨Sub.refl _, ⟨trivial, ⟨Sub.refl _, ⟨trivial, ⟨Sub.refl _, ⟨trivial, ⟨Sub.refl _, ⟨trivial, ⟨Sub.refl _, ⟨trivial, ⟨Sub.refl _, trivial⟩⟩⟩⟩⟩⟩⟩⟩⟩⟩⟩⟩⟩⟩⟩⟩⟩⟩⟩⟩⟩⟩, ⟨⟨(Nat.le_refl _), (fun x14 => (fun x15 => (SubO.refl _ _)))⟩, ⟨trivial, ⟨SubB.refl _, ⟨trivial, ⟨SubB.refl _, trivial⟩⟩⟩⟩⟩⟩, h9⟩) (k8 x9))⟩) k3)⟩⟩⟩⟩⟩) h2)) (h1 x2)), (fun x2 => (fun h2 => ⟨trivial, ⟨trivial, (And.elim (fun h5 k5 => ⟨(And.elim (fun h6 k6 => ⟨h6, k6⟩) h5), ⟨trivial, ⟨trivial, (And.elim (fun h8 k8 => ⟨(fun x9 => (fun h9 => ⟨trivial, ⟨trivial, ⟨⟨⟨trivial, trivial⟩, trivial⟩, (And.elim (fun h13 k13 => ⟨(And.elim (fun h14 k14 => ⟨h14, ⟨⟨(by decide), rfl⟩, (And.elim (fun h16 k16 => ⟨h16, k16⟩) k14)⟩⟩) h13), ⟨trivial, ⟨⟨⟨trivial, ⟨Sub.refl _, ⟨trivial, ⟨Sub.refl _, ⟨trivial, ⟨Sub.refl _, ⟨trivial, ⟨Sub.refl _, ⟨trivial, ⟨Sub.refl _, ⟨trivial, ⟨Sub.refl _, ⟨trivial, ⟨Sub.refl _, trivial⟩⟩⟩⟩⟩⟩⟩⟩⟩⟩⟩⟩⟩⟩, ⟨⟨(Nat.le_refl _), (fun x19 => (fun x20 => (SubO.refl _ _)))⟩, ⟨trivial, ⟨SubB.refl _, ⟨trivial, ⟨SubB.refl _, trivial⟩⟩⟩⟩⟩⟩, k13⟩⟩⟩) h9)⟩⟩⟩) (h8 x9)), (fun x9 => (fun h9 => ⟨⟨⟨trivial, ⟨Sub.refl _, ⟨trivial, ⟨Sub.refl _, ⟨trivial, ⟨Sub.refl _, ⟨trivial, ⟨Sub.refl _, ⟨trivial, ⟨Sub.refl _, ⟨trivial, ⟨Sub.refl _, ⟨trivial, ⟨Sub.refl _, trivial⟩⟩⟩⟩⟩⟩⟩⟩⟩⟩⟩⟩⟩⟩, ⟨⟨(Nat.le_refl _), (fun x14 => (fun x15 => (SubO.refl _ _)))⟩, ⟨trivial, ⟨SubB.refl _, ⟨trivial, ⟨SubB.refl _, trivial⟩⟩⟩⟩⟩⟩, h9⟩) (k8 x9))⟩) k5)⟩⟩⟩) h2)⟩⟩) (k1 x2))⟩) h)⟩)
theorem r77_2 (a : Nat) (b : Nat → Int) (d t f : Nat) (s : Int) (i : Nat) (c : Nat → Nat) (e : Nat → Nat → Int) (u v : Int) (j : Nat) (m : Nat → Int) (w x : Int) (n : Nat) (g : Nat → Nat) (l : Nat → Nat → Int) (p : Nat) (o : Nat → Bool) (r : Nat) (q : Nat → Int) (y : AV)
 (h : L77_1 a b d t f s i c e u v j m w (IntKind.i64.wrap (x + (1 : Int))) n g l p o r q y) :
 L77_2 a b d t f s i c e u v j m w x n g l p o r q y :=
 rule Go.Am.Seat.tabOk 77 [] Go.Proofs.Try.f77 hf77 [1, 1, 1, 1, 0, 1, 0, 0, 1, 1, 0, 0, 1, 0, 1, 0, 0, 1, 1, 1] (s77_2 a b d t f s i c e u v j m w x n g l p o r q) (m77_2 a b d t f s i c e u v j m w x n g l p o r q) y [] 400
 (Orc.cut (nat_lit 2)
 (s77_1 a b d t f s i c e u v j m w (IntKind.i64.wrap (x + (1 : Int))) n g l p o r q)
 (m77_1 a b d t f s i c e u v j m w (IntKind.i64.wrap (x + (1 : Int))) n g l p o r q)
 [((1000 : Nat), some (1000 : Nat)), ((1001 : Nat), some (1001 : Nat)), ((1002 : Nat), some (1002 : Nat))]) _ _ (by kernel_rfl) (by kernel_rfl) (show True ∧
 True ∧
 ((True ∧
 SubS (.vec true 1 a a fun (i0 : Nat) => .sc (.int .i64 (b i0))) ∧
 True ∧
 SubS (.rf 1000 1 0 d) ∧
 True ∧
 SubS (.rf 1001 1 0 t) ∧
 True ∧
 SubS (.rf 1002 1 0 f) ∧
 True ∧
 SubS (.sc (.int .i64 s)) ∧
 True ∧
 SubS (.vec true 1 i i fun (i0 : Nat) => .vec true 1 (c i0) (c i0) fun (i1 : Nat) => .sc (.int .i64 (e i0 i1))) ∧
 True ∧
 SubS (.sc (.int .i64 u)) ∧
 True ∧
 SubS (.sc (.int .i64 v)) ∧
 True ∧
 SubS (.vec true 1 j j fun (i0 : Nat) => .sc (.int .i64 (m i0))) ∧
 True ∧
 SubS (.sc (.int .i64 w)) ∧
 True ∧
 SubS (.sc (.int .i64 (IntKind.i64.wrap (x + (1 : Int))))) ∧
 True) ∧
 (n ≤ n ∧
 ∀ (k : Nat),
 k < n →
 SubO true (AV.ow (3 : Nat) (0 : Nat) (1 : Nat) (g k) (g k) fun (i1 : Nat) => .sc (.int .i64 (l k i1)))
 (AV.ow (3 : Nat) (0 : Nat) (1 : Nat) (g k) (g k) fun (i1 : Nat) => .sc (.int .i64 (l k i1)))) ∧
 True ∧
 SubBS (.ar p (1 : Nat) fun (i0 : Nat) => .sc (.bool (o i0))) ∧
 True ∧
 SubBS (.ar r (1 : Nat) fun (i0 : Nat) => .sc (.int .i64 (q i0))) ∧
 True) ∧
 L77_1 a b d t f s i c e u v j m w (IntKind.i64.wrap (x + (1 : Int))) n g l p o r q y from
 ⟨trivial, ⟨trivial, ⟨⟨⟨trivial, ⟨Sub.refl _, ⟨trivial, ⟨Sub.refl _, ⟨trivial, ⟨Sub.refl _, ⟨trivial, ⟨Sub.refl _, ⟨trivial, ⟨Sub.refl _, ⟨trivial, ⟨Sub.refl _, ⟨trivial, ⟨Sub.refl _, ⟨trivial, ⟨Sub.refl _, ⟨trivial, ⟨Sub.refl _, ⟨trivial, ⟨Sub.refl _, ⟨trivial, ⟨Sub.refl _, trivial⟩⟩⟩⟩⟩⟩⟩⟩⟩⟩⟩⟩⟩⟩⟩⟩⟩⟩⟩⟩⟩⟩, ⟨⟨(Nat.le_refl _), (fun x6 => (fun x7 => (SubO.refl _ _)))⟩, ⟨trivial, ⟨SubB.refl _, ⟨trivial, ⟨SubB.refl _, trivial⟩⟩⟩⟩⟩⟩, h⟩⟩⟩)
theorem r77_3 (a : Nat) (b : Nat → Int) (d q f i : Nat) (c : Nat → Nat) (e : Nat → Nat → Int) (r s : Int) (l : Nat) (g : Nat → Nat) (j : Nat → Nat → Int) (n : Nat) (m : Nat → Bool) (p : Nat) (o : Nat → Int) (t : AV)
 (h : L77_0 a b d q f i c e r (IntKind.i64.wrap (s + (1 : Int))) l g j n m p o t) :
 L77_3 a b d q f i c e r s l g j n m p o t :=
 rule Go.Am.Seat.tabOk 77 [] Go.Proofs.Try.f77 hf77 [1, 1, 1, 1, 0, 1, 0, 0, 1, 1, 1] (s77_3 a b d q f i c e r s l g j n m p o) (m77_3 a b d q f i c e r s l g j n m p o) t [] 400
 (Orc.cut (nat_lit 2) (s77_0 a b d q f i c e r (IntKind.i64.wrap (s + (1 : Int))) l g j n m p o)
 (m77_0 a b d q f i c e r (IntKind.i64.wrap (s + (1 : Int))) l g j n m p o)
 [((1000 : Nat), some (1000 : Nat)), ((1001 : Nat), some (1001 : Nat)), ((1002 : Nat), some (1002 : Nat))]) _ _ (by kernel_rfl) (by kernel_rfl) (show True ∧
 True ∧
 ((True ∧
 SubS (.vec true 1 a a fun (i0 : Nat) => .sc (.int .i64 (b i0))) ∧
 True ∧
 SubS (.rf 1000 1 0 d) ∧
 True ∧
 SubS (.rf 1001 1 0 q) ∧
 True ∧
 SubS (.rf 1002 1 0 f) ∧
 True ∧
 SubS (.vec true 1 i i fun (i0 : Nat) => .vec true 1 (c i0) (c i0) fun (i1 : Nat) => .sc (.int .i64 (e i0 i1))) ∧
 True ∧
 SubS (.sc (.int .i64 r)) ∧
 True ∧
 SubS (.sc (.int .i64 (IntKind.i64.wrap (s + (1 : Int))))) ∧
 True) ∧
 (l ≤ l ∧
 ∀ (k : Nat),
 k < l →
 SubO true (AV.ow (3 : Nat) (0 : Nat) (1 : Nat) (g k) (g k) fun (i1 : Nat) => .sc (.int .i64 (j k i1)))
 (AV.ow (3 : Nat) (0 : Nat) (1 : Nat) (g k) (g k) fun (i1 : Nat) => .sc (.int .i64 (j k i1)))) ∧
 True ∧
 SubBS (.ar n (1 : Nat) fun (i0 : Nat) => .sc (.bool (m i0))) ∧
 True ∧
 SubBS (.ar p (1 : Nat) fun (i0 : Nat) => .sc (.int .i64 (o i0))) ∧
 True) ∧
 L77_0 a b d q f i c e r (IntKind.i64.wrap (s + (1 : Int))) l g j n m p o t from
 ⟨trivial, ⟨trivial, ⟨⟨⟨trivial, ⟨Sub.refl _, ⟨trivial, ⟨Sub.refl _, ⟨trivial, ⟨Sub.refl _, ⟨trivial, ⟨Sub.refl _, ⟨trivial, ⟨Sub.refl _, ⟨trivial, ⟨Sub.refl _, ⟨trivial, ⟨Sub.refl _, trivial⟩⟩⟩⟩⟩⟩⟩⟩⟩⟩⟩⟩⟩⟩, ⟨⟨(Nat.le_refl _), (fun x6 => (fun x7 => (SubO.refl _ _)))⟩, ⟨trivial, ⟨SubB.refl _, ⟨trivial, ⟨SubB.refl _, trivial⟩⟩⟩⟩⟩⟩, h⟩⟩⟩)
theorem r77_4 (f e a l : Nat) (c : Nat → Nat) (d : Nat → Nat → Int) (j : Nat) (g : Nat → Bool) (m : Nat) (b : Nat → Int) (o : AV)
 (h : (decide ((↑a : Int) > (0 : Int)) = true →
 ((0 : Int) ≤ IntKind.i64.wrap ((↑a : Int) - (1 : Int)) ∧ IntKind.i64.wrap ((↑a : Int) - (1 : Int)) < (↑a : Int)) ∧
 (IntKind.i64.wrap ((↑a : Int) - (1 : Int))).toNat < m ∧
 ((0 : Int) ≤ (0 : Int) ∧
 (0 : Int) ≤ IntKind.i64.wrap ((↑a : Int) - (1 : Int)) ∧
 (0 : Nat) + (IntKind.i64.wrap ((↑a : Int) - (1 : Int))).toNat ≤ m ∧ ((0 : Int) = (0 : Int) ∨ (0 : Nat) + (0 : Nat) < m)) ∧
 ((0 : Int) ≤ b (IntKind.i64.wrap ((↑a : Int) - (1 : Int))).toNat ∧ b (IntKind.i64.wrap ((↑a : Int) - (1 : Int))).toNat < (↑e : Int)) ∧
 (b (IntKind.i64.wrap ((↑a : Int) - (1 : Int))).toNat).toNat < j ∧
 ((!g (b (IntKind.i64.wrap ((↑a : Int) - (1 : Int))).toNat).toNat) = true →
 ((0 : Int) ≤ b (IntKind.i64.wrap ((↑a : Int) - (1 : Int))).toNat ∧
 b (IntKind.i64.wrap ((↑a : Int) - (1 : Int))).toNat < (↑f : Int)) ∧
 (b (IntKind.i64.wrap ((↑a : Int) - (1 : Int))).toNat).toNat < l ∧
 ((IntKind.i64.wrap ((↑a : Int) - (1 : Int)) - (0 : Int)).toNat ≤ m ∧
 (0 : Nat) + c (b (IntKind.i64.wrap ((↑a : Int) - (1 : Int))).toNat).toNat ≤
 c (b (IntKind.i64.wrap ((↑a : Int) - (1 : Int))).toNat).toNat ∧
 ((IntKind.i64.wrap ((↑a : Int) - (1 : Int)) - (0 : Int)).toNat +
 c (b (IntKind.i64.wrap ((↑a : Int) - (1 : Int))).toNat).toNat) *
 (8 : Nat) ≤
 (140737488355328 : Nat) ∧
 (IntKind.i64.wrap ((↑a : Int) - (1 : Int)) - (0 : Int)).toNat +
 c (b (IntKind.i64.wrap ((↑a : Int) - (1 : Int))).toNat).toNat ≤
 maxLen) ∧
 L77_4 f e
 ((IntKind.i64.wrap ((↑a : Int) - (1 : Int)) - (0 : Int)).toNat +
 c (b (IntKind.i64.wrap ((↑a : Int) - (1 : Int))).toNat).toNat)
 l
 (fun (i : Nat) =>
 bif i.beq (b (IntKind.i64.wrap ((↑a : Int) - (1 : Int))).toNat).toNat then
 c (b (IntKind.i64.wrap ((↑a : Int) - (1 : Int))).toNat).toNat
 else c i)
 (fun (i i_1 : Nat) =>
 bif i.beq (b (IntKind.i64.wrap ((↑a : Int) - (1 : Int))).toNat).toNat then
 d (b (IntKind.i64.wrap ((↑a : Int) - (1 : Int))).toNat).toNat i_1
 else d i i_1)
 j (fun (i : Nat) => bif i.beq (b (IntKind.i64.wrap ((↑a : Int) - (1 : Int))).toNat).toNat then true else g i)
 ((IntKind.i64.wrap ((↑a : Int) - (1 : Int)) - (0 : Int)).toNat +
 c (b (IntKind.i64.wrap ((↑a : Int) - (1 : Int))).toNat).toNat)
 (fun (i : Nat) =>
 bif i.blt (IntKind.i64.wrap ((↑a : Int) - (1 : Int)) - (0 : Int)).toNat then b i
 else
 d (b (IntKind.i64.wrap ((↑a : Int) - (1 : Int))).toNat).toNat
 ((0 : Nat) + (i - (IntKind.i64.wrap ((↑a : Int) - (1 : Int)) - (0 : Int)).toNat)))
 o) ∧
 ((!g (b (IntKind.i64.wrap ((↑a : Int) - (1 : Int))).toNat).toNat) = false →
 L77_4 f e (IntKind.i64.wrap ((↑a : Int) - (1 : Int)) - (0 : Int)).toNat l c d j g m b o)) ∧
 (decide ((↑a : Int) > (0 : Int)) = false →
 ((0 : Nat) + e ≤ j ∧
 Sub (.vec false 1 e (j - (0 : Nat)) fun (i : Nat) => .sc (.bool (g i)))
 (.vec false 1 e e fun (i : Nat) => .sc (.bool (g i)))) ∧
 Sub (.vec false 1 e e fun (i : Nat) => .sc (.bool (g i))) o)) :
 L77_4 f e a l c d j g m b o :=
 rule Go.Am.Seat.tabOk 77 [] Go.Proofs.Try.f77 hf77 [1, 1, 1, 1, 1, 0, 0, 0] (s77_4 f e a l c d j g m b) (m77_4 f e a l c d j g m b) o [] 400
 (((Orc.ch Ch.none
 (Orc.ch Ch.none
 (Orc.ch Ch.none
 (Orc.ch Ch.none
 (Orc.ch Ch.none
 (Orc.ch Ch.none
 (Orc.ch Ch.none
 (Orc.ch Ch.none
 (Orc.ch (Ch.n (0 : Nat))
 (Orc.cls (1000 : Nat)
 (Orc.cut (nat_lit 2)
 (s77_4 f e
 (((IntKind.i64, IntKind.i64.wrap ((↑a : Int) - (1 : Int))).2 - (0 : Int)).toNat +
 c (plus (0 : Nat) (b (plus (0 : Nat) (IntKind.i64.wrap ((↑a : Int) - (1 : Int))).toNat)).toNat))
 (Cl.mk [] (24 : Nat) l (1 : Nat)
 (fun (i0 : Nat) =>
 AV.ow (3 : Nat) (0 : Nat) (1 : Nat) (c i0) (c i0) fun (i1 : Nat) => .sc (.int .i64 (d i0 i1)))
 True).n
 (fun (i : Nat) =>
 bif i.beq (plus (0 : Nat) (b (plus (0 : Nat) (IntKind.i64.wrap ((↑a : Int) - (1 : Int))).toNat)).toNat) then
 c (plus (0 : Nat) (b (plus (0 : Nat) (IntKind.i64.wrap ((↑a : Int) - (1 : Int))).toNat)).toNat)
 else c i)
 (fun (i i_1 : Nat) =>
 bif i.beq (plus (0 : Nat) (b (plus (0 : Nat) (IntKind.i64.wrap ((↑a : Int) - (1 : Int))).toNat)).toNat) then
 d (plus (0 : Nat) (b (plus (0 : Nat) (IntKind.i64.wrap ((↑a : Int) - (1 : Int))).toNat)).toNat) i_1
 else d i i_1)
 j
 (fun (i : Nat) =>
 bif i.beq (plus (0 : Nat) (b (plus (0 : Nat) (IntKind.i64.wrap ((↑a : Int) - (1 : Int))).toNat)).toNat) then true
 else g i)
 (((IntKind.i64, IntKind.i64.wrap ((↑a : Int) - (1 : Int))).2 - (0 : Int)).toNat +
 c (plus (0 : Nat) (b (plus (0 : Nat) (IntKind.i64.wrap ((↑a : Int) - (1 : Int))).toNat)).toNat))
 fun (i : Nat) =>
 bif i.blt ((IntKind.i64, IntKind.i64.wrap ((↑a : Int) - (1 : Int))).2 - (0 : Int)).toNat then b i
 else
 d (plus (0 : Nat) (b (plus (0 : Nat) (IntKind.i64.wrap ((↑a : Int) - (1 : Int))).toNat)).toNat)
 ((0 : Nat) + (i - ((IntKind.i64, IntKind.i64.wrap ((↑a : Int) - (1 : Int))).2 - (0 : Int)).toNat)))
 (m77_4 f e
 (((IntKind.i64, IntKind.i64.wrap ((↑a : Int) - (1 : Int))).2 - (0 : Int)).toNat +
 c (plus (0 : Nat) (b (plus (0 : Nat) (IntKind.i64.wrap ((↑a : Int) - (1 : Int))).toNat)).toNat))
 (Cl.mk [] (24 : Nat) l (1 : Nat)
 (fun (i0 : Nat) =>
 AV.ow (3 : Nat) (0 : Nat) (1 : Nat) (c i0) (c i0) fun (i1 : Nat) => .sc (.int .i64 (d i0 i1)))
 True).n
 (fun (i : Nat) =>
 bif i.beq (plus (0 : Nat) (b (plus (0 : Nat) (IntKind.i64.wrap ((↑a : Int) - (1 : Int))).toNat)).toNat) then
 c (plus (0 : Nat) (b (plus (0 : Nat) (IntKind.i64.wrap ((↑a : Int) - (1 : Int))).toNat)).toNat)
 else c i)
 (fun (i i_1 : Nat) =>
 bif i.beq (plus (0 : Nat) (b (plus (0 : Nat) (IntKind.i64.wrap ((↑a : Int) - (1 : Int))).toNat)).toNat) then
 d (plus (0 : Nat) (b (plus (0 : Nat) (IntKind.i64.wrap ((↑a : Int) - (1 : Int))).toNat)).toNat) i_1
 else d i i_1)
 j
 (fun (i : Nat) =>
 bif i.beq (plus (0 : Nat) (b (plus (0 : Nat) (IntKind.i64.wrap ((↑a : Int) - (1 : Int))).toNat)).toNat) then true
 else g i)
 (((IntKind.i64, IntKind.i64.wrap ((↑a : Int) - (1 : Int))).2 - (0 : Int)).toNat +
 c (plus (0 : Nat) (b (plus (0 : Nat) (IntKind.i64.wrap ((↑a : Int) - (1 : Int))).toNat)).toNat))
 fun (i : Nat) =>
 bif i.blt ((IntKind.i64, IntKind.i64.wrap ((↑a : Int) - (1 : Int))).2 - (0 : Int)).toNat then b i
 else
 d (plus (0 : Nat) (b (plus (0 : Nat) (IntKind.i64.wrap ((↑a : Int) - (1 : Int))).toNat)).toNat)
 ((0 : Nat) + (i - ((IntKind.i64, IntKind.i64.wrap ((↑a : Int) - (1 : Int))).2 - (0 : Int)).toNat)))
 [((1000 : Nat), some (1000 : Nat)), ((1001 : Nat), some (1001 : Nat)), ((1002 : Nat), some (82 : Nat))]))))))))))).br
 (Orc.cut (nat_lit 3) (s77_4 f e ((IntKind.i64, IntKind.i64.wrap ((↑a : Int) - (1 : Int))).2 - (0 : Int)).toNat l c d j g m b)
 (m77_4 f e ((IntKind.i64, IntKind.i64.wrap ((↑a : Int) - (1 : Int))).2 - (0 : Int)).toNat l c d j g m b)
 [((1000 : Nat), some (1000 : Nat)), ((1001 : Nat), some (1001 : Nat)), ((1002 : Nat), some (1002 : Nat))])).br
 (Orc.fin (.vec false 1 e e fun (i : Nat) => .sc (.bool (g (plus (0 : Nat) i)))) [] [])) _ _ (by kernel_rfl) (by kernel_rfl) (show True ∧
 True ∧
 True ∧
 (decide ((↑a : Int) > (0 : Int)) = true →
 True ∧
 True ∧
 True ∧
 True ∧
 ((0 : Int) ≤ IntKind.i64.wrap ((↑a : Int) - (1 : Int)) ∧ IntKind.i64.wrap ((↑a : Int) - (1 : Int)) < (↑a : Int)) ∧
 ((IntKind.i64.wrap ((↑a : Int) - (1 : Int))).toNat * (1 : Nat) + (0 : Nat) =
 (IntKind.i64.wrap ((↑a : Int) - (1 : Int))).toNat * (1 : Nat) ∧
 (IntKind.i64.wrap ((↑a : Int) - (1 : Int))).toNat < m ∧ True) ∧
 True ∧
 True ∧
 True ∧
 True ∧
 True ∧
 ((0 : Int) ≤ (0 : Int) ∧
 (0 : Int) ≤ IntKind.i64.wrap ((↑a : Int) - (1 : Int)) ∧
 (0 : Nat) + (IntKind.i64.wrap ((↑a : Int) - (1 : Int))).toNat ≤ m ∧
 ((0 : Int) = (0 : Int) ∨ (0 : Nat) + (0 : Nat) < m)) ∧
 True ∧
 True ∧
 True ∧
 ((0 : Int) ≤ b (IntKind.i64.wrap ((↑a : Int) - (1 : Int))).toNat ∧
 b (IntKind.i64.wrap ((↑a : Int) - (1 : Int))).toNat < (↑e : Int)) ∧
 ((b (IntKind.i64.wrap ((↑a : Int) - (1 : Int))).toNat).toNat * (1 : Nat) + (0 : Nat) =
 (b (IntKind.i64.wrap ((↑a : Int) - (1 : Int))).toNat).toNat * (1 : Nat) ∧
 (b (IntKind.i64.wrap ((↑a : Int) - (1 : Int))).toNat).toNat < j ∧ True) ∧
 True ∧
 ((!g (b (IntKind.i64.wrap ((↑a : Int) - (1 : Int))).toNat).toNat) = true →
 True ∧
 True ∧
 ((0 : Int) ≤ b (IntKind.i64.wrap ((↑a : Int) - (1 : Int))).toNat ∧
 b (IntKind.i64.wrap ((↑a : Int) - (1 : Int))).toNat < (↑e : Int)) ∧
 ((b (IntKind.i64.wrap ((↑a : Int) - (1 : Int))).toNat).toNat * (1 : Nat) + (0 : Nat) =
 (b (IntKind.i64.wrap ((↑a : Int) - (1 : Int))).toNat).toNat * (1 : Nat) ∧
 ((b (IntKind.i64.wrap ((↑a : Int) - (1 : Int))).toNat).toNat < j ∧ True) ∧ True) ∧
 True ∧
 True ∧
 True ∧
 ((0 : Int) ≤ b (IntKind.i64.wrap ((↑a : Int) - (1 : Int))).toNat ∧
 b (IntKind.i64.wrap ((↑a : Int) - (1 : Int))).toNat < (↑f : Int)) ∧
 (True ∧
 (b (IntKind.i64.wrap ((↑a : Int) - (1 : Int))).toNat).toNat * (1 : Nat) +
 (0 : Nat) =
 (b (IntKind.i64.wrap ((↑a : Int) - (1 : Int))).toNat).toNat * (1 : Nat) ∧
 (b (IntKind.i64.wrap ((↑a : Int) - (1 : Int))).toNat).toNat < l ∧ True) ∧
 ((IntKind.i64.wrap ((↑a : Int) - (1 : Int)) - (0 : Int)).toNat ≤ m ∧
 ((0 : Nat) + c (b (IntKind.i64.wrap ((↑a : Int) - (1 : Int))).toNat).toNat ≤
 c (b (IntKind.i64.wrap ((↑a : Int) - (1 : Int))).toNat).toNat ∧
 (1 : Nat) = (1 : Nat)) ∧
 ((IntKind.i64.wrap ((↑a : Int) - (1 : Int)) - (0 : Int)).toNat +
 c (b (IntKind.i64.wrap ((↑a : Int) - (1 : Int))).toNat).toNat) *
 (8 : Nat) ≤
 (140737488355328 : Nat) ∧
 (IntKind.i64.wrap ((↑a : Int) - (1 : Int)) - (0 : Int)).toNat +
 c (b (IntKind.i64.wrap ((↑a : Int) - (1 : Int))).toNat).toNat ≤
 maxLen) ∧
 True ∧
 c (b (IntKind.i64.wrap ((↑a : Int) - (1 : Int))).toNat).toNat ≤
 c (b (IntKind.i64.wrap ((↑a : Int) - (1 : Int))).toNat).toNat ∧
 ((True ∧
 SubS (.rf 1000 1 0 f) ∧
 True ∧
 SubS (.rf 1001 1 0 e) ∧
 True ∧
 SubS (.rf 1002 1 0 ((IntKind.i64.wrap ((↑a : Int) - (1 : Int)) - (0 : Int)).toNat + c (b (IntKind.i64.wrap ((↑a : Int) - (1 : Int))).toNat).toNat)) ∧
 True) ∧
 (l ≤ l ∧
 ∀ (k : Nat),
 k < l →
 SubO true
 (AV.ow (3 : Nat) (0 : Nat) (1 : Nat)
 (bif
 k.beq
 (b
 (IntKind.i64.wrap
 ((↑a : Int) - (1 : Int))).toNat).toNat then
 c
 (b (IntKind.i64.wrap ((↑a : Int) - (1 : Int))).toNat).toNat
 else c k)
 (bif
 k.beq
 (b
 (IntKind.i64.wrap
 ((↑a : Int) - (1 : Int))).toNat).toNat then
 c
 (b (IntKind.i64.wrap ((↑a : Int) - (1 : Int))).toNat).toNat
 else c k)
 fun (i : Nat) =>
 .sc
 (.int IntKind.i64
 (bif
 k.beq
 (b
 (IntKind.i64.wrap
 ((↑a : Int) - (1 : Int))).toNat).toNat then
 d
 (b
 (IntKind.i64.wrap
 ((↑a : Int) - (1 : Int))).toNat).toNat
 i
 else d k i)))
 (AV.ow (3 : Nat) (0 : Nat) (1 : Nat)
 (bif
 k.beq
 (b
 (IntKind.i64.wrap
 ((↑a : Int) - (1 : Int))).toNat).toNat then
 c
 (b (IntKind.i64.wrap ((↑a : Int) - (1 : Int))).toNat).toNat
 else c k)
 (bif
 k.beq
 (b
 (IntKind.i64.wrap
 ((↑a : Int) - (1 : Int))).toNat).toNat then
 c
 (b (IntKind.i64.wrap ((↑a : Int) - (1 : Int))).toNat).toNat
 else c k)
 fun (i1 : Nat) =>
 .sc
 (.int IntKind.i64
 (bif
 k.beq
 (b
 (IntKind.i64.wrap
 ((↑a : Int) - (1 : Int))).toNat).toNat then
 d
 (b
 (IntKind.i64.wrap
 ((↑a : Int) - (1 : Int))).toNat).toNat
 i1
 else d k i1)))) ∧
 True ∧
 SubBS (.ar j (1 : Nat) fun (i : Nat) => .sc (Value.bool (bif i.beq (b (IntKind.i64.wrap ((↑a : Int) - (1 : Int))).toNat).toNat then true else g i))) ∧
 True ∧
 SubBS (.ar ((IntKind.i64.wrap ((↑a : Int) - (1 : Int)) - (0 : Int)).toNat + c (b (IntKind.i64.wrap ((↑a : Int) - (1 : Int))).toNat).toNat) (1 : Nat) fun (i : Nat) => .sc (.int IntKind.i64 (bif i.blt (IntKind.i64.wrap ((↑a : Int) - (1 : Int)) - (0 : Int)).toNat then b i else d (b (IntKind.i64.wrap ((↑a : Int) - (1 : Int))).toNat).toNat ((0 : Nat) + (i - (IntKind.i64.wrap ((↑a : Int) - (1 : Int)) - (0 : Int)).toNat))))) ∧
 True) ∧
 L77_4 f e
 ((IntKind.i64.wrap ((↑a : Int) - (1 : Int)) - (0 : Int)).toNat +
 c (b (IntKind.i64.wrap ((↑a : Int) - (1 : Int))).toNat).toNat)
 l
 (fun (i : Nat) =>
 bif i.beq (b (IntKind.i64.wrap ((↑a : Int) - (1 : Int))).toNat).toNat then
 c (b (IntKind.i64.wrap ((↑a : Int) - (1 : Int))).toNat).toNat
 else c i)
 (fun (i i_1 : Nat) =>
 bif i.beq (b (IntKind.i64.wrap ((↑a : Int) - (1 : Int))).toNat).toNat then
 d (b (IntKind.i64.wrap ((↑a : Int) - (1 : Int))).toNat).toNat i_1
 else d i i_1)
 j
 (fun (i : Nat) =>
 bif i.beq (b (IntKind.i64.wrap ((↑a : Int) - (1 : Int))).toNat).toNat then
 true
 else g i)
 ((IntKind.i64.wrap ((↑a : Int) - (1 : Int)) - (0 : Int)).toNat +
 c (b (IntKind.i64.wrap ((↑a : Int) - (1 : Int))).toNat).toNat)
 (fun (i : Nat) =>
 bif i.blt (IntKind.i64.wrap ((↑a : Int) - (1 : Int)) - (0 : Int)).toNat then
 b i
 else
 d (b (IntKind.i64.wrap ((↑a : Int) - (1 : Int))).toNat).toNat
 ((0 : Nat) +
 (i - (IntKind.i64.wrap ((↑a : Int) - (1 : Int)) - (0 : Int)).toNat)))
 o) ∧
 ((!g (b (IntKind.i64.wrap ((↑a : Int) - (1 : Int))).toNat).toNat) = false →
 ((True ∧
 SubS (.rf 1000 1 0 f) ∧
 True ∧
 SubS (.rf 1001 1 0 e) ∧
 True ∧
 SubS (.rf 1002 1 0 (IntKind.i64.wrap ((↑a : Int) - (1 : Int)) - (0 : Int)).toNat) ∧
 True) ∧
 (l ≤ l ∧
 ∀ (k : Nat),
 k < l →
 SubO true
 (AV.ow (3 : Nat) (0 : Nat) (1 : Nat) (c k) (c k) fun (i1 : Nat) =>
 .sc (.int .i64 (d k i1)))
 (AV.ow (3 : Nat) (0 : Nat) (1 : Nat) (c k) (c k) fun (i1 : Nat) =>
 .sc (.int .i64 (d k i1)))) ∧
 True ∧
 SubBS (.ar j (1 : Nat) fun (i0 : Nat) => .sc (.bool (g i0))) ∧
 True ∧
 SubBS (.ar m (1 : Nat) fun (i0 : Nat) => .sc (.int .i64 (b i0))) ∧
 True) ∧
 L77_4 f e (IntKind.i64.wrap ((↑a : Int) - (1 : Int)) - (0 : Int)).toNat l c d j g m
 b o)) ∧
 (decide ((↑a : Int) > (0 : Int)) = false →
 True ∧
 True ∧
 True ∧
 (((0 : Nat) + e ≤ j ∧
 Sub (.vec false 1 e (j - (0 : Nat)) fun (i : Nat) => .sc (.bool (g i)))
 (.vec false 1 e e fun (i : Nat) => .sc (.bool (g i))) ∧
 True) ∧
 True) ∧
 Sub (.vec false 1 e e fun (i : Nat) => .sc (.bool (g i))) o ∧ SubOut [] []) from
 ⟨trivial, ⟨trivial, ⟨trivial, (And.elim (fun h3 k3 => ⟨(fun x4 => (fun h4 => ⟨trivial, ⟨trivial, ⟨trivial, ⟨trivial, (And.elim (fun h9 k9 => ⟨(And.elim (fun h10 k10 => ⟨h10, k10⟩) h9), (And.elim (fun h10 k10 => ⟨⟨rfl, ((fun h12 => ⟨h12, trivial⟩) h10)⟩, ⟨trivial, ⟨trivial, ⟨trivial, ⟨trivial, ⟨trivial, (And.elim (fun h16 k16 => ⟨(And.elim (fun h17 k17 => ⟨h17, (And.elim (fun h18 k18 => ⟨h18, (And.elim (fun h19 k19 => ⟨h19, k19⟩) k18)⟩) k17)⟩) h16), ⟨trivial, ⟨trivial, ⟨trivial, (And.elim (fun h20 k20 => ⟨(And.elim (fun h21 k21 => ⟨h21, k21⟩) h20), (And.elim (fun h21 k21 => ⟨⟨rfl, ((fun h23 => ⟨h23, trivial⟩) h21)⟩, ⟨trivial, (And.elim (fun h23 k23 => ⟨(fun x24 => (fun h24 => ⟨trivial, ⟨trivial, ⟨(And.elim (fun h28 k28 => ⟨h28, k28⟩) h20), ⟨⟨rfl, ⟨⟨h21, trivial⟩, trivial⟩⟩, ⟨trivial, ⟨trivial, ⟨trivial, (And.elim (fun h32 k32 => ⟨(And.elim (fun h33 k33 => ⟨h33, k33⟩) h32), (And.elim (fun h33 k33 => ⟨⟨trivial, ⟨rfl, ((fun h36 => ⟨h36, trivial⟩) h33)⟩⟩, (And.elim (fun h34 k34 => ⟨(And.elim (fun h35 k35 => ⟨h35, (And.elim (fun h36 k36 => ⟨((fun h37 => ⟨h37, rfl⟩) h36), (And.elim (fun h37 k37 => ⟨h37, k37⟩) k36)⟩) k35)⟩) h34), ⟨trivial, ⟨(Nat.le_refl _), ⟨⟨⟨trivial, ⟨Sub.refl _, ⟨trivial, ⟨Sub.refl _, ⟨trivial, ⟨Sub.refl _, trivial⟩⟩⟩⟩⟩⟩, ⟨⟨(Nat.le_refl _), (fun x41 => (fun x42 => (SubO.refl _ _)))⟩, ⟨trivial, ⟨SubB.refl _, ⟨trivial, ⟨SubB.refl _, trivial⟩⟩⟩⟩⟩⟩, k34⟩⟩⟩⟩) k33)⟩) k32)⟩) h24)⟩⟩⟩⟩⟩⟩⟩) (h23 x24)), (fun x24 => (fun h24 => ⟨⟨⟨trivial, ⟨Sub.refl _, ⟨trivial, ⟨Sub.refl _, ⟨trivial, ⟨Sub.refl _, trivial⟩⟩⟩⟩⟩⟩, ⟨⟨(Nat.le_refl _), (fun x29 => (fun x30 => (SubO.refl _ _)))⟩, ⟨trivial, ⟨SubB.refl _, ⟨trivial, ⟨SubB.refl _, trivial⟩⟩⟩⟩⟩⟩, h24⟩) (k23 x24))⟩) k21)⟩⟩) k20)⟩) k16)⟩⟩⟩⟩) k10)⟩⟩⟩⟩⟩⟩) k9)⟩) h4)⟩⟩⟩⟩) (h3 x4)), (fun x4 => (fun h4 => ⟨trivial, ⟨trivial, ⟨trivial, (And.elim (fun h8 k8 => ⟨((fun h9 => ⟨(And.elim (fun h10 k10 => ⟨h10, ((fun h11 => ⟨h11, trivial⟩) k10)⟩) h9), trivial⟩) h8), ((fun h9 => ⟨h9, trivial⟩) k8)⟩) h4)⟩⟩⟩) (k3 x4))⟩) h)⟩⟩⟩)
theorem hf78 : Go.Proofs.Try.prog.funcs[78]? = some Go.Proofs.Try.f78 := by kernel_rfl
abbrev s78_e (a : Nat) (n : Int) (c : Nat) (b : Nat → Int) : List (Nat × AV) := [(0, (.rf 2000 1 0 a)), (1, (.sc (.int .i64 n)))]
abbrev m78_e (c : Nat) (n : Int) (b : Nat) (a : Nat → Int) : List (Nat × Nat × AV) := [(2000, 5, (.ar b 1 (fun i0 => (.sc (.int .u8 (a i0))))))]
def L78_e (c : Nat) (n : Int) (b : Nat) (a : Nat → Int) (d : AV) (out : List (Nat × Nat × AV)) : Prop := Goes ⟨Go.Proofs.Try.prog, 78, [], d, out⟩ (place Go.Proofs.Try.f78 []) (s78_e c n b a) (m78_e c n b a)
theorem o78 (c : Nat) (n : Int) (b : Nat) (a : Nat → Int) (d : AV) (out : List (Nat × Nat × AV)) (hnew : newOnly d ∧ ∀ q ∈ out, newOnly q.2.2) (hk : keptN [(2000, 5, (.ar b 1 (fun i0 => (.sc (.int .u8 (a i0))))))] out = []) (h : L78_e c n b a d out) : Ok Go.Proofs.Try.prog 78 [(.rf 2000 1 0 c), (.sc (.int .i64 n))] [(2000, 5, (.ar b 1 (fun i0 => (.sc (.int .u8 (a i0))))))] d out :=
 okRule2 78 Go.Proofs.Try.f78 hf78 [(.rf 2000 1 0 c), (.sc (.int .i64 n))] [(2000, 5, (.ar b 1 (fun i0 => (.sc (.int .u8 (a i0))))))] d out [] hk (by kernel_rfl) (by kernel_rfl) (by kernel_rfl) hnew (L78_e c n b a d out) (by kernel_rfl) h
theorem r78_e (a : Nat) (n : Int) (c : Nat) (b : Nat → Int) (d : AV) (out : List (Nat × Nat × AV))
 (h : (0 : Int) ≤ (16 : Int) ∧
 (0 : Int) ≤ (8 : Int) ∧
 (a ≤ c ∧ (a + (3 : Nat)) * (1 : Nat) ≤ (140737488355328 : Nat) ∧ a + (3 : Nat) ≤ maxLen) ∧
 Sub (.rf 1000 1 0 (a + (3 : Nat))) d ∧
 SubOut
 [((1000 : Nat), (5 : Nat),
 .ar (a + (3 : Nat)) (1 : Nat) fun (i : Nat) =>
 .sc
 (.int IntKind.u8
 (bif i.blt a then b i
 else
 bif ((0 : Nat) + (i - a)).beq (2 : Nat) then IntKind.u8.wrap (IntKind.i64.wrap (n + (1 : Int)))
 else
 bif ((0 : Nat) + (i - a)).beq (1 : Nat) then
 IntKind.u8.wrap ((IntKind.i64.wrap (n + (1 : Int))).fdiv ((2 : Int) ^ min (8 : Nat) IntKind.i64.bits))
 else
 bif ((0 : Nat) + (i - a)).beq (0 : Nat) then
 IntKind.u8.wrap ((IntKind.i64.wrap (n + (1 : Int))).fdiv ((2 : Int) ^ min (16 : Nat) IntKind.i64.bits))
 else (0 : Int))))]
 out) :
 L78_e a n c b d out :=
 rule Go.Am.Seat.tabOk 78 [] Go.Proofs.Try.f78 hf78 [] (s78_e a n c b) (m78_e a n c b) d out 400
 (Orc.fin (.rf 1000 1 0 (a + (3 : Nat)))
 [((1000 : Nat), (5 : Nat),
 .ar (a + (3 : Nat)) (1 : Nat) fun (i : Nat) =>
 .sc
 (.int IntKind.u8
 (bif i.blt a then b i
 else
 bif ((0 : Nat) + (i - a)).beq ((2 : Nat), Operand.tmp (16 : Nat)).1 then IntKind.u8.wrap (IntKind.i64.wrap (n + (1 : Int)))
 else
 bif ((0 : Nat) + (i - a)).beq ((1 : Nat), Operand.tmp (13 : Nat)).1 then
 IntKind.u8.wrap ((IntKind.i64.wrap (n + (1 : Int))).fdiv ((2 : Int) ^ min (Int.toNat (8 : Int)) IntKind.i64.bits))
 else
 bif ((0 : Nat) + (i - a)).beq ((0 : Nat), Operand.tmp (9 : Nat)).1 then
 IntKind.u8.wrap ((IntKind.i64.wrap (n + (1 : Int))).fdiv ((2 : Int) ^ min (Int.toNat (16 : Int)) IntKind.i64.bits))
 else (0 : Int))))]
 [((1000 : Nat), some (18 : Nat))]) _ _ (by kernel_rfl) (by kernel_rfl) (show True ∧
 True ∧
 True ∧
 True ∧
 (0 : Int) ≤ (16 : Int) ∧
 True ∧
 True ∧
 True ∧
 (0 : Int) ≤ (8 : Int) ∧
 True ∧
 True ∧
 True ∧
 True ∧
 ((True ∧ True ∧ True ∧ True) ∧ True) ∧
 (a ≤ c ∧
 ((0 : Nat) + (3 : Nat) ≤ (3 : Nat) ∧ (1 : Nat) = (1 : Nat)) ∧
 (a + (3 : Nat)) * (1 : Nat) ≤ (140737488355328 : Nat) ∧ a + (3 : Nat) ≤ maxLen) ∧
 True ∧
 True ∧
 ((True ∧
 SubS (.rf 1000 1 0 (a + (3 : Nat))) ∧
 True) ∧
 True ∧
 SubBS (.ar (a + (3 : Nat)) (1 : Nat) fun (i : Nat) => .sc (.int IntKind.u8 (bif i.blt a then b i else bif ((0 : Nat) + (i - a)).beq (2 : Nat) then IntKind.u8.wrap (IntKind.i64.wrap (n + (1 : Int))) else bif ((0 : Nat) + (i - a)).beq (1 : Nat) then IntKind.u8.wrap ((IntKind.i64.wrap (n + (1 : Int))).fdiv ((2 : Int) ^ min (8 : Nat) IntKind.i64.bits)) else bif ((0 : Nat) + (i - a)).beq (0 : Nat) then IntKind.u8.wrap ((IntKind.i64.wrap (n + (1 : Int))).fdiv ((2 : Int) ^ min (16 : Nat) IntKind.i64.bits)) else (0 : Int)))) ∧
 True) ∧
 Sub (.rf 1000 1 0 (a + (3 : Nat))) d ∧
 SubOut
 [((1000 : Nat), (5 : Nat),
 .ar (a + (3 : Nat)) (1 : Nat) fun (i : Nat) =>
 .sc
 (.int IntKind.u8
 (bif i.blt a then b i
 else
 bif ((0 : Nat) + (i - a)).beq (2 : Nat) then IntKind.u8.wrap (IntKind.i64.wrap (n + (1 : Int)))
 else
 bif ((0 : Nat) + (i - a)).beq (1 : Nat) then
 IntKind.u8.wrap ((IntKind.i64.wrap (n + (1 : Int))).fdiv ((2 : Int) ^ min (8 : Nat) IntKind.i64.bits))
 else
 bif ((0 : Nat) + (i - a)).beq (0 : Nat) then
 IntKind.u8.wrap
 ((IntKind.i64.wrap (n + (1 : Int))).fdiv ((2 : Int) ^ min (16 : Nat) IntKind.i64.bits))
 else (0 : Int))))]
 out from
 ⟨trivial, ⟨trivial, ⟨trivial, ⟨trivial, (And.elim (fun h4 k4 => ⟨h4, ⟨trivial, ⟨trivial, ⟨trivial, (And.elim (fun h8 k8 => ⟨h8, ⟨trivial, ⟨trivial, ⟨trivial, ⟨trivial, ⟨⟨⟨trivial, ⟨trivial, ⟨trivial, trivial⟩⟩⟩, trivial⟩, (And.elim (fun h14 k14 => ⟨(And.elim (fun h15 k15 => ⟨h15, ⟨⟨(by decide), rfl⟩, (And.elim (fun h17 k17 => ⟨h17, k17⟩) k15)⟩⟩) h14), ⟨trivial, ⟨trivial, ⟨⟨⟨trivial, ⟨Sub.refl _, trivial⟩⟩, ⟨trivial, ⟨SubB.refl _, trivial⟩⟩⟩, (And.elim (fun h18 k18 => ⟨h18, k18⟩) k14)⟩⟩⟩⟩) k8)⟩⟩⟩⟩⟩⟩) k4)⟩⟩⟩⟩) h)⟩⟩⟩⟩)
end Go.Am.Seat
