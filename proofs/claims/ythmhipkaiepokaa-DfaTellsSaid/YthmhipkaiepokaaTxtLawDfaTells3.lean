import Derived.Test.YthmhipkaiepokaaTxtLawDfaTells2
import Derived.Test.YthmhipkaiepokaaTxtLawDfaTells1
import Derived.Test.YthmhipkaiepokaaRul1LawDfaTells
import Derived.Test.YthmhipkaiepokaaRul0LawDfaTells
set_option linter.unusedVariables false
namespace Go.Am.Seat
open Go Go.Am

theorem fdiv8 {x : Nat} : ((x : Nat) : Int).fdiv (2 ^ min 8 IntKind.u64.bits) = ((x / 256 : Nat) : Int) := by
 rw [show (2 ^ min 8 IntKind.u64.bits : Int) = 256 from rfl, Int.fdiv_eq_ediv_of_nonneg _ (by omega)]; rfl
theorem len16_2 (x n : Nat) (hx : x < 256) (hn : n ≤ 8) : ∃ t : Nat, t ≤ 8 ∧ x < 2 ^ t ∧ (1 ≤ x → 2 ^ t ≤ 2 * x) ∧ L83_2 (x : Int) (n : Int) (.sc (.int .i64 ((n + t : Nat) : Int))) := by
 have key : ∀ T : ByteArray, (∀ v, v < 256 → (byteAt T v).toNat ≤ 8 ∧ v < 2 ^ (byteAt T v).toNat ∧ (1 ≤ v → 2 ^ (byteAt T v).toNat ≤ 2 * v)) → ∀ (h : ((0 : Int) ≤ IntKind.u8.wrap (x : Int) ∧ IntKind.u8.wrap (x : Int) < (T.size : Int)) ∧ Sub (.sc (.int .i64 (IntKind.i64.wrap ((n : Int) + IntKind.i64.wrap ((byteAt T (IntKind.u8.wrap (x : Int)).toNat).toNat : Int))))) (.sc (.int .i64 ((n + (byteAt T x).toNat : Nat) : Int))) → L83_2 (x : Int) (n : Int) (.sc (.int .i64 ((n + (byteAt T x).toNat : Nat) : Int)))), (256 ≤ T.size) →
   ∃ t : Nat, t ≤ 8 ∧ x < 2 ^ t ∧ (1 ≤ x → 2 ^ t ≤ 2 * x) ∧ L83_2 (x : Int) (n : Int) (.sc (.int .i64 ((n + t : Nat) : Int))) := fun T hT h hs => by
  obtain ⟨k1, k2, k3⟩ := hT x hx
  refine ⟨_, k1, k2, k3, h ⟨?_, ?_⟩⟩
  ·rw [wrap_u8 (by omega) (by omega)]; omega
  ·rw [wrap_u8 (by omega) (by omega), tn_, wrap_i64 (n := (((byteAt T x).toNat : Nat) : Int)) (by omega) (by omega), wrapAdd (by omega)]
   exact Sub.refl _
 exact key _ (by decide +kernel) (r83_2 _ _ _) (by decide +kernel)
theorem len16_ok (x : Nat) (h1 : 1 ≤ x) (hx : x < 65536) : ∃ t : Nat, t ≤ 16 ∧ x < 2 ^ t ∧ 2 ^ t ≤ 2 * x ∧ Ok Proofs.Try.prog 71 [.sc (.int .u64 (x : Int))] [] (.sc (.int .i64 (t : Int))) [] := by
 have key : ∃ t : Nat, t ≤ 16 ∧ x < 2 ^ t ∧ 2 ^ t ≤ 2 * x ∧ L83_1 (x : Int) 0 (.sc (.int .i64 (t : Int))) := by
  by_cases h : 256 ≤ x
  ·obtain ⟨t, t1, t2, t3, t4⟩ := len16_2 (x / 256) 8 (by omega) (by omega)
   have t3 := t3 (by omega)
   have e : 2 ^ (8 + t) = 256 * 2 ^ t := by rw [Nat.pow_add]
   refine ⟨8 + t, by omega, by rw [e]; omega, by rw [e]; omega, ?_⟩
   apply r83_1
   rw [fdiv8, show IntKind.i64.wrap (0 + 8) = ((8 : Nat) : Int) from by decide]
   exact ⟨fun _ => ⟨by omega, t4⟩, fun h => by have := df_ h; omega⟩
  ·obtain ⟨t, t1, t2, t3, t4⟩ := len16_2 x 0 (by omega) (by omega)
   rw [Nat.zero_add] at t4
   refine ⟨t, by omega, t2, t3 h1, ?_⟩
   apply r83_1
   exact ⟨fun h => by have := dt_ h; omega, fun _ => t4⟩
 obtain ⟨t, t1, t2, t3, t4⟩ := key
 refine ⟨t, t1, t2, t3, o71 _ _ trivial (r71_e _ _ ⟨(t : Int), o83 _ _ trivial (r83_e _ _ ⟨fun h => by have := dt_ h; omega, fun _ => r83_0 _ _ _ ⟨fun h => by have := dt_ h; omega, fun _ => t4⟩⟩), Sub.refl _⟩)⟩
theorem npow_ok (x : Nat) (h1 : 1 ≤ x) (hx : x < 65536) : ∃ m : Nat, 1 ≤ m ∧ m ≤ 2 * x ∧ Ok Proofs.Try.prog 85 [.sc (.int .i64 (x : Int))] [] (.sc (.int .u64 (m : Int))) [] := by
 obtain ⟨t, t1, t2, t3, t4⟩ := len16_ok x h1 hx
 refine ⟨2 ^ t, Nat.pow_pos (by omega), t3, o85 _ _ trivial (r85_e _ _ ?_)⟩
 rw [wrap_u64 (by omega) (by omega)]
 refine ⟨(t : Int), t4, by omega, ?_⟩
 have hm : min t IntKind.u64.bits = t := Nat.min_eq_left (show t ≤ 64 by omega)
 have e : IntKind.u64.wrap (1 * 2 ^ min (t : Int).toNat IntKind.u64.bits) = ((2 ^ t : Nat) : Int) := by
  rw [tn_, hm, Int.one_mul, show ((2 : Int) ^ t) = ((2 ^ t : Nat) : Int) by rw [Int.natCast_pow]; rfl]
  exact wrap_u64 (Int.natCast_nonneg _) (by omega)
 rw [e]
 exact Sub.refl _
theorem u64range (x : Int) : 0 ≤ IntKind.u64.wrap x ∧ IntKind.u64.wrap x < 18446744073709551616 := by
 unfold IntKind.wrap
 simp only [IntKind.signed, IntKind.bits]
 simp
 omega
abbrev xBlk (x : Int) : List (Nat × Nat × AV) := [(2000, 115, .sc (.int .u64 x))]
theorem next_ok (x : Int) : ∃ y : Int, 0 ≤ y ∧ y < 18446744073709551616 ∧ Ok Proofs.Try.prog 86 [.pt 2000 [] 0] (xBlk x) (.sc (.int .u64 y)) (xBlk y) := by
 refine ⟨_, (u64range _).1, (u64range _).2, o86 _ _ _ ⟨trivial, fun q hq => ?_⟩ rfl (r86_e _ _ _ ⟨by omega, by omega, by omega, Sub.refl _, rfl, rfl, SubB.refl _, trivial⟩)⟩
 simp only [ms_] at hq; subst hq; exact trivial
section
variable (N n a b : Nat) (hN : n ≤ N) (hb : b ≤ n) (hn : n ≤ 4096) (f0 : Nat → Int)
include hN hb hn
theorem break_loop (hab : 8 ≤ b - a) (m : Nat) (h1 : 1 ≤ m) (h2 : m ≤ 2 * (b - a)) : ∀ (k i : Nat) (f : Nat → Int) (x : Int), i + k = a + (b - a) / 4 * 2 + 2 → a + (b - a) / 4 * 2 ≤ i + 1 → Shuf a b f0 f →
  ∃ g, Shuf a b f0 g ∧ L75_0 n (a : Int) ((b - a : Nat) : Int) (m : Int) (i : Int) N f x AV.nil.tup (sBlk N g) := by
 have e1 : IntKind.i64.wrap ((((b - a : Nat) : Int)).tdiv 4) = (((b - a) / 4 : Nat) : Int) := by rw [Int.tdiv_eq_ediv_of_nonneg (by omega), wrap_i64 (by omega) (by omega)]; rfl
 have e2 : IntKind.i64.wrap ((((b - a) / 4 : Nat) : Int) * 2) = (((b - a) / 4 * 2 : Nat) : Int) := by rw [wrap_i64 (by omega) (by omega)]; omega
 intro k
 induction k with
 | zero =>
  intro i f x hi hia hS
  refine ⟨f, hS, ?_⟩
  apply r75_0
  rw [e1, e2, wA (by omega) (by omega), wrapSucc (by omega)]
  exact ⟨fun h => by have := dt_ h; omega, fun _ => ⟨Sub.refl _, sOut fun _ => rfl⟩⟩
 | succ k ih =>
  intro i f x hi hia hS
  obtain ⟨y, y1, y2, y3⟩ := next_ok x
  obtain ⟨q, rfl⟩ : ∃ q : Nat, y = q := ⟨y.toNat, by omega⟩
  have hq := Nat.and_le_right (n := q) (m := m - 1)
  have ew : IntKind.u64.wrap ((m : Int) - 1) = ((m - 1 : Nat) : Int) := by rw [wrap_u64 (by omega) (by omega)]; omega
  have ea : IntKind.i64.wrap (IntKind.u64.wrap (((BitVec.ofInt IntKind.u64.bits (q : Int) &&& BitVec.ofInt IntKind.u64.bits (IntKind.u64.wrap ((m : Int) - 1))).toNat : Nat) : Int)) = ((q &&& (m - 1) : Nat) : Int) := by
   rw [ew, and64 (by omega) (by omega), wrap_i64 (by omega) (by omega)]
  have go : ∀ o : Nat, o < b - a → ∃ g, Shuf a b f0 g ∧ L75_1 n (a : Int) ((b - a : Nat) : Int) (m : Int) (i : Int) (o : Int) N f (q : Int) AV.nil.tup (sBlk N g) := fun o ho => by
   obtain ⟨g, g1, g2⟩ := ih (i + 1) (swapF f (a + o) i) (q : Int) (by omega) (by omega) (hS.trans (Shuf.swap f (by omega) (by omega) (by omega) (by omega)))
   refine ⟨g, g1, ?_⟩
   apply r75_1
   rw [wA (by omega) (by omega)]
   simp only [tn_]
   refine ⟨⟨by omega, by omega⟩, by omega, ⟨by omega, by omega⟩, by omega, ?_⟩
   apply r75_2
   rw [wrapSucc (n := i) (by omega), bifSwap]
   exact g2
  by_cases hge : b - a ≤ (q &&& (m - 1))
  ·obtain ⟨g, g1, g2⟩ := go ((q &&& (m - 1)) - (b - a)) (by omega)
   refine ⟨g, g1, ?_⟩
   apply r75_0
   rw [e1, e2, wA (by omega) (by omega), wrapSucc (by omega)]
   refine ⟨fun _ => ⟨((q : Int), (q : Int)), y3, ?_⟩, fun h => by have := df_ h; omega⟩
   dsimp only
   rw [ea, wB hge (by omega)]
   exact ⟨fun _ => g2, fun h => by have := df_ h; omega⟩
  ·obtain ⟨g, g1, g2⟩ := go (q &&& (m - 1)) (by omega)
   refine ⟨g, g1, ?_⟩
   apply r75_0
   rw [e1, e2, wA (by omega) (by omega), wrapSucc (by omega)]
   refine ⟨fun _ => ⟨((q : Int), (q : Int)), y3, ?_⟩, fun h => by have := df_ h; omega⟩
   dsimp only
   rw [ea]
   exact ⟨fun h => by have := dt_ h; omega, fun _ => g2⟩
theorem break_ok (hab : 12 < b - a) : ∃ g, Shuf a b f0 g ∧ Ok Proofs.Try.prog 75 [.rf 2000 1 0 n, .sc (.int .i64 (a : Int)), .sc (.int .i64 (b : Int))] (sBlk N f0) AV.nil.tup (sBlk N g) := by
 obtain ⟨m, m1, m2, m3⟩ := npow_ok (b - a) (by omega) (by omega)
 obtain ⟨g, g1, g2⟩ := break_loop N n a b hN hb hn f0 (by omega) m m1 m2 3 (a + (b - a) / 4 * 2 - 1) f0 ((b - a : Nat) : Int) (by omega) (by omega) (Shuf.refl _ _ _)
 refine ⟨g, g1, o75 _ _ _ _ _ _ _ ⟨trivial, fun q hq => ?_⟩ rfl ?_⟩
 ·simp only [ms_] at hq; subst hq; exact fun _ _ => trivial
 apply r75_e
 have e1 : IntKind.i64.wrap ((((b - a : Nat) : Int)).tdiv 4) = (((b - a) / 4 : Nat) : Int) := by rw [Int.tdiv_eq_ediv_of_nonneg (by omega), wrap_i64 (by omega) (by omega)]; rfl
 have e2 : IntKind.i64.wrap ((((b - a) / 4 : Nat) : Int) * 2) = (((b - a) / 4 * 2 : Nat) : Int) := by rw [wrap_i64 (by omega) (by omega)]; omega
 rw [wB (n := a) (m := b) (by omega) (by omega), e1, e2, wA (n := a) (m := (b - a) / 4 * 2) (by omega) (by omega), wP (m := a + (b - a) / 4 * 2) (by omega) (by omega), wrap_u64 (n := ((b - a : Nat) : Int)) (by omega) (by omega)]
 exact ⟨fun _ => ⟨(m : Int), m3, g2⟩, fun h => by have := df_ h; omega⟩
end
abbrev wBlk (x : Int) : List (Nat × Nat × AV) := [(2000, 3, .sc (.int .i64 x))]
theorem wnew (x : Int) : ∀ q ∈ wBlk x, newOnly q.2.2 := fun q hq => by
 simp only [ms_] at hq; subst hq; exact trivial
section
variable (n : Nat) (f : Nat → Int)
theorem order_ok (x y : Nat) (hx : x < n) (hy : y < n) (s : Int) : ∃ (u v : Nat) (t : Int), (u = x ∨ u = y) ∧ (v = x ∨ v = y) ∧ Ok Proofs.Try.prog 90 [rowA n f, .sc (.int .i64 (x : Int)), .sc (.int .i64 (y : Int)), .pt 2000 [] 0] (wBlk s) ((.cons 1 (.sc (.int .i64 (u : Int))) (.cons 1 (.sc (.int .i64 (v : Int))) .nil) : AV).tup) (wBlk t) := by
 by_cases h : f y < f x
 ·refine ⟨y, x, IntKind.i64.wrap (s + 1), .inr rfl, .inl rfl, o90 _ _ _ _ _ _ _ ⟨⟨trivial, trivial, trivial⟩, wnew _⟩ rfl (r90_e _ _ _ _ _ _ _ ?_)⟩
  simp only [tn_]
  exact ⟨⟨by omega, by omega⟩, ⟨by omega, by omega⟩, decide (f y < f x), less_ok _ _, fun _ => ⟨Sub.refl _, rfl, rfl, SubB.refl _, trivial⟩, fun h' => absurd h (df_ h')⟩
 ·refine ⟨x, y, s, .inl rfl, .inr rfl, o90 _ _ _ _ _ _ _ ⟨⟨trivial, trivial, trivial⟩, wnew _⟩ rfl (r90_e _ _ _ _ _ _ _ ?_)⟩
  simp only [tn_]
  exact ⟨⟨by omega, by omega⟩, ⟨by omega, by omega⟩, decide (f y < f x), less_ok _ _, fun h' => absurd (dt_ h') h, fun _ => ⟨Sub.refl _, rfl, rfl, SubB.refl _, trivial⟩⟩
theorem median_ok (x y z : Nat) (hx : x < n) (hy : y < n) (hz : z < n) (s : Int) : ∃ (u : Nat) (t : Int), (u = x ∨ u = y ∨ u = z) ∧ Ok Proofs.Try.prog 88 [rowA n f, .sc (.int .i64 (x : Int)), .sc (.int .i64 (y : Int)), .sc (.int .i64 (z : Int)), .pt 2000 [] 0] (wBlk s) (.sc (.int .i64 (u : Int))) (wBlk t) := by
 obtain ⟨u1, v1, t1, p1, q1, o1⟩ := order_ok n f x y hx hy s
 obtain ⟨u2, v2, t2, p2, q2, o2⟩ := order_ok n f v1 z (by omega) hz t1
 obtain ⟨u3, v3, t3, p3, q3, o3⟩ := order_ok n f u1 u2 (by omega) (by omega) t2
 refine ⟨v3, t3, by omega, o88 _ _ _ _ _ _ _ _ ⟨trivial, wnew _⟩ rfl (r88_e _ _ _ _ _ _ _ _ ?_)⟩
 exact ⟨((u1 : Int), (v1 : Int), t1), o1, ((u2 : Int), (v2 : Int), t2), o2, ((u3 : Int), (v3 : Int), t3), o3, Sub.refl _, rfl, rfl, SubB.refl _, trivial⟩
theorem adj_ok (hn : n ≤ 4096) (x : Nat) (h1 : 1 ≤ x) (hx : x + 1 < n) (s : Int) : ∃ (u : Nat) (t : Int), x ≤ u + 1 ∧ u ≤ x + 1 ∧ Ok Proofs.Try.prog 87 [rowA n f, .sc (.int .i64 (x : Int)), .pt 2000 [] 0] (wBlk s) (.sc (.int .i64 (u : Int))) (wBlk t) := by
 obtain ⟨u, t, p, o⟩ := median_ok n f (x - 1) x (x + 1) (by omega) (by omega) (by omega) s
 refine ⟨u, t, by omega, by omega, o87 _ _ _ _ _ _ ⟨trivial, wnew _⟩ rfl (r87_e _ _ _ _ _ _ ?_)⟩
 rw [wP (m := x) h1 (by omega), wrapSucc (n := x) (by omega)]
 exact ⟨((u : Int), t), o, Sub.refl _, rfl, rfl, SubB.refl _, trivial⟩
theorem choose_ok (hn : n ≤ 4096) (a b : Nat) (hab : 12 < b - a) (hb : b ≤ n) : ∃ (p : Nat) (h : Int), a ≤ p ∧ p < b ∧ Ok Proofs.Try.prog 76 [rowA n f, .sc (.int .i64 (a : Int)), .sc (.int .i64 (b : Int))] [] ((.cons 1 (.sc (.int .i64 (p : Int))) (.cons 1 (.sc (.int .i64 h)) .nil) : AV).tup) [] := by
 have e0 : IntKind.i64.wrap ((((b - a : Nat) : Int)).tdiv 4) = (((b - a) / 4 : Nat) : Int) := by rw [Int.tdiv_eq_ediv_of_nonneg (by omega), wrap_i64 (by omega) (by omega)]; rfl
 have ek : ∀ k : Nat, k ≤ 3 → IntKind.i64.wrap ((a : Int) + IntKind.i64.wrap ((((b - a) / 4 : Nat) : Int) * (k : Int))) = ((a + (b - a) / 4 * k : Nat) : Int) := fun k hk => by
  have h1 : (((b - a) / 4 : Nat) : Int) * (k : Int) = (((b - a) / 4 * k : Nat) : Int) := by rw [Int.natCast_mul]
  have h2 : (b - a) / 4 * k ≤ 4096 * 3 := Nat.mul_le_mul (by omega) hk
  rw [h1, wrap_i64 (n := (((b - a) / 4 * k : Nat) : Int)) (by omega) (by omega), wA (by omega) (by omega)]
 have e1 := ek 1 (by omega)
 have e2 := ek 2 (by omega)
 have e3 := ek 3 (by omega)
 have fin : ∀ (j : Nat) (s : Int), ∃ h : Int, L76_1 (j : Int) s ((.cons 1 (.sc (.int .i64 (j : Int))) (.cons 1 (.sc (.int .i64 h)) .nil) : AV).tup) := fun j s => by
  by_cases h0 : s = 0
  ·exact ⟨1, r76_1 _ _ _ ⟨fun _ => Sub.refl _, fun h => by rw [h0] at h; cases h⟩⟩
  ·by_cases h12 : s = 12
   ·exact ⟨2, r76_1 _ _ _ ⟨fun h => absurd (by simpa using h) h0, fun _ => ⟨fun _ => Sub.refl _, fun h => by rw [h12] at h; cases h⟩⟩⟩
   ·exact ⟨0, r76_1 _ _ _ ⟨fun h => absurd (by simpa using h) h0, fun _ => ⟨fun h => absurd (by simpa using h) h12, fun _ => Sub.refl _⟩⟩⟩
 have mid : ∀ (x y z : Nat) (s : Int), a ≤ x → x < b → a ≤ y → y < b → a ≤ z → z < b → ∃ (p : Nat) (h : Int), a ≤ p ∧ p < b ∧ L76_0 n f (x : Int) (y : Int) (z : Int) s ((.cons 1 (.sc (.int .i64 (p : Int))) (.cons 1 (.sc (.int .i64 h)) .nil) : AV).tup) := fun x y z s hx1 hx2 hy1 hy2 hz1 hz2 => by
  obtain ⟨u, t, pu, ou⟩ := median_ok n f x y z (by omega) (by omega) (by omega) s
  obtain ⟨h, hL⟩ := fin u t
  exact ⟨u, h, by omega, by omega, r76_0 _ _ _ _ _ _ _ ⟨((u : Int), t), ou, hL⟩⟩
 have h4 : (b - a) / 4 * 1 ≤ (b - a) / 4 ∧ (b - a) / 4 * 2 ≤ (b - a) / 4 + (b - a) / 4 ∧ (b - a) / 4 * 3 ≤ (b - a) / 4 + (b - a) / 4 + (b - a) / 4 := by omega
 by_cases h50 : 50 ≤ b - a
 ·obtain ⟨u1, s1, p1, q1, o1⟩ := adj_ok n f hn (a + (b - a) / 4 * 1) (by omega) (by omega) 0
  obtain ⟨u2, s2, p2, q2, o2⟩ := adj_ok n f hn (a + (b - a) / 4 * 2) (by omega) (by omega) s1
  obtain ⟨u3, s3, p3, q3, o3⟩ := adj_ok n f hn (a + (b - a) / 4 * 3) (by omega) (by omega) s2
  obtain ⟨p, h, k1, k2, k3⟩ := mid u1 u2 u3 s3 (by omega) (by omega) (by omega) (by omega) (by omega) (by omega)
  refine ⟨p, h, k1, k2, o76 _ _ _ _ _ ⟨trivial, trivial, trivial⟩ (r76_e _ _ _ _ _ ?_)⟩
  rw [wB (n := a) (m := b) (by omega) (by omega), e0]
  have e1 : IntKind.i64.wrap ((a : Int) + IntKind.i64.wrap ((((b - a) / 4 : Nat) : Int) * 1)) = ((a + (b - a) / 4 * 1 : Nat) : Int) := e1
  have e2 : IntKind.i64.wrap ((a : Int) + IntKind.i64.wrap ((((b - a) / 4 : Nat) : Int) * 2)) = ((a + (b - a) / 4 * 2 : Nat) : Int) := e2
  have e3 : IntKind.i64.wrap ((a : Int) + IntKind.i64.wrap ((((b - a) / 4 : Nat) : Int) * 3)) = ((a + (b - a) / 4 * 3 : Nat) : Int) := e3
  rw [e1, e2, e3]
  exact ⟨fun _ => ⟨fun _ => ⟨((u1 : Int), s1), o1, ((u2 : Int), s2), o2, ((u3 : Int), s3), o3, k3⟩, fun h => by have := df_ h; omega⟩, fun h => by have := df_ h; omega⟩
 ·obtain ⟨p, h, k1, k2, k3⟩ := mid (a + (b - a) / 4 * 1) (a + (b - a) / 4 * 2) (a + (b - a) / 4 * 3) 0 (by omega) (by omega) (by omega) (by omega) (by omega) (by omega)
  refine ⟨p, h, k1, k2, o76 _ _ _ _ _ ⟨trivial, trivial, trivial⟩ (r76_e _ _ _ _ _ ?_)⟩
  rw [wB (n := a) (m := b) (by omega) (by omega), e0]
  have e1 : IntKind.i64.wrap ((a : Int) + IntKind.i64.wrap ((((b - a) / 4 : Nat) : Int) * 1)) = ((a + (b - a) / 4 * 1 : Nat) : Int) := e1
  have e2 : IntKind.i64.wrap ((a : Int) + IntKind.i64.wrap ((((b - a) / 4 : Nat) : Int) * 2)) = ((a + (b - a) / 4 * 2 : Nat) : Int) := e2
  have e3 : IntKind.i64.wrap ((a : Int) + IntKind.i64.wrap ((((b - a) / 4 : Nat) : Int) * 3)) = ((a + (b - a) / 4 * 3 : Nat) : Int) := e3
  rw [e1, e2, e3]
  exact ⟨fun _ => ⟨fun h => by have := dt_ h; omega, fun _ => k3⟩, fun h => by have := df_ h; omega⟩
end
end Go.Am.Seat

namespace Go.Am.Seat
open Go Go.Am

structure InsAt (a i j : Nat) (f : Nat → Int) : Prop where
 aj : a ≤ j
 ji : j < i
 ok : ∀ x y, a ≤ x → x < y → y < i → x ≠ j → y ≠ j → f x ≤ f y
 up : ∀ y, j < y → y < i → f j ≤ f y
theorem InsAt.start {a i : Nat} {f : Nat → Int} (ha : a < i) (h : Srt a i f) : InsAt a i (i - 1) (swapF f (i - 1) i) :=
 ⟨by omega, by omega, fun x y h1 h2 h3 h4 h5 => by
  rw [swapF_ne h4 (by omega), swapF_ne h5 (by omega)]
  exact h x y h1 h2 h3, fun y h1 h2 => by omega⟩
theorem InsAt.step {a i j : Nat} {f : Nat → Int} (h : InsAt a i j f) (hj : a < j) (hlt : f j < f (j - 1)) : InsAt a i (j - 1) (swapF f (j - 1) j) := by
 have h1 := h.ji
 refine ⟨by omega, by omega, fun x y k1 k2 k3 k4 k5 => ?_, fun y k1 k2 => ?_⟩
 ·by_cases ex : x = j
  ·subst ex
   rw [swapF_r, swapF_ne (by omega) (by omega)]
   exact h.ok (x - 1) y (by omega) (by omega) k3 (by omega) (by omega)
  ·rw [swapF_ne k4 ex]
   by_cases ey : y = j
   ·subst ey
    rw [swapF_r]
    by_cases e : x = y - 1
    ·omega
    ·exact h.ok x (y - 1) k1 (by omega) (by omega) ex (by omega)
   ·rw [swapF_ne k5 ey]
    exact h.ok x y k1 k2 k3 ex ey
 ·rw [swapF_l]
  by_cases ey : y = j
  ·subst ey; rw [swapF_r]; omega
  ·rw [swapF_ne (by omega) ey]
   exact h.up y (by omega) k2
theorem InsAt.stop {a i j : Nat} {f : Nat → Int} (h : InsAt a i j f) (hs : a < j → f (j - 1) ≤ f j) : Srt a i f := by
 intro x y h1 h2 h3
 by_cases ex : x = j
 ·subst ex; exact h.up y h2 h3
 ·by_cases ey : y = j
  ·subst ey
   have := hs (by omega)
   by_cases e : x = y - 1
   ·subst e; exact this
   ·exact Int.le_trans (h.ok x (y - 1) h1 (by omega) (by omega) ex (by omega)) this
  ·exact h.ok x y h1 h2 h3 ex ey
def Ahead (a b : Nat) (f : Nat → Int) : Prop := 0 < a → ∀ k, a ≤ k → k < b → f (a - 1) ≤ f k
theorem Ahead.shuf {a b : Nat} {f g : Nat → Int} (h : Ahead a b f) (hS : Shuf a b f g) : Ahead a b g := fun h0 k h1 h2 => by
 rw [hS.out (by omega)]
 exact hS.all (P := fun x => f (a - 1) ≤ x) (fun i k1 k2 => h h0 i k1 k2) k h1 h2
section
variable (N n a b : Nat) (hN : n ≤ N) (hb : b ≤ n) (hn : n ≤ 4096) (f0 : Nat → Int) (hA : Ahead a b f0) (hab : 12 < b - a)
def PPost (a b : Nat) (f0 g : Nat → Int) (t : Bool) : Prop := Shuf a b f0 g ∧ (t = true → Srt a b g)
include hN hb hn
theorem pi_right (i : Nat) (hai : a < i) (hib : i < b) (j : Int) (P : (Nat → Int) → Bool → Prop) (K : ∀ f, Shuf a b f0 f → Srt a i f → ∃ g t, P g t ∧ L78_5 n (a : Int) (b : Int) (i : Int) j N f (.sc (.bool t)) (sBlk N g)) :
  ∀ (m q : Nat) (f : Nat → Int), q + m = b → i < q → Shuf a b f0 f → Srt a i f → ∃ g t, P g t ∧ L78_4 n (a : Int) (b : Int) (i : Int) j (q : Int) N f (.sc (.bool t)) (sBlk N g) := by
 intro m
 induction m with
 | zero =>
  intro q f hq hiq hS hT
  obtain ⟨g, t, k1, k2⟩ := K f hS hT
  refine ⟨g, t, k1, ?_⟩
  apply r78_4
  exact ⟨fun h => by have := dt_ h; omega, fun _ => k2⟩
 | succ m ih =>
  intro q f hq hiq hS hT
  by_cases hlt : f q < f (q - 1)
  ·obtain ⟨g, t, k1, k2⟩ := ih (q + 1) (swapF f (q - 1) q) (by omega) (by omega) (hS.trans (Shuf.swap f (by omega) (by omega) (by omega) (by omega))) (fun x y h1 h2 h3 => by
    rw [swapF_ne (by omega) (by omega), swapF_ne (by omega) (by omega)]; exact hT x y h1 h2 h3)
   refine ⟨g, t, k1, ?_⟩
   apply r78_4
   simp only [wP (m := q) (show 1 ≤ q by omega) (show q ≤ 3000000000 by omega), tn_]
   rw [wrapSucc (n := q) (by omega), bifSwap f (q - 1) q]
   refine ⟨fun _ => ⟨⟨by omega, by omega⟩, by omega, ⟨by omega, by omega⟩, by omega, decide (f q < f (q - 1)), less_ok _ _, fun h => ?_, fun _ => k2⟩, fun h => by have := df_ h; omega⟩
   rw [decide_eq_true hlt] at h; cases h
  ·obtain ⟨g, t, k1, k2⟩ := K f hS hT
   refine ⟨g, t, k1, ?_⟩
   apply r78_4
   simp only [wP (m := q) (show 1 ≤ q by omega) (show q ≤ 3000000000 by omega), tn_]
   refine ⟨fun _ => ⟨⟨by omega, by omega⟩, by omega, ⟨by omega, by omega⟩, by omega, decide (f q < f (q - 1)), less_ok _ _, fun _ => k2, fun h => ?_⟩, fun h => by have := df_ h; omega⟩
   rw [decide_eq_false hlt] at h; cases h
include hA
theorem pi_left (i : Nat) (hai : a < i) (hib : i < b) (j : Int) (P : (Nat → Int) → Bool → Prop) (K : ∀ f, Shuf a b f0 f → Srt a i f → ∃ g t, P g t ∧ L78_3 n (a : Int) (b : Int) (i : Int) j N f (.sc (.bool t)) (sBlk N g)) :
  ∀ (q : Nat) (f : Nat → Int), Shuf a b f0 f → InsAt a i q f → ∃ g t, P g t ∧ L78_2 n (a : Int) (b : Int) (i : Int) j (q : Int) N f (.sc (.bool t)) (sBlk N g) := by
 intro q
 induction q with
 | zero =>
  intro f hS hI
  obtain ⟨g, t, k1, k2⟩ := K f hS (hI.stop fun h => by omega)
  refine ⟨g, t, k1, ?_⟩
  apply r78_2
  exact ⟨fun h => by have := dt_ h; omega, fun _ => k2⟩
 | succ q ih =>
  intro f hS hI
  have h1 := hI.ji
  have h2 := hI.aj
  by_cases hlt : f (q + 1) < f q
  ·have haq : a < q + 1 := by
    by_cases e : a = q + 1
    ·subst e
     have := (hA.shuf hS) (by omega) (q + 1) (lr_ _) (by omega)
     rw [Nat.add_sub_cancel] at this
     omega
    ·omega
   obtain ⟨g, t, k1, k2⟩ := ih (swapF f q (q + 1)) (hS.trans (Shuf.swap f (by omega) (by omega) (by omega) (by omega))) (hI.step haq hlt)
   refine ⟨g, t, k1, ?_⟩
   apply r78_2
   have ew : IntKind.i64.wrap (((q + 1 : Nat) : Int) - 1) = (q : Int) := by rw [wP (m := q + 1) (by omega) (by omega)]; rfl
   simp only [ew, tn_]
   rw [bifSwap f q (q + 1)]
   refine ⟨fun _ => ⟨⟨by omega, by omega⟩, by omega, ⟨by omega, by omega⟩, by omega, decide (f (q + 1) < f q), less_ok _ _, fun h => ?_, fun _ => k2⟩, fun h => by have := df_ h; omega⟩
   rw [decide_eq_true hlt] at h; cases h
  ·obtain ⟨g, t, k1, k2⟩ := K f hS (hI.stop fun h => by rw [Nat.add_sub_cancel]; omega)
   refine ⟨g, t, k1, ?_⟩
   apply r78_2
   have ew : IntKind.i64.wrap (((q + 1 : Nat) : Int) - 1) = (q : Int) := by rw [wP (m := q + 1) (by omega) (by omega)]; rfl
   simp only [ew, tn_]
   refine ⟨fun _ => ⟨⟨by omega, by omega⟩, by omega, ⟨by omega, by omega⟩, by omega, decide (f (q + 1) < f q), less_ok _ _, fun _ => k2, fun h => ?_⟩, fun h => by have := df_ h; omega⟩
   rw [decide_eq_false hlt] at h; cases h
include hab
theorem pi_walk (j : Nat) (hj : j < 5) (K : ∀ i f, a < i → i < b → Shuf a b f0 f → Srt a i f → ∃ g t, PPost a b f0 g t ∧ L78_5 n (a : Int) (b : Int) (i : Int) (j : Int) N f (.sc (.bool t)) (sBlk N g)) :
  ∀ (m i : Nat) (f : Nat → Int), i + m = b → a < i → Shuf a b f0 f → Srt a i f → ∃ g t, PPost a b f0 g t ∧ L78_1 n (a : Int) (b : Int) (i : Int) (j : Int) N f (.sc (.bool t)) (sBlk N g) := by
 intro m
 induction m with
 | zero =>
  intro i f hi hai hS hT
  obtain rfl : i = b := by omega
  refine ⟨f, true, ⟨hS, fun _ => hT⟩, ?_⟩
  apply r78_1
  refine ⟨fun h => by have := dt_ h; omega, fun _ => ⟨fun _ => ⟨Sub.refl _, sOut fun _ => rfl⟩, fun h => ?_⟩⟩
  simp at h
 | succ m ih =>
  intro i f hi hai hS hT
  have hib : i < b := by omega
  have hne : ((i : Int) == (b : Int)) = false := by rw [beq_eq_false_iff_ne]; omega
  by_cases hlt : f i < f (i - 1)
  ·by_cases h50 : b - a < 50
   ·refine ⟨f, false, ⟨hS, fun h => by cases h⟩, ?_⟩
    apply r78_1
    simp only [wP (m := i) (show 1 ≤ i by omega) (show i ≤ 3000000000 by omega), wB (n := a) (m := b) (show a ≤ b by omega) (show b ≤ 3000000000 by omega), tn_]
    refine ⟨fun _ => ⟨⟨by omega, by omega⟩, by omega, ⟨by omega, by omega⟩, by omega, decide (f i < f (i - 1)), less_ok _ _, fun h => ?_, fun _ => ⟨fun h => ?_, fun _ => ⟨fun _ => ⟨Sub.refl _, sOut fun _ => rfl⟩, fun h => by have := df_ h; omega⟩⟩⟩, fun h => ?_⟩
    ·rw [decide_eq_true hlt] at h; cases h
    ·rw [hne] at h; cases h
    ·have h : decide ((i : Int) < (b : Int)) = false := h
     have := df_ h; omega
   ·-- two are exchanged; the smaller one goes to the left, the greater one to the right
    have hS' : Shuf a b f0 (swapF f (i - 1) i) := hS.trans (Shuf.swap f (by omega) (by omega) (by omega) (by omega))
    have right : ∀ f, Shuf a b f0 f → Srt a i f → ∃ g t, PPost a b f0 g t ∧ L78_3 n (a : Int) (b : Int) (i : Int) (j : Int) N f (.sc (.bool t)) (sBlk N g) := fun f hS hT => by
     by_cases h2 : 2 ≤ b - i
     ·obtain ⟨g, t, k1, k2⟩ := pi_right N n a b hN hb hn f0 i hai hib (j : Int) (PPost a b f0) (fun f h1 h2 => K i f hai hib h1 h2) (b - (i + 1)) (i + 1) f (by omega) (by omega) hS hT
      refine ⟨g, t, k1, ?_⟩
      apply r78_3
      rw [wB (n := i) (m := b) (by omega) (by omega), wrapSucc (n := i) (by omega)]
      exact ⟨fun _ => k2, fun h => by have := df_ h; omega⟩
     ·obtain ⟨g, t, k1, k2⟩ := K i f hai hib hS hT
      refine ⟨g, t, k1, ?_⟩
      apply r78_3
      rw [wB (n := i) (m := b) (by omega) (by omega)]
      exact ⟨fun h => by have := dt_ h; omega, fun _ => k2⟩
    have left : ∃ g t, PPost a b f0 g t ∧ ((2 ≤ i - a → L78_2 n (a : Int) (b : Int) (i : Int) (j : Int) ((i - 1 : Nat) : Int) N (swapF f (i - 1) i) (.sc (.bool t)) (sBlk N g)) ∧ (¬ 2 ≤ i - a → L78_3 n (a : Int) (b : Int) (i : Int) (j : Int) N (swapF f (i - 1) i) (.sc (.bool t)) (sBlk N g))) := by
     by_cases h2 : 2 ≤ i - a
     ·obtain ⟨g, t, k1, k2⟩ := pi_left N n a b hN hb hn f0 hA i hai hib (j : Int) (PPost a b f0) right (i - 1) (swapF f (i - 1) i) hS' (InsAt.start hai hT)
      exact ⟨g, t, k1, fun _ => k2, fun h => absurd h2 h⟩
     ·obtain ⟨g, t, k1, k2⟩ := right (swapF f (i - 1) i) hS' (fun x y h1 h2 h3 => by omega)
      exact ⟨g, t, k1, fun h => absurd h h2, fun _ => k2⟩
    obtain ⟨g, t, k1, k2, k3⟩ := left
    refine ⟨g, t, k1, ?_⟩
    apply r78_1
    simp only [wP (m := i) (show 1 ≤ i by omega) (show i ≤ 3000000000 by omega), wB (n := a) (m := b) (show a ≤ b by omega) (show b ≤ 3000000000 by omega), wB (n := a) (m := i) (show a ≤ i by omega) (show i ≤ 3000000000 by omega), tn_]
    rw [bifSwap f (i - 1) i]
    refine ⟨fun _ => ⟨⟨by omega, by omega⟩, by omega, ⟨by omega, by omega⟩, by omega, decide (f i < f (i - 1)), less_ok _ _, fun h => ?_, fun _ => ⟨fun h => ?_, fun _ => ⟨fun h => ?_, fun _ => ⟨fun h => k2 (by have := dt_ h; omega), fun h => k3 (by have := df_ h; omega)⟩⟩⟩⟩, fun h => ?_⟩
    ·rw [decide_eq_true hlt] at h; cases h
    ·rw [hne] at h; cases h
    ·have := dt_ h; omega
    ·have h : decide ((i : Int) < (b : Int)) = false := h
     have := df_ h; omega
  ·obtain ⟨g, t, k1, k2⟩ := ih (i + 1) f (by omega) (by omega) hS (fun x y h1 h2 h3 => by
    by_cases e : y = i
    ·subst e
     by_cases e2 : x = y - 1
     ·subst e2; omega
     ·exact Int.le_trans (hT x (y - 1) h1 (by omega) (by omega)) (by omega)
    ·exact hT x y h1 h2 (by omega))
   refine ⟨g, t, k1, ?_⟩
   apply r78_1
   simp only [wP (m := i) (show 1 ≤ i by omega) (show i ≤ 3000000000 by omega), tn_]
   rw [wrapSucc (n := i) (by omega)]
   refine ⟨fun _ => ⟨⟨by omega, by omega⟩, by omega, ⟨by omega, by omega⟩, by omega, decide (f i < f (i - 1)), less_ok _ _, fun _ => k2, fun h => ?_⟩, fun h => ?_⟩
   ·rw [decide_eq_false hlt] at h; cases h
   ·have h : decide ((i : Int) < (b : Int)) = false := h
    have := df_ h; omega
theorem pi_loop : ∀ (m j i : Nat) (f : Nat → Int), j + m = 5 → a < i → i ≤ b → Shuf a b f0 f → Srt a i f → ∃ g t, PPost a b f0 g t ∧ L78_0 n (a : Int) (b : Int) (i : Int) (j : Int) N f (.sc (.bool t)) (sBlk N g) := by
 intro m
 induction m with
 | zero =>
  intro j i f hj hai hib hS hT
  refine ⟨f, false, ⟨hS, fun h => by cases h⟩, ?_⟩
  apply r78_0
  exact ⟨fun h => by have := dt_ h; omega, fun _ => ⟨Sub.refl _, sOut fun _ => rfl⟩⟩
 | succ m ih =>
  intro j i f hj hai hib hS hT
  obtain ⟨g, t, k1, k2⟩ := pi_walk N n a b hN hb hn f0 hA hab j (by omega) (fun i f h1 h2 h3 h4 => by
   obtain ⟨g, t, k1, k2⟩ := ih (j + 1) i f (by omega) h1 (by omega) h3 h4
   refine ⟨g, t, k1, ?_⟩
   apply r78_5
   rw [wrapSucc (n := j) (by omega)]
   exact k2) (b - i) i f (by omega) hai hS hT
  refine ⟨g, t, k1, ?_⟩
  apply r78_0
  exact ⟨fun _ => k2, fun h => by have := df_ h; omega⟩
theorem partial_ok : ∃ g t, PPost a b f0 g t ∧ Ok Proofs.Try.prog 78 [.rf 2000 1 0 n, .sc (.int .i64 (a : Int)), .sc (.int .i64 (b : Int))] (sBlk N f0) (.sc (.bool t)) (sBlk N g) := by
 obtain ⟨g, t, k1, k2⟩ := pi_loop N n a b hN hb hn f0 hA hab 5 0 (a + 1) f0 rfl (by omega) (by omega) (Shuf.refl _ _ _) (fun x y h1 h2 h3 => by omega)
 refine ⟨g, t, k1, o78 _ _ _ _ _ _ _ ⟨trivial, fun q hq => ?_⟩ rfl ?_⟩
 ·simp only [ms_] at hq; subst hq; exact fun _ _ => trivial
 apply r78_e
 rw [wrapSucc (n := a) (by omega)]
 exact k2
end
end Go.Am.Seat

namespace Go.Am.Seat
open Go Go.Am

theorem Srt.join {a m b : Nat} {g : Nat → Int} (h1 : Srt a m g) (h2 : Srt m b g) (h : ∀ x y, a ≤ x → x < m → m ≤ y → y < b → g x ≤ g y) : Srt a b g := by
 intro x y k1 k2 k3
 by_cases hy : y < m
 ·exact h1 x y k1 k2 hy
 ·by_cases hx : x < m
  ·exact h x y k1 hx (by omega) k3
  ·exact h2 x y (by omega) k2 k3
section
variable (N n : Nat) (hN : n ≤ N) (hn : n ≤ 4096)
def PdqL (L : Nat) : Prop := ∀ (a b : Nat) (f : Nat → Int) (limit : Int) (wb wp : Bool), b - a ≤ L → a ≤ b → b ≤ n → Ahead a b f → ∃ g, Shuf a b f g ∧ Srt a b g ∧ L70_0 n (a : Int) (b : Int) limit wb wp N f AV.nil.tup (sBlk N g)
theorem pdq_call {L : Nat} (h : PdqL N n L) (a b : Nat) (f : Nat → Int) (limit : Int) (h1 : b - a ≤ L) (h2 : a ≤ b) (h3 : b ≤ n) (h4 : Ahead a b f) :
  ∃ g, Shuf a b f g ∧ Srt a b g ∧ Ok Proofs.Try.prog 70 [.rf 2000 1 0 n, .sc (.int .i64 (a : Int)), .sc (.int .i64 (b : Int)), .sc (.int .i64 limit)] (sBlk N f) AV.nil.tup (sBlk N g) := by
 obtain ⟨g, g1, g2, g3⟩ := h a b f limit true true h1 h2 h3 h4
 refine ⟨g, g1, g2, o70 _ _ _ _ _ _ _ _ ⟨trivial, fun q hq => ?_⟩ rfl (r70_e _ _ _ _ _ _ _ _ g3)⟩
 simp only [ms_] at hq; subst hq; exact fun _ _ => trivial
include hN hn
theorem pdq_part {L : Nat} (h : PdqL N n L) (a b : Nat) (f : Nat → Int) (limit : Int) (wb wp : Bool) (len : Int) (p : Nat) (hL : b - a ≤ L + 1) (hab : 12 < b - a) (hb : b ≤ n) (hA : Ahead a b f) (hp : a ≤ p) (hpb : p < b) :
  ∃ g, Shuf a b f g ∧ Srt a b g ∧ L70_3 n (a : Int) (b : Int) limit wb wp len (p : Int) N f AV.nil.tup (sBlk N g) := by
 by_cases hq : 0 < a ∧ ¬ f (a - 1) < f p
 ·-- many are the same: those go ahead
  obtain ⟨h0, hle⟩ := hq
  obtain ⟨g1, mid, e1, hP, o1⟩ := parte_ok N n a b hN hb (by omega) f (by omega) p hp hpb
  have hm1 := hP.am
  have hm2 := hP.mb
  obtain ⟨g, g2, g3, g4⟩ := h mid b g1 limit wb wp (by omega) hm2 hb (fun _ k k1 k2 => by
   have := hP.lo (mid - 1) (by omega) (by omega)
   have := hP.hi k k1 k2
   omega)
  have hmin : ∀ k, a ≤ k → k < b → f p ≤ g1 k := fun k k1 k2 => by
   have := hP.sh.all (P := fun x => f p ≤ x) (fun i i1 i2 => by have := hA h0 i i1 i2; show f p ≤ f i; omega) k k1 k2
   exact this
  have hgl : ∀ x, x < mid → g x = g1 x := fun x hx => g2.out (by omega)
  have hgr : ∀ y, mid ≤ y → y < b → g1 a < g y := fun y y1 y2 => g2.all (P := fun v => g1 a < v) (fun i i1 i2 => hP.hi i i1 i2) y y1 y2
  refine ⟨g, hP.sh.trans (g2.wide (by omega) (lr_ _)), Srt.join (m := mid) (fun x y k1 k2 k3 => ?_) g3 (fun x y k1 k2 k3 k4 => ?_), ?_⟩
  ·rw [hgl x (by omega), hgl y k3]
   have := hP.lo x k1 (by omega)
   have := hmin y (by omega) (by omega)
   omega
  ·rw [hgl x k2]
   have := hP.lo x k1 k2
   have := hgr y k3 k4
   omega
  ·apply r70_3
   simp only [wP (m := a) (show 1 ≤ a by omega) (show a ≤ 3000000000 by omega), tn_]
   refine ⟨fun _ => ⟨⟨by omega, by omega⟩, by omega, ⟨by omega, by omega⟩, by omega, decide (f (a - 1) < f p), less_ok _ _, fun _ => ⟨((mid : Int), N, g1), o1, g4⟩, fun h => ?_⟩, fun h => ?_⟩
   ·rw [decide_eq_false hle] at h; cases h
   ·have h : decide ((a : Int) > 0) = false := h
    have := df_ h; omega
 ·obtain ⟨g1, mid, t, hP, o1⟩ := part_ok N n a b hN hb (by omega) f (by omega) p hp hpb
  have hm1 := hP.am
  have hm2 := hP.mb
  have hA1 := hA.shuf hP.sh
  have hAl : Ahead a mid g1 := fun h0 k k1 k2 => hA1 h0 k k1 (by omega)
  have srt : ∀ g : Nat → Int, Srt a mid g → Srt (mid + 1) b g → (∀ x, a ≤ x → x < mid → g x ≤ g mid) → (∀ y, mid < y → y < b → g mid ≤ g y) → Srt a b g := fun g s2 s4 hl hr =>
   Srt.join (m := mid) s2 (fun x y k1 k2 k3 => by
    by_cases e : x = mid
    ·subst e; exact hr y k2 k3
    ·exact s4 x y (by omega) k2 k3) (fun x y k1 k2 k3 k4 => by
    by_cases e : y = mid
    ·subst e; exact hl x k1 k2
    ·exact Int.le_trans (hl x k1 k2) (hr y (by omega) k4))
  have put : ∀ {g : Nat → Int}, (mid - a < b - mid → ∃ g2, Ok Proofs.Try.prog 70 [.rf 2000 1 0 n, .sc (.int .i64 (a : Int)), .sc (.int .i64 (mid : Int)), .sc (.int .i64 limit)] (sBlk N g1) AV.nil.tup (sBlk N g2) ∧
     L70_0 n ((mid + 1 : Nat) : Int) (b : Int) limit (decide (((mid - a : Nat) : Int) ≥ IntKind.i64.wrap (len.tdiv 8))) t N g2 AV.nil.tup (sBlk N g)) →
    (¬ mid - a < b - mid → ∃ g2, Ok Proofs.Try.prog 70 [.rf 2000 1 0 n, .sc (.int .i64 ((mid + 1 : Nat) : Int)), .sc (.int .i64 (b : Int)), .sc (.int .i64 limit)] (sBlk N g1) AV.nil.tup (sBlk N g2) ∧
     L70_0 n (a : Int) (mid : Int) limit (decide (((b - mid : Nat) : Int) ≥ IntKind.i64.wrap (len.tdiv 8))) t N g2 AV.nil.tup (sBlk N g)) →
    L70_3 n (a : Int) (b : Int) limit wb wp len (p : Int) N f AV.nil.tup (sBlk N g) := fun {g} k1 k2 => by
   have both : ∀ (D : Prop), ((decide (((mid - a : Nat) : Int) < ((b - mid : Nat) : Int)) = true → ∃ r : Nat × (Nat → Int), Ok Proofs.Try.prog 70 [.rf 2000 1 0 n, .sc (.int .i64 (a : Int)), .sc (.int .i64 (mid : Int)), .sc (.int .i64 limit)] (sBlk N g1) AV.nil.tup (sBlk r.1 r.2) ∧
      L70_0 n ((mid + 1 : Nat) : Int) (b : Int) limit (decide (((mid - a : Nat) : Int) ≥ IntKind.i64.wrap (len.tdiv 8))) t r.1 r.2 AV.nil.tup (sBlk N g)) ∧
     (decide (((mid - a : Nat) : Int) < ((b - mid : Nat) : Int)) = false → ∃ r : Nat × (Nat → Int), Ok Proofs.Try.prog 70 [.rf 2000 1 0 n, .sc (.int .i64 ((mid + 1 : Nat) : Int)), .sc (.int .i64 (b : Int)), .sc (.int .i64 limit)] (sBlk N g1) AV.nil.tup (sBlk r.1 r.2) ∧
      L70_0 n (a : Int) (mid : Int) limit (decide (((b - mid : Nat) : Int) ≥ IntKind.i64.wrap (len.tdiv 8))) t r.1 r.2 AV.nil.tup (sBlk N g)) → D) → D := fun D hD => hD ⟨fun h => by
     obtain ⟨g2, o2, l2⟩ := k1 (by have := dt_ h; omega)
     exact ⟨(N, g2), o2, l2⟩, fun h => by
     obtain ⟨g2, o2, l2⟩ := k2 (by have := df_ h; omega)
     exact ⟨(N, g2), o2, l2⟩⟩
   apply r70_3
   simp only [tn_]
   by_cases ha : 0 < a
   ·have hlt : f (a - 1) < f p := by
     apply Classical.byContradiction
     intro k
     exact hq ⟨ha, k⟩
    simp only [wP (m := a) (show 1 ≤ a by omega) (show a ≤ 3000000000 by omega), tn_]
    refine ⟨fun _ => ⟨⟨by omega, by omega⟩, by omega, ⟨by omega, by omega⟩, by omega, decide (f (a - 1) < f p), less_ok _ _, fun h => ?_, fun _ => ⟨((mid : Int), t, N, g1), o1, ?_⟩⟩, fun h => ?_⟩
    ·rw [decide_eq_true hlt] at h; cases h
    ·dsimp only
     rw [wB (n := a) (m := mid) hm1 (by omega), wB (n := mid) (m := b) (by omega) (by omega), wrapSucc (n := mid) (by omega)]
     exact both _ id
    ·have h : decide ((a : Int) > 0) = false := h
     have := df_ h; omega
   ·refine ⟨fun h => by have := dt_ h; omega, fun _ => ⟨((mid : Int), t, N, g1), o1, ?_⟩⟩
    dsimp only
    rw [wB (n := a) (m := mid) hm1 (by omega), wB (n := mid) (m := b) (by omega) (by omega), wrapSucc (n := mid) (by omega)]
    exact both _ id
  by_cases hlt : mid - a < b - mid
  ·obtain ⟨g2, s1, s2, o2⟩ := pdq_call N n h a mid g1 limit (by omega) hm1 (by omega) hAl
   obtain ⟨g, s3, s4, l4⟩ := h (mid + 1) b g2 limit (decide (((mid - a : Nat) : Int) ≥ IntKind.i64.wrap (len.tdiv 8))) t (by omega) (by omega) hb (fun _ k k1 k2 => by
    rw [Nat.add_sub_cancel, s1.out (by omega), s1.out (by omega)]
    exact hP.hi k (by omega) k2)
   refine ⟨g, hP.sh.trans ((s1.wide (lr_ _) (by omega)).trans (s3.wide (by omega) (lr_ _))), ?_, put (fun _ => ⟨g2, o2, l4⟩) (fun k => absurd hlt k)⟩
   have eo : ∀ x, x < mid → g x = g2 x := fun x hx => s3.out (by omega)
   have em : g mid = g1 mid := by rw [s3.out (by omega), s1.out (by omega)]
   refine srt g (fun x y k1 k2 k3 => by rw [eo x (by omega), eo y k3]; exact s2 x y k1 k2 k3) s4 (fun x k1 k2 => ?_) (fun y k1 k2 => ?_)
   ·rw [eo x k2, em]
    exact s1.all (P := fun v => v ≤ g1 mid) (fun i i1 i2 => hP.lo i i1 i2) x k1 k2
   ·rw [em]
    exact s3.all (P := fun v => g1 mid ≤ v) (fun i i1 i2 => by
     show g1 mid ≤ g2 i
     rw [s1.out (by omega)]; exact hP.hi i (by omega) i2) y k1 k2
  ·obtain ⟨g2, s1, s2, o2⟩ := pdq_call N n h (mid + 1) b g1 limit (by omega) (by omega) hb (fun _ k k1 k2 => by
    rw [Nat.add_sub_cancel]; exact hP.hi k (by omega) k2)
   obtain ⟨g, s3, s4, l4⟩ := h a mid g2 limit (decide (((b - mid : Nat) : Int) ≥ IntKind.i64.wrap (len.tdiv 8))) t (by omega) hm1 (by omega) (fun h0 k k1 k2 => by
    rw [s1.out (by omega), s1.out (by omega)]
    exact hAl h0 k k1 k2)
   refine ⟨g, hP.sh.trans ((s1.wide (by omega) (lr_ _)).trans (s3.wide (lr_ _) (by omega))), ?_, put (fun k => absurd k hlt) (fun _ => ⟨g2, o2, l4⟩)⟩
   have eo : ∀ x, mid ≤ x → g x = g2 x := fun x hx => s3.out (by omega)
   have em : g mid = g1 mid := by rw [s3.out (by omega), s1.out (by omega)]
   refine srt g s4 (fun x y k1 k2 k3 => by rw [eo x (by omega), eo y (by omega)]; exact s2 x y k1 k2 k3) (fun x k1 k2 => ?_) (fun y k1 k2 => ?_)
   ·rw [em]
    exact s3.all (P := fun v => v ≤ g1 mid) (fun i i1 i2 => by
     show g2 i ≤ g1 mid
     rw [s1.out (by omega)]; exact hP.lo i i1 i2) x k1 k2
   ·rw [em, eo y (by omega)]
    exact s1.all (P := fun v => g1 mid ≤ v) (fun i i1 i2 => hP.hi i (by omega) i2) y k1 k2
theorem pdq_hint {L : Nat} (h : PdqL N n L) (a b : Nat) (f : Nat → Int) (limit : Int) (wb wp : Bool) (len hint : Int) (p : Nat) (hL : b - a ≤ L + 1) (hab : 12 < b - a) (hb : b ≤ n) (hA : Ahead a b f) (hp : a ≤ p) (hpb : p < b) :
  ∃ g, Shuf a b f g ∧ Srt a b g ∧ L70_2 n (a : Int) (b : Int) limit wb wp len (p : Int) hint N f AV.nil.tup (sBlk N g) := by
 by_cases hc : wb = true ∧ wp = true ∧ hint = 1
 ·obtain ⟨rfl, rfl, rfl⟩ := hc
  obtain ⟨g1, t, ⟨s1, s2⟩, o1⟩ := partial_ok N n a b hN hb hn f hA hab
  cases t with
  | true =>
   refine ⟨g1, s1, s2 rfl, r70_2 _ _ _ _ _ _ _ _ _ _ _ _ _ ⟨fun _ => ⟨fun _ => ⟨fun _ => ⟨(true, N, g1), o1, fun _ => ⟨Sub.refl _, sOut fun _ => rfl⟩, fun h => (by cases h)⟩, fun h => absurd h (by decide)⟩, fun h => absurd h (by decide)⟩, fun h => absurd h (by decide)⟩⟩
  | false =>
   obtain ⟨g, g2, g3, g4⟩ := pdq_part N n hN hn h a b g1 limit true true len p hL hab hb (hA.shuf s1) hp hpb
   refine ⟨g, s1.trans g2, g3, r70_2 _ _ _ _ _ _ _ _ _ _ _ _ _ ⟨fun _ => ⟨fun _ => ⟨fun _ => ⟨(false, N, g1), o1, fun h => (by cases h), fun _ => g4⟩, fun h => absurd h (by decide)⟩, fun h => absurd h (by decide)⟩, fun h => absurd h (by decide)⟩⟩
 ·obtain ⟨g, g2, g3, g4⟩ := pdq_part N n hN hn h a b f limit wb wp len p hL hab hb hA hp hpb
  refine ⟨g, g2, g3, r70_2 _ _ _ _ _ _ _ _ _ _ _ _ _ ⟨fun k1 => ⟨fun k2 => ⟨fun k3 => absurd ⟨k1, k2, by simpa using k3⟩ hc, fun _ => g4⟩, fun _ => g4⟩, fun _ => g4⟩⟩
theorem pdq_pivot {L : Nat} (h : PdqL N n L) (a b : Nat) (f : Nat → Int) (limit : Int) (wb wp : Bool) (len : Int) (hL : b - a ≤ L + 1) (hab : 12 < b - a) (hb : b ≤ n) (hA : Ahead a b f) :
  ∃ g, Shuf a b f g ∧ Srt a b g ∧ L70_1 n (a : Int) (b : Int) limit wb wp len N f AV.nil.tup (sBlk N g) := by
 obtain ⟨p, hi, p1, p2, o1⟩ := choose_ok n f hn a b hab hb
 have o1' := Ok.args (ys := [rowA n f, .sc (.int .i64 (a : Int)), .sc (.int .i64 (b : Int))]) (xs := [.vec true 1 n (N - 0) (fun i => .sc (.int .i64 (f i))), .sc (.int .i64 (a : Int)), .sc (.int .i64 (b : Int))]) ⟨Sub.vec (lr_ _) (by omega) fun _ _ => rfl, Sub.refl _, Sub.refl _, trivial⟩ o1
 by_cases h2 : hi = 2
 ·obtain ⟨g1, s1, o2⟩ := rev_ok N n a b hN hb (by omega) f (by omega)
  obtain ⟨g, g2, g3, g4⟩ := pdq_hint N n hN hn h a b g1 limit wb wp len 1 (b - 1 - (p - a)) hL hab hb (hA.shuf s1) (by omega) (by omega)
  refine ⟨g, s1.trans g2, g3, ?_⟩
  apply r70_1
  refine ⟨((p : Int), hi), ⟨by omega, o1'⟩, fun _ => ⟨(N, g1), o2, ?_⟩, fun k => ?_⟩
  ·dsimp only
   rw [wP (m := b) (by omega) (by omega), wB (n := a) (m := p) p1 (by omega), wB (n := p - a) (m := b - 1) (by omega) (by omega)]
   exact g4
  ·have k : (hi == 2) = false := k
   rw [h2] at k; cases k
 ·obtain ⟨g, g2, g3, g4⟩ := pdq_hint N n hN hn h a b f limit wb wp len hi p hL hab hb hA p1 p2
  refine ⟨g, g2, g3, ?_⟩
  apply r70_1
  refine ⟨((p : Int), hi), ⟨by omega, o1'⟩, fun k => ?_, fun _ => g4⟩
  have k : (hi == 2) = true := k
  exact absurd (by simpa using k) h2
theorem pdq_all : ∀ L, PdqL N n L := by
 have short : ∀ (a b : Nat) (f : Nat → Int) (limit : Int) (wb wp : Bool), b - a ≤ 12 → a ≤ b → b ≤ n → ∃ g, Shuf a b f g ∧ Srt a b g ∧ L70_0 n (a : Int) (b : Int) limit wb wp N f AV.nil.tup (sBlk N g) := fun a b f limit wb wp h1 h2 h3 => by
  obtain ⟨g, g1, g2, g3⟩ := insertion_ok N n a b hN h2 h3 (by omega) f
  refine ⟨g, g1, g2, ?_⟩
  apply r70_0
  rw [wB (n := a) (m := b) h2 (by omega)]
  exact ⟨fun _ => ⟨(N, g), g3, Sub.refl _, sOut fun _ => rfl⟩, fun h => by have := df_ h; omega⟩
 intro L
 induction L with
 | zero =>
  intro a b f limit wb wp hL hab hb hA
  exact short a b f limit wb wp (by omega) hab hb
 | succ L ih =>
  intro a b f limit wb wp hL hab hb hA
  by_cases h12 : b - a ≤ 12
  ·exact short a b f limit wb wp h12 hab hb
  ·by_cases h0 : limit = 0
   ·obtain ⟨g, g1, g2, g3⟩ := heap_ok N n a b hN (by omega) hb (by omega) f
    refine ⟨g, g1, g2, ?_⟩
    apply r70_0
    rw [wB (n := a) (m := b) hab (by omega)]
    refine ⟨fun h => by have := dt_ h; omega, fun _ => ⟨fun _ => ⟨(N, g), g3, Sub.refl _, sOut fun _ => rfl⟩, fun h => ?_⟩⟩
    rw [h0] at h; cases h
   ·have hl : (limit == 0) = false := by rw [beq_eq_false_iff_ne]; exact h0
    cases wb with
    | false =>
     obtain ⟨g1, s1, o1⟩ := break_ok N n a b hN hb hn f (by omega)
     obtain ⟨g, g2, g3, g4⟩ := pdq_pivot N n hN hn ih a b g1 (IntKind.i64.wrap (limit - 1)) false wp ((b - a : Nat) : Int) hL (by omega) hb (hA.shuf s1)
     refine ⟨g, s1.trans g2, g3, ?_⟩
     apply r70_0
     rw [wB (n := a) (m := b) hab (by omega)]
     refine ⟨fun h => by have := dt_ h; omega, fun _ => ⟨fun h => ?_, fun _ => ⟨fun _ => ⟨(N, g1), o1, g4⟩, fun h => absurd h (by decide)⟩⟩⟩
     rw [hl] at h; cases h
    | true =>
     obtain ⟨g, g2, g3, g4⟩ := pdq_pivot N n hN hn ih a b f limit true wp ((b - a : Nat) : Int) hL (by omega) hb hA
     refine ⟨g, g2, g3, ?_⟩
     apply r70_0
     rw [wB (n := a) (m := b) hab (by omega)]
     refine ⟨fun h => by have := dt_ h; omega, fun _ => ⟨fun h => ?_, fun _ => ⟨fun h => absurd h (by decide), fun _ => g4⟩⟩⟩
     rw [hl] at h; cases h
end
theorem sortAll : SortOk 4096 := by
 intro N n f hM hN
 obtain ⟨r, hr⟩ := len_ok (IntKind.u64.wrap (n : Int))
 obtain ⟨g, g1, g2, g3⟩ := pdq_call N n (pdq_all N n hN hM n) 0 n f r (by omega) (by omega) (lr_ _) (fun h => by omega)
 refine ⟨g, g1, g2, o57 _ _ _ _ _ ⟨trivial, fun q hq => ?_⟩ rfl (r57_e _ _ _ _ _ ⟨r, hr, (N, g), g3, Sub.refl _, sOut fun _ => rfl⟩)⟩
 simp only [ms_] at hq; subst hq; exact fun _ _ => trivial
end Go.Am.Seat

namespace Go.Am.Seat
open Go Go.Am
theorem compact_in (n M k0 : Nat) (hM : n ≤ M) (hn : n ≤ 3000000000) (hk0 : 1 ≤ k0) (hk1 : k0 < n) (v : Int) : ∀ (m k k2 : Nat) (f : Nat → Int), k2 + m = n - k0 → 1 ≤ k2 → k0 ≤ k → k + 1 ≤ k0 + k2 → f 0 = v →
  ∃ (k' : Nat) (F : Nat → Int), 0 < k' ∧ k' ≤ M ∧ F 0 = v ∧ L58_1 n (k : Int) k0 (n - k0) (k2 : Int) M f (.rf 2000 1 0 k') [(2000, 3, .ar M 1 fun i => .sc (.int .i64 (F i)))] := by
 intro m
 induction m with
 | zero =>
  intro k k2 f hk2 h1 h2 h3 hv
  refine ⟨k, fun i => bif Nat.ble k i && Nat.blt i (k + (n - k)) then 0 else f i, by omega, by omega, ?_, ?_⟩
  ·have : Nat.ble k 0 = false := by rw [Bool.eq_false_iff]; intro h; have := Nat.le_of_ble_eq_true h; omega
   show (bif Nat.ble k 0 && _ then (0 : Int) else f 0) = v
   rw [this]; exact hv
  ·apply r58_1
   have e1 : ((n : Int) - (k : Int)).toNat = n - k := by omega
   have e2 : ((k : Int) - 0).toNat = k := by omega
   rw [show (k : Int).toNat = k from rfl, show (n : Int).toNat = n from rfl, e1, e2]
   exact ⟨fun h => by have := dt_ h; omega, fun _ => ⟨⟨by omega, by omega, by omega, .inr (by omega)⟩, by omega, ⟨by omega, by omega, by omega, .inl rfl⟩, Sub.refl _, rfl, rfl, SubB.refl _, trivial⟩⟩
 | succ m ih =>
  intro k k2 f hk2 h1 h2 h3 hv
  have hw : IntKind.i64.wrap ((k2 : Int) - 1) = ((k2 - 1 : Nat) : Int) := wP h1 (by omega)
  by_cases hc : f (k0 + k2) = f (k0 + (k2 - 1))
  ·obtain ⟨k', F, i1, i2, i3, i4⟩ := ih k (k2 + 1) f (by omega) (by omega) h2 (by omega) hv
   refine ⟨k', F, i1, i2, i3, ?_⟩
   apply r58_1
   rw [hw, show (k2 : Int).toNat = k2 from rfl, show ((k2 - 1 : Nat) : Int).toNat = k2 - 1 from rfl, plus_eq, plus_eq]
   refine ⟨fun _ => ⟨⟨by omega, by omega⟩, by omega, ⟨by omega, by omega⟩, by omega, fun h => ?_, fun _ => ?_⟩, fun h => by have := df_ h; omega⟩
   ·have h : (f (k0 + k2) != f (k0 + (k2 - 1))) = true := h
    rw [hc] at h; simp at h
   ·apply r58_2
    rw [wrapSucc (by omega)]
    exact i4
  ·obtain ⟨k', F, i1, i2, i3, i4⟩ := ih (k + 1) (k2 + 1) (fun i => bif i.beq k then f (k0 + k2) else f i) (by omega) (by omega) (by omega) (by omega) (by
    show (bif Nat.beq 0 k then _ else f 0) = v
    rw [beqF (by omega)]; exact hv)
   refine ⟨k', F, i1, i2, i3, ?_⟩
   apply r58_1
   rw [hw, show (k2 : Int).toNat = k2 from rfl, show ((k2 - 1 : Nat) : Int).toNat = k2 - 1 from rfl, show (k : Int).toNat = k from rfl, plus_eq, plus_eq]
   refine ⟨fun _ => ⟨⟨by omega, by omega⟩, by omega, ⟨by omega, by omega⟩, by omega, fun _ => ⟨⟨by omega, by omega⟩, by omega, ?_⟩, fun h => ?_⟩, fun h => by have := df_ h; omega⟩
   ·apply r58_2
    rw [wrapSucc (by omega), wrapSucc (by omega)]
    exact i4
   ·have h : (f (k0 + k2) != f (k0 + (k2 - 1))) = false := h
    exact absurd (by simpa using h) hc
theorem compact_out (n M : Nat) (hM : n ≤ M) (hn : n ≤ 3000000000) (hn2 : 2 ≤ n) (f : Nat → Int) : ∀ (m k : Nat), k + m = n → 1 ≤ k →
  ∃ (k' : Nat) (F : Nat → Int), 0 < k' ∧ k' ≤ M ∧ F 0 = f 0 ∧ L58_0 n (k : Int) M f (.rf 2000 1 0 k') [(2000, 3, .ar M 1 fun i => .sc (.int .i64 (F i)))] := by
 intro m
 induction m with
 | zero =>
  intro k hk h1
  refine ⟨n, f, by omega, hM, rfl, ?_⟩
  apply r58_0
  exact ⟨fun h => by have := dt_ h; omega, fun _ => ⟨Sub.refl _, rfl, rfl, SubB.refl _, trivial⟩⟩
 | succ m ih =>
  intro k hk h1
  have hw : IntKind.i64.wrap ((k : Int) - 1) = ((k - 1 : Nat) : Int) := wP h1 (by omega)
  have e1 : ((n : Int) - (k : Int)).toNat = n - k := by omega
  by_cases hc : f k = f (k - 1)
  ·obtain ⟨k', F, i1, i2, i3, i4⟩ := compact_in n M k hM hn h1 (by omega) (f 0) (n - k - 1) k 1 f (by omega) (by omega) (by omega) (by omega) rfl
   refine ⟨k', F, i1, i2, i3, ?_⟩
   apply r58_0
   rw [hw, show (k : Int).toNat = k from rfl, show ((k - 1 : Nat) : Int).toNat = k - 1 from rfl, e1, show (n : Int).toNat = n from rfl]
   refine ⟨fun _ => ⟨⟨by omega, by omega⟩, by omega, ⟨by omega, by omega⟩, by omega, fun _ => ⟨⟨by omega, by omega, by omega, .inr (by omega)⟩, i4⟩, fun h => ?_⟩, fun h => by have := df_ h; omega⟩
   rw [hc] at h; simp at h
  ·obtain ⟨k', F, i1, i2, i3, i4⟩ := ih (k + 1) (by omega) (by omega)
   refine ⟨k', F, i1, i2, i3, ?_⟩
   apply r58_0
   rw [hw, show (k : Int).toNat = k from rfl, show ((k - 1 : Nat) : Int).toNat = k - 1 from rfl, wrapSucc (by omega)]
   exact ⟨fun _ => ⟨⟨by omega, by omega⟩, by omega, ⟨by omega, by omega⟩, by omega, fun h => absurd (by simpa using h) hc, fun _ => i4⟩, fun h => by have := df_ h; omega⟩
theorem compact_ok (n M : Nat) (hM : n ≤ M) (hn : n ≤ 3000000000) (f : Nat → Int) : ∃ (k : Nat) (F : Nat → Int), (n = 0 → k = 0) ∧ (0 < n → 0 < k ∧ F 0 = f 0) ∧ k ≤ M ∧
  Ok Proofs.Try.prog 58 [.rf 2000 1 0 n] [(2000, 3, .ar M 1 fun i => .sc (.int .i64 (f i)))] (.rf 2000 1 0 k) [(2000, 3, .ar M 1 fun i => .sc (.int .i64 (F i)))] := by
 have nw : ∀ F : Nat → Int, ∀ q ∈ [((2000 : Nat), (3 : Nat), AV.ar M 1 fun i => .sc (.int .i64 (F i)))], newOnly q.2.2 := fun F q hq => by
  rw [ms_.1 hq]; exact fun _ _ => trivial
 by_cases h2 : n < 2
 ·refine ⟨n, f, fun h => h, fun h => ⟨h, rfl⟩, hM, o58 _ _ _ _ _ ⟨trivial, nw f⟩ rfl (r58_e _ _ _ _ _ ⟨fun _ => ⟨Sub.refl _, rfl, rfl, SubB.refl _, trivial⟩, fun h => ?_⟩)⟩
  have := df_ h; omega
 ·obtain ⟨k', F, i1, i2, i3, i4⟩ := compact_out n M hM hn (by omega) f (n - 1) 1 (by omega) (by omega)
  refine ⟨k', F, fun h => by omega, fun _ => ⟨i1, i3⟩, i2, o58 _ _ _ _ _ ⟨trivial, nw F⟩ rfl (r58_e _ _ _ _ _ ⟨fun h => ?_, fun _ => i4⟩)⟩
  have := dt_ h; omega
end Go.Am.Seat

namespace Go.Am.Seat
open Go Go.Am
section
variable {N : Nfa}
theorem put_first (hv : N.valid) (hn4 : N.n ≤ 4096) (hf : N.freeM N.n ≤ 16384) : ∃ (o : List Nat) (mk : Nat → Bool) (M : Nat) (f : Nat → Int), WkI N o mk M f (clos N [N.st.toNat]) ∧
  Ok Proofs.Try.prog 55 [.pt 2000 [] 0, .sc (.int .i64 N.st)] [(2000, 85, .cons 2 (nfaA false N) (.cons 1 (.sc (.slice none 0 0)) (.cons 1 (.rf 2002 1 0 N.n) .nil))), (2002, 4, .ar N.n 1 (fun i => .sc (.bool false)))] AV.nil.tup (kBlk N o.length M f mk 1001) := by
 have hs1 := hv.1
 have hs2 := hv.2.1
 have hst : N.st = ((N.st.toNat : Nat) : Int) := by omega
 have h0 := AtS.none (N := N) (fun _ => false) fun _ _ => rfl
 obtain ⟨o, mk, f, M, j1, j2, j3, j4⟩ := put_ok hv hn4 hf N.st.toNat (by omega) [] (fun _ => false) (fun _ => 0) 0 (by simp) (fun i hi => absurd hi (by simp)) h0.nd h0.lt h0.mq h0.cl
 rw [← hst] at j4
 have hA := h0.put j1
 refine ⟨o, mk, M, f, ⟨hA.nd, hA.lt, j2, j3, fun x => ?_⟩, j4.nils [2001] (fun id ty av h => ?_) (fun l hl => ?_) (fun id hid => ?_) (fun k hk => ?_)⟩
 ·rw [hA.mem x, mem_clos hv (fun s hs => by rw [ms_.1 hs]; omega)]
  exact Iff.rfl
 ·have h := lookO_mem h
  simp only [kBlk, mn_, List.not_mem_nil, or_false, pi_] at h
  rcases h with ⟨rfl, rfl, rfl⟩ | ⟨rfl, rfl, rfl⟩ | ⟨rfl, rfl, rfl⟩
  ·exact .inl ⟨_, rfl, _, _, rfl, NilTo.refl _ _, _, _, rfl, .inr ⟨rfl, 2001, 1, by simp, rfl⟩, _, _, rfl, .inl rfl, .inl rfl⟩
  ·exact .inr ⟨by simp, _, _, rfl⟩
  ·exact .inl ⟨_, rfl, .inl rfl⟩
 ·simp only [mn_, List.not_mem_nil, or_false] at hl
  rw [hl]; exact ⟨rfl, rfl⟩
 ·obtain ⟨q, hq⟩ := Option.isSome_iff_exists.1 hid
  have h := lookO_mem hq
  obtain ⟨q1, q2⟩ := q
  simp only [mn_, List.not_mem_nil, or_false, pi_] at h
  rcases h with ⟨rfl, _⟩ | ⟨rfl, _⟩ <;> rfl
 ·have hk : k ∈ [2000, 2002] := hk
  refine ⟨show k ∈ [2000, 2002] from hk, fun h => ?_⟩
  rw [ms_.1 h] at hk
  simp at hk
end
end Go.Am.Seat

namespace Go.Am.Seat
open Go Go.Am
section
variable {N : Nfa}
abbrev accV (k : Nat) (F : Nat → Int) : AV := (.cons 1 (.vec false 1 k k (fun i => .sc (.int .i64 (F i)))) (.cons 1 (.sc (.int .i64 0)) .nil) : AV).tup
def AccIs (N : Nfa) (c : List Nat) (k : Nat) (F : Nat → Int) : Prop := (k = 0 ∧ ruleGo N c (-1) = -1) ∨ (0 < k ∧ F 0 = ruleGo N c (-1))
theorem acc_is {o c : List Nat} (hm : ∀ x, x ∈ o ↔ x ∈ c) {n : Nat} {f g : Nat → Int} (hS : Shuf 0 n f g) (hT : Srt 0 n g) (p1 : ∀ j, j < n → ∃ s ∈ o, N.ru s = f j ∧ 0 ≤ f j) (p2 : ∀ s ∈ o, 0 ≤ N.ru s → ∃ j, j < n ∧ f j = N.ru s) {k : Nat} {F : Nat → Int} (h0 : n = 0 → k = 0) (h1 : 0 < n → 0 < k ∧ F 0 = g 0) : AccIs N c k F := by
 rcases ruleGo_is (N := N) c (-1) with ⟨e1, n1, l1⟩ | ⟨s, s1, s2, s3, s4, s5⟩
 ·left
  refine ⟨h0 ?_, e1⟩
  by_cases hn : n = 0
  ·exact hn
  ·obtain ⟨s, hs, hr, hp⟩ := p1 0 (by omega)
   rcases n1 with n1 | n1
   ·omega
   ·have := n1 s ((hm s).1 hs); omega
 ·right
  obtain ⟨j, hj, hjs⟩ := p2 s ((hm s).2 s1) s3
  obtain ⟨k1, k2⟩ := h1 (by omega)
  refine ⟨k1, ?_⟩
  rw [k2]
  obtain ⟨i, _, hi, e⟩ := hS.mem (i := j) (by omega) hj
  have hle : g 0 ≤ g i := by
   by_cases hq : i = 0
   ·rw [hq]; exact Int.le_refl _
   ·exact hT 0 i (by omega) (by omega) hi
  obtain ⟨π, q1, _, _⟩ := hS
  obtain ⟨_, q2, q3⟩ := q1 0 (by omega) (by omega)
  obtain ⟨t, t1, t2, t3⟩ := p1 (π 0) q2
  have := s5 t ((hm t).1 t1) (by omega)
  omega
theorem acc_loop (hn4 : N.n ≤ 4096) {o : List Nat} (ho : ∀ x ∈ o, x < N.n) (hol : o.length ≤ 4096) {c : List Nat} (hm : ∀ x, x ∈ o ↔ x ∈ c) (M : Nat) (f : Nat → Int) (hM : o.length ≤ M) (hf : isRow f o) :
  ∀ (m i n : Nat) (M1 : Nat) (f1 : Nat → Int), i + m = o.length → n ≤ i → n ≤ M1 → (∀ j, j < n → ∃ s ∈ o, N.ru s = f1 j ∧ 0 ≤ f1 j) → (∀ x, x < i → 0 ≤ N.ru (o.getD x 0) → ∃ j, j < n ∧ f1 j = N.ru (o.getD x 0)) →
   ∃ (k : Nat) (F : Nat → Int), AccIs N c k F ∧ L29_1 n o.length (o.length : Int) (i : Int) N.st N.n (fun i j => ((word (N.set i) j : Nat) : Int)) N.to N.fn N.fr N.ru M f M1 f1 (accV k F) := by
 have hmx : 140737488355328 ≤ maxLen := by decide
 intro m
 induction m with
 | zero =>
  intro i n M1 f1 hi hn hM1 p1 p2
  obtain rfl : i = o.length := by omega
  obtain ⟨g, g1, g2, g3⟩ := sortAll M1 n f1 (by omega) hM1
  obtain ⟨k, F, c1, c2, c3, c4⟩ := compact_ok n M1 hM1 (by omega) g
  refine ⟨k, F, acc_is hm g1 g2 p1 (fun s hs h0 => ?_) c1 c2, ?_⟩
  ·obtain ⟨x, hx, rfl⟩ := List.getElem_of_mem hs
   have e : o[x] = o.getD x 0 := by simp [gd_, hx]
   rw [e] at h0 ⊢
   exact p2 x hx h0
  ·apply r29_1
   exact ⟨fun h => by have := dt_ h; omega, fun _ => ⟨(M1, g), g3, (k, M1, F), c4, ⟨by show 0 + k ≤ M1; omega, Sub.tup ⟨⟨RSub.vec id (lr_ _) (by show k ≤ M1 - 0; omega) fun _ _ => RSub.refl _, rfl⟩, ⟨RSub.refl _, rfl⟩, trivial⟩⟩, Sub.refl _⟩⟩
 | succ m ih =>
  intro i n M1 f1 hi hn hM1 p1 p2
  have hil : i < o.length := by omega
  have hs : o.getD i 0 < N.n := getD_lt ho hil
  have hfi : f i = ((o.getD i 0 : Nat) : Int) := hf i hil
  have hmem : o.getD i 0 ∈ o := by
   rw [gd_, ge_ hil]
   exact List.getElem_mem hil
  by_cases h0 : 0 ≤ N.ru (o.getD i 0)
  ·obtain ⟨k, F, a1, a2⟩ := ih (i + 1) (n + 1) (n + 1) (fun j => bif j.blt n then f1 j else N.ru (o.getD i 0)) (by omega) (by omega) (by omega) (fun j hj => by
    by_cases hq : j < n
    ·rw [show j.blt n = true by simp [hq]]
     exact p1 j hq
    ·rw [show j.blt n = false by
      cases hb : j.blt n with
      | false => rfl
      | true => exact absurd (by simpa using hb) hq]
     exact ⟨_, hmem, rfl, h0⟩) (fun x hx hr => by
    by_cases hq : x < i
    ·obtain ⟨j, j1, j2⟩ := p2 x hq hr
     refine ⟨j, by omega, ?_⟩
     show (bif j.blt n then f1 j else _) = _
     rw [show j.blt n = true by simp [j1]]
     exact j2
    ·obtain rfl : x = i := by omega
     refine ⟨n, by omega, ?_⟩
     show (bif n.blt n then f1 n else _) = _
     rw [show n.blt n = false by
      cases hb : n.blt n with
      | false => rfl
      | true => simp at hb]
     rfl)
   refine ⟨k, F, a1, ?_⟩
   apply r29_1
   rw [show (i : Int).toNat = i from rfl, hfi, show ((o.getD i 0 : Nat) : Int).toNat = o.getD i 0 from rfl]
   refine ⟨fun _ => ⟨⟨by omega, by omega⟩, by omega, ⟨by omega, by omega⟩, fun _ => ⟨⟨hM1, by omega, by omega⟩, ?_⟩, fun h => absurd h0 (df_ h)⟩, fun h => by have := df_ h; omega⟩
   apply r29_2
   rw [wrapSucc (by omega)]
   exact a2
  ·obtain ⟨k, F, a1, a2⟩ := ih (i + 1) n M1 f1 (by omega) (by omega) hM1 p1 (fun x hx hr => by
    by_cases hq : x < i
    ·exact p2 x hq hr
    ·obtain rfl : x = i := by omega
     exact absurd hr h0)
   refine ⟨k, F, a1, ?_⟩
   apply r29_1
   rw [show (i : Int).toNat = i from rfl, hfi, show ((o.getD i 0 : Nat) : Int).toNat = o.getD i 0 from rfl]
   refine ⟨fun _ => ⟨⟨by omega, by omega⟩, by omega, ⟨by omega, by omega⟩, fun h => absurd (dt_ h) h0, fun _ => ?_⟩, fun h => by have := df_ h; omega⟩
   apply r29_2
   rw [wrapSucc (by omega)]
   exact a2
theorem acc_text (hv : N.valid) (hn4 : N.n ≤ 4096) (hfr : N.freeM N.n ≤ 16384) (l : List Nat) (hl : ∀ x ∈ l, x < 256) (hln : l.length ≤ 140737488355328) : ∀ (m i : Nat) (o : List Nat) (mk : Nat → Bool) (M : Nat) (f : Nat → Int), i + m = l.length → WkI N o mk M f (walkL N (clos N [N.st.toNat]) (l.take i)) →
  ∃ (k : Nat) (F : Nat → Int), AccIs N (walkL N (clos N [N.st.toNat]) l) k F ∧ L29_0 (str l) (l.length : Int) (i : Int) N.st N.n (fun i j => ((word (N.set i) j : Nat) : Int)) N.to N.fn N.fr N.ru N.st N.n (fun i j => ((word (N.set i) j : Nat) : Int)) N.to N.fn N.fr N.ru o.length N.n M f N.n mk (accV k F) := by
 intro m
 induction m with
 | zero =>
  intro i o mk M f hi hW
  obtain rfl : i = l.length := by omega
  rw [List.take_length] at hW
  obtain ⟨k, F, a1, a2⟩ := acc_loop hn4 hW.lt (by have := nodup_le hW.nd hW.lt; omega) hW.mem M f hW.len hW.row o.length 0 0 0 (fun i => Int.ofNat 0) (by omega) (by omega) (by omega) (fun j hj => by omega) (fun x hx => by omega)
  refine ⟨k, F, a1, ?_⟩
  apply r29_0
  exact ⟨fun h => by have := dt_ h; omega, fun _ => a2⟩
 | succ m ih =>
  intro i o mk M f hi hW
  have hil : i < l.length := by omega
  have hb := byteAt_strN hil hl
  have hx : l.getD i 0 < 256 := hl _ (by simp [gd_, hil])
  have hc : ∀ s ∈ walkL N (clos N [N.st.toNat]) (l.take i), s < N.n := walkL_lt (fun s hs => clos_lt s hs) _
  obtain ⟨o2, mk2, M2, f2, w1, w2⟩ := on_ok hv hn4 hfr (l.getD i 0) hx hW hc
  rw [← walkL_app, ← take_snoc hil] at w1
  obtain ⟨k, F, a1, a2⟩ := ih (i + 1) o2 mk2 M2 f2 (by omega) w1
  refine ⟨k, F, a1, ?_⟩
  apply r29_0
  rw [str_size, show (i : Int).toNat = i from rfl, hb, wrapSucc (by omega)]
  exact ⟨fun _ => ⟨⟨by omega, by omega⟩, (N.st, N.n, (fun i j => ((word (N.set i) j : Nat) : Int)), N.to, N.fn, N.fr, N.ru, o2.length, N.n, M2, f2, N.n, mk2), w2, a2⟩, fun h => by have := df_ h; omega⟩
theorem accepts_ok (hE : N.err = 0) (l : List Nat) (hl : ∀ x ∈ l, x < 256) (hln : l.length ≤ 140737488355328) : ∃ (k : Nat) (F : Nat → Int), AccIs N (walkL N (clos N [N.st.toNat]) l) k F ∧ Ok Proofs.Try.prog 29 [nfaA false N, .sc (.string (str l))] [] (accV k F) [] := by
 obtain ⟨hs, hv⟩ := nErr_zero.1 hE
 obtain ⟨o, mk, M, f, w1, w2⟩ := put_first hv (by omega) (by omega)
 obtain ⟨k, F, a1, a2⟩ := acc_text hv (by omega) (by omega) l hl hln l.length 0 o mk M f (by omega) w1
 have hck := ncheck_ok N
 rw [hE] at hck
 refine ⟨k, F, a1, o29 _ _ _ _ _ _ _ _ _ ⟨⟨rfl, fun _ _ => trivial⟩, trivial, trivial⟩ ?_⟩
 apply r29_e
 simp only [tn_]
 rw [str_size]
 exact ⟨0, hck, fun h => absurd h (by decide), fun _ => ⟨⟨by omega, by omega, by omega, by omega⟩, (N.st, N.n, (fun i j => ((word (N.set i) j : Nat) : Int)), N.to, N.fn, N.fr, N.ru, o.length, N.n, M, f, N.n, mk), w2, a2⟩⟩
end
end Go.Am.Seat

namespace Go.Am.Seat
open Go Go.Am
theorem tells_last (r : Int) : L9_0 0 r 0 r (.sc (.bool true)) := by
 apply r9_0
 refine ⟨fun _ => ⟨fun _ => ⟨fun _ => ⟨true, alive7_ok, Sub.refl _⟩, fun h => ?_⟩, fun h => ?_⟩, fun h => ?_⟩
 ·simp at h
 ·exact absurd h (by decide)
 ·exact absurd h (by decide)
theorem law_tellsP (N : Nfa) (l : List Nat) (hl : ∀ x ∈ l, x < 256) : Ok Proofs.Try.prog 9 [nfaA false N, .sc (.string (str l))] [] (.sc (.bool true)) [] := by
 refine o9 _ _ _ _ _ _ _ _ _ trivial ?_
 apply r9_e
 rw [str_size]
 refine ⟨fun hlen => ⟨_, nbig_ok N 300 (by omega), fun _ => Sub.refl _, fun hb => ?_⟩, fun _ => Sub.refl _⟩
 have hlen := df_ hlen
 have hn := nbig_le hb
 rcases of_spec sortAll N (show N.n ≤ 4096 by omega) with ⟨h, hok⟩ | ⟨h, _, hok⟩ | ⟨h, d, lab, hd, hk, hm, h8, hok⟩
 ·exact ⟨⟨dfaZ.st, (fun b => ((dfaZ.cl b : Nat) : Int)), dfaZ.nk, dfaZ.ml, dfaZ.nx, dfaZ.rk, dfaZ.ru, N.err⟩, hok, fun _ => ⟨true, alive7_ok, Sub.refl _⟩, fun k => absurd k (by simpa using h)⟩
 ·exact ⟨⟨dfaZ.st, (fun b => ((dfaZ.cl b : Nat) : Int)), dfaZ.nk, dfaZ.ml, dfaZ.nx, dfaZ.rk, dfaZ.ru, 3⟩, hok, fun _ => ⟨true, alive7_ok, Sub.refl _⟩, fun k => absurd k (by decide)⟩
 ·have hv := (nErr_zero.1 h).2
  have hdv := hd.valid hv hk hm
  have he : d.err = 0 := err_zero.2 hdv
  obtain ⟨k, F, a1, a2⟩ := accepts_ok h l hl (by omega)
  have hr := rule_text_ok d h8 l hl (by omega)
  have ht : ruleR d l = (ruleGo N (walkL N (clos N [N.st.toNat]) l) (-1), 0) := by
   have := tells_is hv hd hk l 0 hl hd.pos
   rw [hd.zero] at this
   unfold ruleR
   rw [if_neg (by rw [he]; simp), hd.st]
   exact congrArg (fun x => (x, (0 : Int))) this
  rw [ht] at hr
  unfold AccIs at a1
  generalize ruleGo N (walkL N (clos N [N.st.toNat]) l) (-1) = r at hr a1
  refine ⟨⟨d.st, (fun b => ((d.cl b : Nat) : Int)), d.nk, d.ml, d.nx, d.rk, d.ru, 0⟩, hok, fun k => absurd (show ((0 : Int) != 0) = true from k) (by decide), fun _ => ⟨(k, F, 0), a2, (r, 0), hr, fun hk => ?_, fun hk => ?_⟩⟩
  ·have hk : (k : Int) > 0 := dt_ hk
   rcases a1 with ⟨h1, _⟩ | ⟨_, h2⟩
   ·omega
   ·refine ⟨⟨by omega, by show (0 : Int) < (k : Int); omega⟩, ?_⟩
    show L9_0 0 r 0 (F 0) _
    rw [h2]
    exact tells_last r
  ·have hk : ¬ (k : Int) > 0 := df_ hk
   rcases a1 with ⟨_, h2⟩ | ⟨h1, _⟩
   ·show L9_0 0 r 0 (-1) _
    rw [h2]
    exact tells_last (-1)
   ·omega
theorem law_tells_all (xs : List AV) (h : ShpAllC (lookO tab) noCut 20 [36, 9] xs) : Ok Proofs.Try.prog 9 xs [] (.sc (.bool true)) [] := by
 obtain ⟨x, y, rfl, hx, hy⟩ := h.two
 obtain ⟨N, h4, h5, h6⟩ := shp_nfa rfl rfl hx
 obtain ⟨l, rfl, hl, _⟩ := shp_str hy
 refine Ok.args (ys := [nfaA false N, .sc (.string (str l))].map tagT) ⟨Sub.of_R h4 h5 h6 trivial, Sub.refl _, trivial⟩ (Ok.top ?_ (law_tellsP N l hl))
 intro x hx
 rcases mn_.1 hx with rfl | hx
 ·rfl
 ·rw [ms_.1 hx]
  rfl
end Go.Am.Seat
