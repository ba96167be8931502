import Derived.Test.YtiebdgcidkmhpaaTxtLawMunchLess0
import Derived.Test.YtiebdgcidkmhpaaRul1LawMunchLess
import Derived.Test.YtiebdgcidkmhpaaRul0LawMunchLess
section
/-! Machine: mini.blocks: the classes of states. -/
namespace Go.Am.Seat
open Go Go.Am
set_option linter.unusedVariables false
abbrev tableF (g : Bool) (an : Nat) (af pl : Nat → Int) (k : Nat) (fn : Nat → Nat) (G : Nat → Nat → Int) (rk : Nat) (R : Nat → Int) (st : Int) : AV :=
 .ip g (.cons 1 (.vec g 1 an an (fun i => .sc (.int .u8 (af i)))) (.cons 256 (.ar 256 1 (fun i => .sc (.int .i64 (pl i)))) (.cons 1 (.vec g 1 k k (fun i => .vec g 1 (fn i) (fn i) (fun c => .sc (.int .i64 (G i c))))) (.cons 1 (.vec g 1 rk rk (fun i => .sc (.int .i64 (R i)))) (.cons 1 (.sc (.int .i64 st)) .nil)))))
theorem strOf_zero (n : Nat) (f : Nat → Int) : strOf n (fun i => f (0 + i)) = strOf n f := by
 congr 1; funext i; rw [Nat.zero_add]
section
variable {an : Nat} {af pl : Nat → Int} {k K : Nat} {fn : Nat → Nat} {G : Nat → Nat → Int} {R : Nat → Int} {st : Int}
 (hT : TableOk k K G R) (hfn : ∀ s, s < k → fn s = K)
include hT hfn
theorem blocks_key {of : Nat → Int} (hof : ∀ s, s < k → 0 ≤ of s ∧ of s < (k : Int)) (count : Int) {s : Nat} (hs : s < k) (n clk : Nat) (M : MapF) (next : Nat → Int) (res : AV)
  (h1 : M (key (stepKey K G R of s)) = none → L43_5 an af pl k fn G k R st k count k s (n : Int) k fn G k s k of (n + 1) (clk + 1) (putM M clk (key (stepKey K G R of s)) n) k next res)
  (h2 : ∀ v c, M (key (stepKey K G R of s)) = some (v, c) → L43_5 an af pl k fn G k R st k count k s v k fn G k s k of n clk M k next res) :
  ∀ (m j : Nat) (l : List Nat) (f : Nat → Int), j + m = K → l = keyL (R s :: of s :: (List.range j).map (fun i => if 0 ≤ G s i then of (G s i).toNat else -1)) → isRow f l →
  L43_2 an af pl k fn G k R st k count k s l.length k fn G k s (fn s) (G s) (fn s) j k of n clk M k next l.length f res := by
 intro m
 induction m with
 | zero =>
  intro j l f hj hl hf
  obtain rfl : j = K := by omega
  apply r43_2
  rw [strOf_zero, strOf_row hf]
  refine ⟨fun h => by have := of_decide_eq_true h; rw [hfn s hs] at this; omega, fun _ => ⟨⟨by omega, str_size l, fun i hi => ?_⟩, fun h => ?_, fun h => ?_⟩⟩
  ·rw [byteAt_strN hi (hl ▸ keyL_lt _), Nat.zero_add, hf i hi]
  ·have e : Value.string (str l) = key (stepKey j G R of s) := by rw [hl]; rfl
   rw [e] at h ⊢
   cases hm : M (key (stepKey j G R of s)) with
   | none => exact h1 hm
   | some x => rw [hm] at h; cases h
  ·have e : Value.string (str l) = key (stepKey j G R of s) := by rw [hl]; rfl
   rw [e] at h ⊢
   cases hm : M (key (stepKey j G R of s)) with
   | none => rw [hm] at h; cases h
   | some x => exact h2 x.1 x.2 hm
 | succ m ih =>
  intro j l f hj hl hf
  have hlen : l.length = 3 * (2 + j) := by rw [hl, keyL_len]; simp only [List.length_cons, List.length_map, List.length_range]; omega
  have hK := hT.Kle
  have hk := hT.kle
  obtain ⟨g1, g2⟩ := hT.go s j hs (by omega)
  have hnext : ∀ v, v = (if 0 ≤ G s j then of (G s j).toNat else -1) →
    L43_3 an af pl k fn G k R st k count k s l.length v k fn G k s (fn s) (G s) (fn s) j k of n clk M k next l.length f res := by
   intro v hv
   have hok : okV v := by
    unfold okV
    by_cases hg : 0 ≤ G s j
    ·rw [if_pos hg] at hv
     have := hof (G s j).toNat (by omega)
     omega
    ·rw [if_neg hg] at hv; omega
   obtain ⟨g, hg, hO⟩ := put_ok l (by omega) hok f hf
   apply r43_3
   refine ⟨(l.length + 3, l.length + 3, g), hO, ?_⟩
   apply r43_4
   rw [wrapSucc (by omega)]
   have := ih (j + 1) (l ++ enc3 v) g (by omega) (by rw [hl, ← keyL_snoc, List.range_succ, List.map_append, ← List.cons_append, ← List.cons_append]; rw [hv]; rfl) hg
   rw [List.length_append, enc3_len] at this
   exact this
  apply r43_2
  simp only [Int.toNat_natCast]
  refine ⟨fun _ => ⟨⟨by omega, by rw [hfn s hs]; omega⟩, fun h => ?_, fun h => ?_⟩, fun h => by have := of_decide_eq_false h; rw [hfn s hs] at this; omega⟩
  ·have h := of_decide_eq_true h
   refine ⟨⟨by omega, g2⟩, by omega, hnext _ (by rw [if_pos h])⟩
  ·have h := of_decide_eq_false h
   exact hnext _ (by rw [if_neg (by omega)])
/-- One round. -/
structure Round (k K : Nat) (G : Nat → Nat → Int) (R : Nat → Int) (of next : Nat → Int) (ks : Nat → List Int) (s n : Nat) : Prop where
 key : ∀ t, t < s → ∃ i, i < n ∧ next t = (i : Int) ∧ ks i = stepKey K G R of t
 on : ∀ i, i < n → ∃ t, t < s ∧ next t = (i : Int)
omit hfn in
theorem stepKey_ok {of : Nat → Int} (hof : ∀ s, s < k → 0 ≤ of s ∧ of s < (k : Int)) {s : Nat} (hs : s < k) : ∀ v ∈ stepKey K G R of s, okV v := by
 intro v hv
 have hk := hT.kle
 unfold okV
 simp only [stepKey, List.mem_cons, List.mem_map, List.mem_range] at hv
 rcases hv with rfl | rfl | ⟨i, hi, rfl⟩
 ·have := hT.ru s hs; omega
 ·have := hof s hs; omega
 ·obtain ⟨g1, g2⟩ := hT.go s i hs hi
  split
  ·have := hof (G s i).toNat (by omega); omega
  ·omega
theorem blocks_states {of : Nat → Int} (hof : ∀ s, s < k → 0 ≤ of s ∧ of s < (k : Int)) (count : Int) (P : (Nat → Int) → Prop)
  (K0 : ∀ next ks n clk (M : MapF), NumMap M n ks → Round k K G R of next ks k n → ∃ next', P next' ∧ L43_1 an af pl k fn G k R st k count k k fn G k k k of n clk M k next (.vec false 1 k k (fun i => .sc (.int .i64 (next' i))))) :
  ∀ (m s n clk : Nat) (M : MapF) (ks : Nat → List Int) (next : Nat → Int), s + m = k → NumMap M n ks → Round k K G R of next ks s n →
  ∃ next', P next' ∧ L43_1 an af pl k fn G k R st k count k k fn G k s k of n clk M k next (.vec false 1 k k (fun i => .sc (.int .i64 (next' i)))) := by
 intro m
 induction m with
 | zero =>
  intro s n clk M ks next hs hM hr
  obtain rfl : s = k := by omega
  exact K0 next ks n clk M hM hr
 | succ m ih =>
  intro s n clk M ks next hs hM hr
  have hsk : s < k := by omega
  have hk := hT.kle
  have hvs := stepKey_ok hT hof hsk
  have hR := hT.ru s hsk
  have hofs := hof s hsk
  -- the step of the machine, for any answer
  have step : ∀ (res : AV),
    (M (key (stepKey K G R of s)) = none → L43_1 an af pl k fn G k R st k count k k fn G k ((s + 1 : Nat) : Int) k of (n + 1) (clk + 1) (putM M clk (key (stepKey K G R of s)) n) k (fun i => if i = s then (n : Int) else next i) res) →
    (∀ v c, M (key (stepKey K G R of s)) = some (v, c) → L43_1 an af pl k fn G k R st k count k k fn G k ((s + 1 : Nat) : Int) k of n clk M k (fun i => if i = s then v else next i) res) →
    L43_1 an af pl k fn G k R st k count k k fn G k s k of n clk M k next res := by
   intro res h1 h2
   have h5 : ∀ v n' clk' M', L43_1 an af pl k fn G k R st k count k k fn G k ((s + 1 : Nat) : Int) k of n' clk' M' k (fun i => if i = s then v else next i) res →
     L43_5 an af pl k fn G k R st k count k s v k fn G k s k of n' clk' M' k next res := by
    intro v n' clk' M' hL
    apply r43_5
    simp only [Int.toNat_natCast]
    refine ⟨⟨by omega, by omega⟩, hsk, ?_⟩
    apply r43_6
    rw [wrapSucc (by omega)]
    have e : (fun i => bif i.beq s then v else next i) = fun i => if i = s then v else next i := by funext i; rw [bif_beq]
    rw [e]; exact hL
   obtain ⟨g1, hg1, hO1⟩ := put_nil (v := R s) ⟨by omega, by omega⟩
   obtain ⟨g2, hg2, hO2⟩ := put_ok (enc3 (R s)) (by rw [enc3_len]; omega) (v := of s) ⟨by omega, by omega⟩ g1 hg1
   apply r43_1
   simp only [Int.toNat_natCast]
   refine ⟨fun _ => ⟨⟨by omega, by omega⟩, ⟨by omega, by omega⟩, (3, 3, g1), hO1, ⟨by omega, by omega⟩, hsk, (3 + 3, 3 + 3, g2), hO2, ?_⟩, fun h => by have := of_decide_eq_false h; omega⟩
   exact blocks_key hT hfn hof count hsk n clk M next res (fun h => h5 _ _ _ _ (h1 h)) (fun v c h => h5 _ _ _ _ (h2 v c h)) K 0 (enc3 (R s) ++ enc3 (of s)) g2 (by omega) (by simp [keyL]) hg2
  by_cases hold : ∃ i, i < n ∧ ks i = stepKey K G R of s
  ·obtain ⟨i, hi, hks⟩ := hold
   obtain ⟨c, hc⟩ := hM.has i hi
   rw [hks] at hc
   obtain ⟨next', hP, hL⟩ := ih (s + 1) n clk M ks (fun t => if t = s then (i : Int) else next t) (by omega) hM
    {key := fun t ht => by
      show ∃ j, j < n ∧ (if t = s then (i : Int) else next t) = (j : Int) ∧ _
      by_cases he : t = s
      ·subst he; exact ⟨i, hi, if_pos rfl, hks⟩
      ·rw [if_neg he]; exact hr.key t (by omega)
     on := fun j hj => by
      obtain ⟨t, h1, h2⟩ := hr.on j hj
      exact ⟨t, by omega, by show (if t = s then (i : Int) else next t) = _; rw [if_neg (by omega)]; exact h2⟩ }
   refine ⟨next', hP, step _ (fun h => by rw [hc] at h; cases h) fun v c' h => ?_⟩
   rw [hc] at h
   obtain ⟨rfl, rfl⟩ := Prod.mk.inj (Option.some.inj h)
   exact hL
  ·have hnone := hM.no _ hvs fun i hi he => hold ⟨i, hi, he⟩
   obtain ⟨next', hP, hL⟩ := ih (s + 1) (n + 1) (clk + 1) _ _ (fun t => if t = s then (n : Int) else next t) (by omega) (hM.put clk hvs fun i hi he => hold ⟨i, hi, he⟩)
    {key := fun t ht => by
      show ∃ j, j < n + 1 ∧ (if t = s then (n : Int) else next t) = (j : Int) ∧ (if j < n then ks j else stepKey K G R of s) = _
      by_cases he : t = s
      ·subst he; exact ⟨n, by omega, if_pos rfl, if_neg (Nat.lt_irrefl n)⟩
      ·rw [if_neg he]
       obtain ⟨j, h1, h2, h3⟩ := hr.key t (by omega)
       exact ⟨j, by omega, h2, by rw [if_pos h1]; exact h3⟩
     on := fun j hj => by
      show ∃ t, t < s + 1 ∧ (if t = s then (n : Int) else next t) = (j : Int)
      by_cases he : j = n
      ·exact ⟨s, by omega, by rw [if_pos rfl, he]⟩
      ·obtain ⟨t, h1, h2⟩ := hr.on j (by omega)
       exact ⟨t, by omega, by rw [if_neg (by omega)]; exact h2⟩ }
   exact ⟨next', hP, step _ (fun _ => hL) fun v c h => by rw [hnone] at h; cases h⟩
/-- The classes are those of the states that tell the same. -/
structure Blocks (k K : Nat) (G : Nat → Nat → Int) (R : Nat → Int) (of : Nat → Int) : Prop where
 lt : ∀ s, s < k → 0 ≤ of s ∧ of s < (k : Int)
 iff : ∀ s t : Nat, s < k → t < k → (of s = of t ↔ AlikeT K G R s t)
theorem blocks_rounds : ∀ (m : Nat) (count : Int) (c : Nat) (of : Nat → Int), (count = c ∧ k + 1 ≤ c + m ∨ count = 0 ∧ k + 2 ≤ c + m) → Part k of c → (∀ s t : Nat, s < k → t < k → AlikeT K G R s t → of s = of t) →
  ∃ next', Blocks k K G R next' ∧ L43_0 an af pl k fn G k R st k count k of (.vec false 1 k k (fun i => .sc (.int .i64 (next' i)))) := by
 intro m
 induction m with
 | zero =>
  intro count c of hm hp _
  have := hp.le
  omega
 | succ m ih =>
  intro count c of hm hp ha
  have hk := hT.kle
  have hpos := hT.pos
  have hcle := hp.le
  have hof : ∀ s, s < k → 0 ≤ of s ∧ of s < (k : Int) := fun s hs => by have := hp.lt s hs; omega
  obtain ⟨next', hP, hL⟩ := blocks_states hT hfn hof count (Blocks k K G R) (an := an) (af := af) (pl := pl) (st := st) (fun next ks n clk M hM hr => by
   have hkey : ∀ s t, s < k → t < k → (next s = next t ↔ stepKey K G R of s = stepKey K G R of t) := by
    intro s t hs ht
    obtain ⟨i, hi, h1, h2⟩ := hr.key s hs
    obtain ⟨j, hj, h3, h4⟩ := hr.key t ht
    rw [h1, h3, ← h2, ← h4]
    constructor
    ·intro h; rw [show i = j by omega]
    ·intro h; rw [hM.inj i j hi hj h]
   have hpn : Part k next n := ⟨fun s hs => by
    obtain ⟨i, hi, h1, _⟩ := hr.key s hs
    omega, hr.on⟩
   obtain ⟨hcn, hcn'⟩ := hp.finer hpn fun s t hs ht h => (stepKey_eq.1 ((hkey s t hs ht).1 h)).2.1
   have hc1 : 1 ≤ c := by have := hp.lt 0 (by omega); omega
   have ha' : ∀ s t : Nat, s < k → t < k → AlikeT K G R s t → next s = next t := fun s t hs ht h => (hkey s t hs ht).2 (hT.alikeStep ha hs ht h)
   have hnle := hpn.le
   by_cases he : (n : Int) = count
   ·have hnc : n = c := by omega
    refine ⟨next, ⟨fun s hs => by have := hpn.lt s hs; omega, fun s t hs ht => ⟨fun h => ?_, ha' s t hs ht⟩⟩, ?_⟩
    ·refine fun w hw => hT.fixed hpn (fun s t hs ht h => ?_) w hw s t hs ht h
     have h1 := (hkey s t hs ht).1 h
     obtain ⟨e1, e2, e3⟩ := stepKey_eq.1 h1
     refine stepKey_eq.2 ⟨e1, h, fun i hi => ?_⟩
     obtain ⟨l1, l2⟩ := hT.go s i hs hi
     obtain ⟨l3, l4⟩ := hT.go t i ht hi
     have e4 := e3 i hi
     split at e4 <;> split at e4
     ·rename_i p1 p2
      rw [if_pos p1, if_pos p2]
      exact hcn' hnc _ _ (by omega) (by omega) e4
     ·rename_i p1 p2
      have := hof (G s i).toNat (by omega); omega
     ·rename_i p1 p2
      have := hof (G t i).toNat (by omega); omega
     ·rename_i p1 p2
      rw [if_neg p1, if_neg p2]
    ·apply r43_1
     refine ⟨fun h => by have := of_decide_eq_true h; omega, fun _ => ⟨fun _ => ⟨⟨by omega, Sub.refl _⟩, Sub.refl _⟩, fun h => ?_⟩⟩
     have : ((n : Int) == count) = true := by rw [he]; exact beq_self_eq_true _
     rw [this] at h; cases h
   ·have hne : ((n : Int) == count) = false := by simpa using he
    have hmm : k + 1 ≤ n + m := by omega
    obtain ⟨next', hP, hL⟩ := ih (n : Int) n next (.inl ⟨rfl, hmm⟩) hpn ha'
    refine ⟨next', hP, ?_⟩
    apply r43_1
    refine ⟨fun h => by have := of_decide_eq_true h; omega, fun _ => ⟨fun h => (by rw [hne] at h; cases h), fun _ => hL⟩⟩) k 0 0 0 (fun _ => none) (fun _ => []) (fun _ => 0) (by omega) NumMap.empty ⟨fun t ht => by omega, fun i hi => by omega⟩
  refine ⟨next', hP, ?_⟩
  apply r43_0
  simp only [Int.toNat_natCast]
  exact ⟨⟨by omega, by omega, by omega, by omega⟩, hL⟩
theorem blocks_ok : ∃ of, Blocks k K G R of ∧ Ok Go.Proofs.Try.prog 43 [tableF true an af pl k fn G k R st] [] (.vec false 1 k k (fun i => .sc (.int .i64 (of i)))) [] := by
 have hk := hT.kle
 have hpos := hT.pos
 obtain ⟨of, hP, hL⟩ := blocks_rounds hT hfn (an := an) (af := af) (pl := pl) (st := st) (k + 1) 0 1 (fun _ => 0) (.inr ⟨rfl, by omega⟩) ⟨fun s hs => by omega, fun i hi => ⟨0, by omega, by omega⟩⟩ (fun _ _ _ _ _ => rfl)
 refine ⟨of, hP, o43 _ _ _ _ _ _ _ _ _ _ ⟨rfl, fun _ _ => trivial⟩ (r43_e _ _ _ _ _ _ _ _ _ _ ?_)⟩
 simp only [Int.toNat_natCast]
 exact ⟨⟨by omega, by omega, by omega, by omega⟩, hL⟩
end
end Go.Am.Seat
end

section
/-! Machine: mini.tabled. -/
namespace Go.Am.Seat
open Go Go.Am
set_option linter.unusedVariables false
theorem rule_ok (d : Dfa) {s : Nat} (hs : s < d.rk) : Ok Go.Proofs.Try.prog 76 [dfaA d, .sc (.int .i64 (s : Int))] [] (.sc (.int .i64 (ruleAt d s))) [] := by
 refine o76 _ _ _ _ _ _ _ _ _ trivial (r76_e _ _ _ _ _ _ _ _ _ ?_)
 rw [Int.toNat_natCast, ruleAt_tab]
 exact ⟨⟨by omega, by omega⟩, Sub.refl _⟩
abbrev rowsA (g : Bool) (k : Nat) (fn : Nat → Nat) (G : Nat → Nat → Int) : AV := .vec g 1 k k (fun i => .vec g 1 (fn i) (fn i) (fun c => .sc (.int .i64 (G i c))))
section
variable {d : Dfa} (hv : d.valid) {K : Nat} {r : Nat → Nat} {pl : Nat → Int} (hr : RepsTo d.cl 256 K r) (hp : PlaceOf d K r pl)
/-- What is wanted in the end. -/
abbrev TabRes (d : Dfa) (L : AV → Prop) : Prop := ∃ K r pl fn G R, Tabled d K r pl G R ∧ (∀ s, s < d.nk → fn s = K) ∧ L (tableF false K (fun i => (r i : Int)) pl d.nk fn G d.nk R d.st)
include hv hr hp
open Classical in
/-- What leads to no rule is cut off. -/
theorem tabled_cut {is : Nat → Bool} (his : ∀ s : Nat, s < d.nk → (is s = true ↔ Live d s)) {R : Nat → Int} (hR : ∀ s, s < d.nk → R s = ruleAt d s) : ∀ (m s : Nat) (fn : Nat → Nat) (G : Nat → Nat → Int), s + m = d.nk →
  (∀ s, s < d.nk → fn s = K) → (∀ a i, a < d.nk → i < K → G a i = if a < s ∧ ¬ Live d (goS d a (r i)) then -1 else goS d a (r i)) →
  TabRes d (L42_4 d.nk is d.nk d.nk s K (fun i => (r i : Int)) pl d.nk d.nk d.st d.nk fn G d.nk R) := by
 intro m
 induction m with
 | zero =>
  intro s fn G hs hfn hG
  obtain rfl : s = d.nk := by omega
  refine ⟨K, r, pl, fn, G, R, ⟨hr, hp, fun a i ha hi hl => ?_, fun a i ha hi hl => ?_, hR⟩, hfn, ?_⟩
  ·rw [hG a i ha hi, if_neg (fun h => h.2 hl)]
  ·rw [hG a i ha hi, if_pos ⟨ha, hl⟩]
  ·apply r42_4
   exact ⟨fun h => by have := of_decide_eq_true h; omega, fun _ => ⟨⟨⟨by omega, by omega⟩, Sub.refl _⟩, Sub.refl _⟩⟩
 | succ m ih =>
  intro s fn G hs hfn hG
  have hsk : s < d.nk := by omega
  have hk := hv.1
  have hK := hr.le
  have row : ∀ (q j : Nat) (f : Nat → Int), j + q = K → (∀ i, i < K → f i = if i < j ∧ ¬ Live d (goS d s (r i)) then -1 else goS d s (r i)) →
    TabRes d (L42_5 d.nk is (fn s) d.nk d.nk s (fn s) (fn s) j K (fun i => (r i : Int)) pl d.nk d.nk d.st (fn s) f d.nk fn G s (fn s) d.nk R) := by
   intro q
   induction q with
   | zero =>
    intro j f hj hf
    obtain rfl : j = K := by omega
    obtain ⟨K', r', pl', fn', G', R', h1, h2, hL⟩ := ih (s + 1) (fun i => bif i.beq s then fn s else fn i) (fun i c => bif i.beq s then f c else G i c) (by omega)
     (fun a ha => by
      show (bif a.beq s then fn s else fn a) = _
      rw [bif_beq]; split
      ·exact hfn s hsk
      ·exact hfn a ha)
     (fun a i ha hi => by
      show (bif a.beq s then f i else G a i) = _
      rw [bif_beq]; split
      ·rename_i he
       subst he
       rw [hf i hi]
       by_cases hl : Live d (goS d a (r i))
       ·rw [if_neg (fun h => h.2 hl), if_neg (fun h => h.2 hl)]
       ·rw [if_pos ⟨hi, hl⟩, if_pos ⟨by omega, hl⟩]
      ·rename_i he
       rw [hG a i ha hi]
       by_cases hl : Live d (goS d a (r i))
       ·rw [if_neg (fun h => h.2 hl), if_neg (fun h => h.2 hl)]
       ·by_cases has : a < s
        ·rw [if_pos ⟨has, hl⟩, if_pos ⟨by omega, hl⟩]
        ·rw [if_neg (fun h => has h.1), if_neg (fun h => by omega)])
    refine ⟨K', r', pl', fn', G', R', h1, h2, ?_⟩
    apply r42_5
    rw [wrapSucc (by omega)]
    refine ⟨fun h => by have := of_decide_eq_true h; rw [hfn s hsk] at this; omega, fun _ => ⟨Nat.le_refl _, fun k hk => SubO.ow (Nat.le_refl _) (Nat.le_refl _) (fun _ _ => rfl), hL⟩⟩
   | succ q ihq =>
    intro j f hj hf
    have hfs := hfn s hsk
    have hjK : j < K := by omega
    have hfj := hf j hjK
    rw [if_neg (fun h => by omega)] at hfj
    have hlt := goS_lt hv (s := (s : Int)) (by omega) (hr.lt j hjK)
    have hge := goS_ge d s (r j)
    have step : ∀ f', (∀ i, i < K → f' i = if i < j + 1 ∧ ¬ Live d (goS d s (r i)) then -1 else goS d s (r i)) →
      TabRes d (fun res => L42_6 d.nk is (fn s) d.nk d.nk s (fn s) (fn s) j K (fun i => (r i : Int)) pl d.nk d.nk d.st (fn s) f' d.nk fn G s (fn s) d.nk R res) := by
     intro f' hf'
     obtain ⟨K', r', pl', fn', G', R', h1, h2, hL⟩ := ihq (j + 1) f' (by omega) hf'
     refine ⟨K', r', pl', fn', G', R', h1, h2, ?_⟩
     apply r42_6
     rw [wrapSucc (by omega)]
     exact hL
    by_cases hl : Live d (goS d s (r j))
    ·obtain ⟨K', r', pl', fn', G', R', h1, h2, hL⟩ := step f (fun i hi => by
      rw [hf i hi]
      by_cases hl' : Live d (goS d s (r i))
      ·rw [if_neg (fun h => h.2 hl'), if_neg (fun h => h.2 hl')]
      ·have hne : i ≠ j := fun he => hl' (he ▸ hl)
       by_cases hij : i < j
       ·rw [if_pos ⟨hij, hl'⟩, if_pos ⟨by omega, hl'⟩]
       ·rw [if_neg (fun h => hij h.1), if_neg (fun h => by omega)])
     refine ⟨K', r', pl', fn', G', R', h1, h2, ?_⟩
     obtain ⟨t, ht⟩ : ∃ t : Nat, goS d s (r j) = t := ⟨(goS d s (r j)).toNat, by have := hl.pos; omega⟩
     rw [ht] at hfj hl hlt
     have hist : is t = true := (his t (by omega)).2 hl
     apply r42_5
     simp only [Int.toNat_natCast, hfj, hist]
     refine ⟨fun _ => ⟨⟨by omega, by omega⟩, by omega, fun _ => ⟨⟨by omega, by omega⟩, fun h => (by cases h), fun _ => hL⟩, fun _ => hL⟩, fun h => by have := of_decide_eq_false h; omega⟩
    ·by_cases hneg : goS d s (r j) < 0
     ·have hm1 : goS d s (r j) = -1 := by omega
      obtain ⟨K', r', pl', fn', G', R', h1, h2, hL⟩ := step f (fun i hi => by
       rw [hf i hi]
       by_cases hl' : Live d (goS d s (r i))
       ·rw [if_neg (fun h => h.2 hl'), if_neg (fun h => h.2 hl')]
       ·by_cases hij : i < j
        ·rw [if_pos ⟨hij, hl'⟩, if_pos ⟨by omega, hl'⟩]
        ·rw [if_neg (fun h => hij h.1)]
         by_cases he : i = j
         ·subst he; rw [if_pos ⟨by omega, hl'⟩, hm1]
         ·rw [if_neg (fun h => by omega)])
      refine ⟨K', r', pl', fn', G', R', h1, h2, ?_⟩
      rw [hm1] at hfj
      apply r42_5
      simp only [Int.toNat_natCast, hfj]
      refine ⟨fun _ => ⟨⟨by omega, by omega⟩, by omega, fun h => (by cases h), fun _ => hL⟩, fun h => by have := of_decide_eq_false h; omega⟩
     ·obtain ⟨t, ht⟩ : ∃ t : Nat, goS d s (r j) = t := ⟨(goS d s (r j)).toNat, by omega⟩
      obtain ⟨K', r', pl', fn', G', R', h1, h2, hL⟩ := step (fun i => bif i.beq j then -1 else f i) (fun i hi => by
       show (bif i.beq j then -1 else f i) = _
       rw [bif_beq]
       by_cases he : i = j
       ·subst he; rw [if_pos rfl, if_pos ⟨by omega, hl⟩]
       ·rw [if_neg he, hf i hi]
        by_cases hl' : Live d (goS d s (r i))
        ·rw [if_neg (fun h => h.2 hl'), if_neg (fun h => h.2 hl')]
        ·by_cases hij : i < j
         ·rw [if_pos ⟨hij, hl'⟩, if_pos ⟨by omega, hl'⟩]
         ·rw [if_neg (fun h => hij h.1), if_neg (fun h => by omega)])
      refine ⟨K', r', pl', fn', G', R', h1, h2, ?_⟩
      rw [ht] at hfj hl hlt
      have hist : is t = false := by
       cases hb : is t with
       | false => rfl
       | true => exact absurd ((his t (by omega)).1 hb) hl
      apply r42_5
      simp only [Int.toNat_natCast, hfj, hist]
      refine ⟨fun _ => ⟨⟨by omega, by omega⟩, by omega, fun _ => ⟨⟨by omega, by omega⟩, fun _ => ⟨⟨by omega, by omega⟩, hL⟩, fun h => (by cases h)⟩, fun h => by have h : decide ((t : Int) ≥ 0) = false := h; have := of_decide_eq_false h; omega⟩, fun h => by have := of_decide_eq_false h; omega⟩
  obtain ⟨K', r', pl', fn', G', R', h1, h2, hL⟩ := row K 0 (G s) (by omega) (fun i hi => by rw [hG s i hsk hi, if_neg (fun h => by omega), if_neg (fun h => by omega)])
  refine ⟨K', r', pl', fn', G', R', h1, h2, ?_⟩
  apply r42_4
  simp only [Int.toNat_natCast]
  exact ⟨fun _ => ⟨⟨by omega, by omega⟩, hsk, hL⟩, fun h => by have := of_decide_eq_false h; omega⟩
/-- The rows. -/
theorem tabled_rows : ∀ (m s : Nat) (fn : Nat → Nat) (G : Nat → Nat → Int) (R : Nat → Int), s + m = d.nk →
  (∀ a, a < s → fn a = K) → (∀ a i, a < s → i < K → G a i = goS d a (r i)) → (∀ a, a < s → R a = ruleAt d a) →
  TabRes d (L42_2 d.nk s d.st (fun b => (d.cl b : Int)) d.nk d.ml d.nx d.rk d.ru K (fun i => (r i : Int)) pl s s d.st s fn G s R) := by
 intro m
 induction m with
 | zero =>
  intro s fn G R hs hfn hG hR
  obtain rfl : s = d.nk := by omega
  have hT : TabOf d K r G R := ⟨hr, fun a i ha hi _ => hG a i ha hi, fun a i ha hi _ => .inl (hG a i ha hi), hR⟩
  obtain ⟨is, his, hO⟩ := lives_ok hv.1 hr.le (G := G) (R := R) (fn := fn) (fun a i ha hi => by
   rw [hG a i ha hi]; exact ⟨goS_ge d a (r i), goS_lt hv (by omega) (hr.lt i hi)⟩) hfn
  obtain ⟨K', r', pl', fn', G', R', h1, h2, hL⟩ := tabled_cut hv hr hp (is := is) (fun a ha => (his a ha).trans (hT.live hv (by omega))) hR d.nk 0 fn G (by omega) hfn (fun a i ha hi => by
   rw [if_neg (fun h => by omega)]; exact hG a i ha hi)
  refine ⟨K', r', pl', fn', G', R', h1, h2, ?_⟩
  apply r42_2
  refine ⟨fun h => by have := of_decide_eq_true h; omega, fun _ => ⟨(d.nk, is), ⟨⟨by omega, by omega⟩, hO⟩, hL⟩⟩
 | succ m ih =>
  intro s fn G R hs hfn hG hR
  have hsk : s < d.nk := by omega
  have hk := hv.1
  have hK := hr.le
  have row : ∀ (q j : Nat) (f : Nat → Int), j + q = K → (∀ i, i < j → f i = goS d s (r i)) →
    TabRes d (L42_3 s K d.nk s K (fun i => (r i : Int)) K j d.st (fun b => (d.cl b : Int)) d.nk d.ml d.nx d.rk d.ru K (fun i => (r i : Int)) pl s s d.st K f s fn G s R) := by
   intro q
   induction q with
   | zero =>
    intro j f hj hf
    obtain rfl : j = K := by omega
    obtain ⟨K', r', pl', fn', G', R', h1, h2, hL⟩ := ih (s + 1) (fun i => bif i.beq s then j else fn i) (fun i c => bif i.beq s then f c else G i c) (fun i => bif i.blt s then R i else ruleAt d s) (by omega)
     (fun a ha => by
      show (bif a.beq s then j else fn a) = _
      rw [bif_beq]; split
      ·rfl
      ·exact hfn a (by omega))
     (fun a i ha hi => by
      show (bif a.beq s then f i else G a i) = _
      rw [bif_beq]; split
      ·rename_i he; subst he; exact hf i hi
      ·exact hG a i (by omega) hi)
     (fun a ha => by
      show (bif a.blt s then R a else ruleAt d s) = _
      rw [bif_blt]; split
      ·rename_i h; exact hR a h
      ·rw [show a = s by omega])
    refine ⟨K', r', pl', fn', G', R', h1, h2, ?_⟩
    apply r42_3
    rw [wrapSucc (n := s) (by omega)]
    refine ⟨fun h => by have := of_decide_eq_true h; omega, fun _ => ⟨⟨by omega, by omega, by unfold maxLen; omega⟩, ruleAt d s, rule_ok d (by rw [hv.2.1]; exact hsk), ⟨by omega, by omega, by unfold maxLen; omega⟩, Nat.le_refl _, fun k hk => ?_, hL⟩⟩
    exact SubO.ow (Nat.le_refl _) (Nat.le_refl _) (fun _ _ => rfl)
   | succ q ihq =>
    intro j f hj hf
    have hjK : j < K := by omega
    have hb := hr.lt j hjK
    have hcl := hv.2.2.2.2.2.2.2.1 (r j) hb
    have hml := (hv.2.2.2.2.2.2.2.2 s hsk).1
    obtain ⟨K', r', pl', fn', G', R', h1, h2, hL⟩ := ihq (j + 1) (fun i => bif i.beq j then goS d s (r j) else f i) (by omega) (fun i hi => by
     show (bif i.beq j then goS d s (r j) else f i) = _
     rw [bif_beq]; split
     ·rename_i he; rw [he]
     ·exact hf i (by omega))
    refine ⟨K', r', pl', fn', G', R', h1, h2, ?_⟩
    apply r42_3
    rw [wrapSucc (by omega)]
    simp only [Int.toNat_natCast, if_true]
    simp only [← goS_tab]
    refine ⟨fun _ => ⟨⟨by omega, by omega⟩, ⟨by omega, by omega⟩, ⟨by omega, by omega⟩, by omega, ⟨by omega, by omega⟩, ⟨by omega, by omega⟩, hjK, hL⟩, fun h => by have := of_decide_eq_false h; omega⟩
  obtain ⟨K', r', pl', fn', G', R', h1, h2, hL⟩ := row K 0 (fun _ => 0) (by omega) (fun i hi => by omega)
  refine ⟨K', r', pl', fn', G', R', h1, h2, ?_⟩
  apply r42_2
  simp only [Int.toNat_natCast]
  exact ⟨fun _ => ⟨⟨by omega, by omega, by omega, by omega⟩, hL⟩, fun h => by have := of_decide_eq_false h; omega⟩
end
section
variable {d : Dfa} (hv : d.valid) {K : Nat} {r : Nat → Nat} (hr : RepsTo d.cl 256 K r)
include hv hr
/-- The places. -/
theorem tabled_place {of : Nat → Int} (hof : ∀ i, i < K → of (d.cl (r i)) = (i : Int)) : ∀ (m b : Nat) (pl : Nat → Int), b + m = 256 → (∀ c, c < b → pl c = of (d.cl c)) →
  TabRes d (L42_1 b d.st (fun b => (d.cl b : Int)) d.nk d.ml d.nx d.rk d.ru K (fun i => (r i : Int)) pl d.st of) := by
 intro m
 induction m with
 | zero =>
  intro b pl hb hpl
  obtain rfl : b = 256 := by omega
  have hp : PlaceOf d K r pl := fun c hc => by
   obtain ⟨i, hi, _, hcl⟩ := hr.all c hc
   exact ⟨i, hi, by rw [hpl c hc, ← hcl, hof i hi], hcl⟩
  obtain ⟨K', r', pl', fn', G', R', h1, h2, hL⟩ := tabled_rows hv hr hp d.nk 0 (fun _ => 0) (fun _ _ => Int.ofNat 0) (fun _ => Int.ofNat 0) (by omega) (fun a ha => by omega) (fun a i ha => by omega) (fun a ha => by omega)
  refine ⟨K', r', pl', fn', G', R', h1, h2, ?_⟩
  apply r42_1
  exact ⟨fun h => by have := of_decide_eq_true h; omega, fun _ => hL⟩
 | succ m ih =>
  intro b pl hb hpl
  have hcl := hv.2.2.2.2.2.2.2.1 b (by omega)
  have hm := hv.2.2.2.2.2.2.1
  obtain ⟨K', r', pl', fn', G', R', h1, h2, hL⟩ := ih (b + 1) (fun i => bif i.beq b then of (d.cl b) else pl i) (by omega) (fun c hc => by
   show (bif c.beq b then of (d.cl b) else pl c) = _
   rw [bif_beq]; split
   ·rename_i he; rw [he]
   ·exact hpl c (by omega))
  refine ⟨K', r', pl', fn', G', R', h1, h2, ?_⟩
  apply r42_1
  rw [wrapSucc (by omega)]
  simp only [Int.toNat_natCast]
  exact ⟨fun _ => ⟨⟨by omega, by omega⟩, by omega, ⟨by omega, by omega⟩, by omega, hL⟩, fun h => by have := of_decide_eq_false h; omega⟩
theorem tabled_of : ∀ (m j : Nat) (of : Nat → Int), j + m = K → (∀ i, i < j → of (d.cl (r i)) = (i : Int)) →
  TabRes d (L42_0 K (fun i => (r i : Int)) K j d.st (fun b => (d.cl b : Int)) d.nk d.ml d.nx d.rk d.ru K (fun i => (r i : Int)) (fun _ => 0) d.st of) := by
 intro m
 induction m with
 | zero =>
  intro j of hj hof
  obtain rfl : j = K := by omega
  obtain ⟨K', r', pl', fn', G', R', h1, h2, hL⟩ := tabled_place hv hr hof 256 0 (fun _ => 0) (by omega) (fun c hc => by omega)
  refine ⟨K', r', pl', fn', G', R', h1, h2, ?_⟩
  apply r42_0
  exact ⟨fun h => by have := of_decide_eq_true h; omega, fun _ => hL⟩
 | succ m ih =>
  intro j of hj hof
  have hjK : j < K := by omega
  have hK := hr.le
  have hb := hr.lt j hjK
  have hcl := hv.2.2.2.2.2.2.2.1 (r j) hb
  have hm := hv.2.2.2.2.2.2.1
  obtain ⟨K', r', pl', fn', G', R', h1, h2, hL⟩ := ih (j + 1) (fun i => bif i.beq (d.cl (r j)) then (j : Int) else of i) (by omega) (fun i hi => by
   show (bif (d.cl (r i)).beq (d.cl (r j)) then (j : Int) else of (d.cl (r i))) = _
   rw [bif_beq]; split
   ·rename_i he; rw [hr.inj i j (by omega) hjK he]
   ·rename_i he
    exact hof i (by
     by_cases hij : i = j
     ·subst hij; exact absurd rfl he
     ·omega))
  refine ⟨K', r', pl', fn', G', R', h1, h2, ?_⟩
  apply r42_0
  rw [wrapSucc (by omega)]
  simp only [Int.toNat_natCast]
  exact ⟨fun _ => ⟨⟨by omega, by omega⟩, ⟨by omega, by omega⟩, by omega, ⟨by omega, by omega⟩, by omega, hL⟩, fun h => by have := of_decide_eq_false h; omega⟩
end
theorem tabled_ok (d : Dfa) (hv : d.valid) : TabRes d (fun res => Ok Go.Proofs.Try.prog 42 [dfaA d] [] res []) := by
 obtain ⟨K, r, hr, hO⟩ := reps_ok d hv
 obtain ⟨K', r', pl', fn', G', R', h1, h2, hL⟩ := tabled_of hv hr K 0 (fun _ => 0) (by omega) (fun i hi => by omega)
 refine ⟨K', r', pl', fn', G', R', h1, h2, o42 _ _ _ _ _ _ _ _ ?_ (r42_e _ _ _ _ _ _ _ _ ⟨(K, fun i => (r i : Int)), hO, hL⟩)⟩
 exact ⟨rfl, ⟨rfl, fun _ _ => trivial⟩, fun _ _ => trivial, ⟨rfl, fun _ _ => ⟨rfl, fun _ _ => trivial⟩⟩, ⟨rfl, fun _ _ => trivial⟩, trivial, trivial⟩
end Go.Am.Seat
end

section
/-! Machine: mini.classed: bytes that lead alike get one class. -/
namespace Go.Am.Seat
open Go Go.Am
set_option linter.unusedVariables false
/-- A column as a key. -/
def colKey (L : Nat) (T : Nat → Nat → Int) (i : Nat) : List Int := (List.range L).map (fun a => T a i)
theorem colKey_eq {L : Nat} {T : Nat → Nat → Int} {i j : Nat} : colKey L T i = colKey L T j ↔ ∀ a, a < L → T a i = T a j := by
 unfold colKey
 constructor
 ·intro h a ha
  have := congrArg (fun l => l[a]?) h
  simpa [ha] using this
 ·intro h
  exact List.map_congr_left fun a ha => h a (List.mem_range.1 ha)
/-- The classes of the columns below i. -/
structure Cls (L : Nat) (T : Nat → Nat → Int) (i n : Nat) (ks : Nat → List Int) (cj first : Nat → Nat) : Prop where
 key : ∀ j, j < i → cj j < n ∧ ks (cj j) = colKey L T j
 fst : ∀ c, c < n → first c < i ∧ cj (first c) = c ∧ ∀ j, j < first c → cj j < c
theorem Cls.le {L : Nat} {T : Nat → Nat → Int} {i n : Nat} {ks : Nat → List Int} {cj first : Nat → Nat} (h : Cls L T i n ks cj first) : n ≤ i :=
 pigeon i n first (fun c hc => (h.fst c hc).1) fun a b ha hb he => by
  have h1 := (h.fst a ha).2.1
  have h2 := (h.fst b hb).2.1
  rw [he, h2] at h1; exact h1.symm
theorem Cls.old {L : Nat} {T : Nat → Nat → Int} {i n : Nat} {ks : Nat → List Int} {cj first : Nat → Nat} (h : Cls L T i n ks cj first) {c : Nat} (hc : c < n) (hk : ks c = colKey L T i) :
  Cls L T (i + 1) n ks (fun j => if j = i then c else cj j) first where
 key := fun j hj => by
  show (if j = i then c else cj j) < n ∧ ks (if j = i then c else cj j) = _
  split
  ·rename_i he; subst he; exact ⟨hc, hk⟩
  ·exact h.key j (by omega)
 fst := fun a ha => by
  obtain ⟨h1, h2, h3⟩ := h.fst a ha
  refine ⟨by omega, ?_, fun j hj => ?_⟩
  ·show (if first a = i then c else cj (first a)) = a
   rw [if_neg (by omega)]; exact h2
  ·show (if j = i then c else cj j) < a
   rw [if_neg (by omega)]; exact h3 j hj
theorem Cls.new {L : Nat} {T : Nat → Nat → Int} {i n : Nat} {ks : Nat → List Int} {cj first : Nat → Nat} (h : Cls L T i n ks cj first) :
  Cls L T (i + 1) (n + 1) (fun c => if c < n then ks c else colKey L T i) (fun j => if j = i then n else cj j) (fun c => if c < n then first c else i) where
 key := fun j hj => by
  show (if j = i then n else cj j) < n + 1 ∧ (if (if j = i then n else cj j) < n then ks (if j = i then n else cj j) else colKey L T i) = _
  by_cases he : j = i
  ·subst he; simp
  ·obtain ⟨h1, h2⟩ := h.key j (by omega)
   rw [if_neg he, if_pos h1]
   exact ⟨by omega, h2⟩
 fst := fun a ha => by
  show (if a < n then first a else i) < i + 1 ∧ (if (if a < n then first a else i) = i then n else cj (if a < n then first a else i)) = a ∧ ∀ j, j < (if a < n then first a else i) → (if j = i then n else cj j) < a
  by_cases he : a < n
  ·obtain ⟨h1, h2, h3⟩ := h.fst a he
   rw [if_pos he]
   refine ⟨by omega, by rw [if_neg (by omega)]; exact h2, fun j hj => ?_⟩
   rw [if_neg (by omega)]; exact h3 j hj
  ·rw [if_neg he, if_pos rfl]
   refine ⟨by omega, by omega, fun j hj => ?_⟩
   rw [if_neg (by omega)]
   have := (h.key j hj).1
   omega
abbrev dfaO (x : Dfa) (p q : Nat) : AV := .cons 1 (.sc (.int .i64 x.st)) (.cons 256 (.ar 256 1 (fun b => .sc (.int .u8 (x.cl b : Int)))) (.cons 1 (.rf p 1 0 x.nk) (.cons 1 (.rf q 1 0 x.rk) .nil)))
abbrev rowsO (x : Dfa) : AV := .av x.nk 1 (fun i => .ow 3 0 1 (x.ml i) (x.ml i) (fun c => .sc (.int .i64 (x.nx i c))))
abbrev ruleO (x : Dfa) : AV := .ar x.rk 1 (fun i => .sc (.int .i64 (x.ru i)))
abbrev outA (x : Dfa) : List (Nat × Nat × AV) := [(2000, 26, dfaO x 1000 2001), (2001, 3, ruleO x), (1000, 24, rowsO x)]
theorem outA_refl (x : Dfa) : SubOut (outA x) (outA x) := ⟨rfl, rfl, SubB.refl _, rfl, rfl, SubB.refl _, rfl, rfl, ⟨rfl, Nat.le_refl _, fun k hk => SubO.refl _ _⟩, trivial⟩
section
variable {d : Dfa} (hv : d.valid) {K : Nat} {r : Nat → Nat} (hr : RepsTo d.cl 256 K r) {ix : Nat → Nat} (hix : ∀ b, b < 256 → ix b < K ∧ d.cl (r (ix b)) = d.cl b)
 {L : Nat} (hL1 : 1 ≤ L) (hL2 : L ≤ 2048) {fn : Nat → Nat} {T : Nat → Nat → Int} (hfn : ∀ a, a < L → fn a = K) (hT : ∀ a i, a < L → i < K → okV (T a i)) (Rf : Nat → Int)
abbrev CRes (L : Nat) (Rf : Nat → Int) (T : Nat → Nat → Int) (ix : Nat → Nat) (P : AV → List (Nat × Nat × AV) → Prop) : Prop :=
 ∃ x : Dfa, ClassOf x L Rf (fun a b => T a (ix b)) ∧ (∀ b, x.cl b < 256) ∧ P AV.nil.tup (outA x)
include hr hix in
/-- What was made is as it should be. -/
theorem classed_law {n : Nat} {M : MapF} {ks : Nat → List Int} {cj first : Nat → Nat} (hM : NumMap M n ks) (hc : Cls L T K n ks cj first) {cl : Nat → Nat} (hcl : ∀ b, b < 256 → cl b = cj (ix b)) {ml : Nat → Nat} (hml : ∀ a, a < L → ml a = n)
  {nx : Nat → Nat → Int} (hnx : ∀ a c, a < L → c < n → nx a c = T a (first c)) (h1 : 1 ≤ L) : ClassOf ⟨0, cl, L, ml, nx, L, Rf⟩ L Rf (fun a b => T a (ix b)) where
 st := rfl
 nk := rfl
 rk := rfl
 ml := fun i hi => by show ml i = ml 0; rw [hml i hi, hml 0 (by omega)]
 ru := fun _ _ => rfl
 cl := fun b hb => by
  show cl b < ml 0
  rw [hcl b hb, hml 0 (by omega)]
  exact (hc.key _ (hix b hb).1).1
 nx := fun a b ha hb => by
  show nx a (cl b) = T a (ix b)
  rw [hcl b hb]
  obtain ⟨h2, h3⟩ := hc.key _ (hix b hb).1
  rw [hnx a _ ha h2]
  obtain ⟨h4, h5, _⟩ := hc.fst _ h2
  have h6 := (hc.key _ h4).2
  rw [h5, h3] at h6
  exact (colKey_eq.1 h6 a ha).symm
 col := fun b b' hb hb' he => by
  show cl b = cl b'
  rw [hcl b hb, hcl b' hb']
  obtain ⟨h2, h3⟩ := hc.key _ (hix b hb).1
  obtain ⟨h4, h5⟩ := hc.key _ (hix b' hb').1
  exact hM.inj _ _ h2 h4 (by rw [h3, h5]; exact colKey_eq.2 he)
 cls := fun c hcn => by
  have hcn : c < n := by rw [← hml 0 (by omega)]; exact hcn
  obtain ⟨h2, h3, h4⟩ := hc.fst c hcn
  have hrb := hr.lt _ h2
  have hrix : ix (r (first c)) = first c := hr.inj _ _ (hix _ hrb).1 h2 (hix _ hrb).2
  refine ⟨r (first c), hrb, ?_, fun b' hb' => ?_⟩
  ·show cl (r (first c)) = c
   rw [hcl _ hrb, hrix]; exact h3
  ·show cl b' < c
   have hb256 : b' < 256 := by omega
   rw [hcl b' hb256]
   apply h4
   obtain ⟨i, hi, hle, hcli⟩ := hr.all b' hb256
   have hi' : ix b' = i := hr.inj _ _ (hix b' hb256).1 hi ((hix b' hb256).2.trans hcli.symm)
   rw [hi']
   by_cases hlt : i < first c
   ·exact hlt
   ·by_cases he : i = first c
    ·subst he; omega
    ·have := hr.up (first c) i (by omega) hi; omega
include hr hix hL1 hL2 hfn in
/-- The rows. -/
theorem classed_rows {n : Nat} {M : MapF} {ks : Nat → List Int} {cj first : Nat → Nat} (hM : NumMap M n ks) (hc : Cls L T K n ks cj first) {cl : Nat → Nat} (hcl : ∀ b, b < 256 → cl b = cj (ix b)) (h8 : ∀ b, cl b < 256) :
  ∀ (m a : Nat) (ml : Nat → Nat) (nx : Nat → Nat → Int), a + m = L → (∀ a', a' < a → ml a' = n) → (∀ a' c, a' < a → c < n → nx a' c = T a' (first c)) →
  CRes L Rf T ix (L44_5 n L fn T L a 0 (fun b => (cl b : Int)) a L L Rf n (fun c => (first c : Int)) a ml nx) := by
 intro m
 induction m with
 | zero =>
  intro a ml nx ha hml hnx
  obtain rfl : a = L := by omega
  refine ⟨_, classed_law hr hix Rf hM hc hcl hml hnx hL1, h8, ?_⟩
  apply r44_5
  exact ⟨fun h => by have := of_decide_eq_true h; omega, fun _ => ⟨Sub.refl _, outA_refl ⟨0, cl, a, ml, nx, a, Rf⟩⟩⟩
 | succ m ih =>
  intro a ml nx ha hml hnx
  have hn := hc.le
  have hK := hr.le
  have row : ∀ (q j : Nat) (f : Nat → Int), j + q = n → (∀ c, c < j → f c = T a (first c)) →
    CRes L Rf T ix (L44_6 n (fn a) (T a) n L fn T L a n n j 0 (fun b => (cl b : Int)) a L L Rf n (fun c => (first c : Int)) n f a ml nx) := by
   intro q
   induction q with
   | zero =>
    intro j f hj hf
    obtain rfl : j = n := by omega
    obtain ⟨x, hx, x8, hL⟩ := ih (a + 1) (fun i => bif i.beq a then j else ml i) (fun i c => bif i.beq a then f c else nx i c) (by omega)
     (fun a' ha' => by
      show (bif a'.beq a then j else ml a') = _
      rw [bif_beq]; split
      ·rfl
      ·exact hml a' (by omega))
     (fun a' c ha' hc' => by
      show (bif a'.beq a then f c else nx a' c) = _
      rw [bif_beq]; split
      ·rename_i he; subst he; exact hf c hc'
      ·exact hnx a' c (by omega) hc')
    refine ⟨x, hx, x8, ?_⟩
    apply r44_6
    rw [wrapSucc (n := a) (by omega)]
    exact ⟨fun h => by have := of_decide_eq_true h; omega, fun _ => ⟨⟨by omega, by omega, by unfold maxLen; omega⟩, Nat.le_refl _, fun k hk => SubO.ow (Nat.le_refl _) (Nat.le_refl _) (fun _ _ => rfl), hL⟩⟩
   | succ q ihq =>
    intro j f hj hf
    have hjn : j < n := by omega
    have hfj := (hc.fst j hjn).1
    obtain ⟨x, hx, x8, hL⟩ := ihq (j + 1) (fun i => bif i.beq j then T a (first j) else f i) (by omega) (fun c hc' => by
     show (bif c.beq j then T a (first j) else f c) = _
     rw [bif_beq]; split
     ·rename_i he; rw [he]
     ·exact hf c (by omega))
    refine ⟨x, hx, x8, ?_⟩
    apply r44_6
    rw [wrapSucc (by omega)]
    simp only [Int.toNat_natCast]
    exact ⟨fun _ => ⟨⟨by omega, by omega⟩, by omega, ⟨by omega, by rw [hfn a (by omega)]; omega⟩, ⟨by omega, by omega⟩, by omega, hL⟩, fun h => by have := of_decide_eq_false h; omega⟩
  obtain ⟨x, hx, x8, hL⟩ := row n 0 (fun _ => 0) (by omega) (fun c hc' => by omega)
  refine ⟨x, hx, x8, ?_⟩
  apply r44_5
  simp only [Int.toNat_natCast]
  exact ⟨fun _ => ⟨⟨by omega, by omega⟩, ⟨by omega, by omega, by omega, by omega⟩, hL⟩, fun h => by have := of_decide_eq_false h; omega⟩
include hv hr hix hL1 hL2 hfn
/-- The classes of the bytes. -/
theorem classed_cls {n : Nat} {M : MapF} {ks : Nat → List Int} {cj first : Nat → Nat} (hM : NumMap M n ks) (hc : Cls L T K n ks cj first) {of : Nat → Nat} (hof : ∀ j, j < K → of (d.cl (r j)) = cj j) (of8 : ∀ k, of k < 256) :
  ∀ (m b : Nat) (cl : Nat → Nat), b + m = 256 → (∀ b', b' < b → cl b' = cj (ix b')) → (∀ b', cl b' < 256) →
  CRes L Rf T ix (L44_4 L fn T n b 0 (fun b => (cl b : Int)) L L Rf d.st (fun b => (d.cl b : Int)) d.nk d.ml d.nx d.rk d.ru (fun c => (of c : Int)) n (fun c => (first c : Int))) := by
 intro m
 induction m with
 | zero =>
  intro b cl hb hcl cl8
  obtain rfl : b = 256 := by omega
  obtain ⟨x, hx, x8, hL⟩ := classed_rows hr hix hL1 hL2 hfn Rf hM hc hcl cl8 L 0 (fun _ => 0) (fun _ _ => Int.ofNat 0) (by omega) (fun a ha => by omega) (fun a c ha => by omega)
  refine ⟨x, hx, x8, ?_⟩
  apply r44_4
  exact ⟨fun h => by have := of_decide_eq_true h; omega, fun _ => hL⟩
 | succ m ih =>
  intro b cl hb hcl cl8
  have hdc := hv.2.2.2.2.2.2.2.1 b (by omega)
  have hm := hv.2.2.2.2.2.2.1
  obtain ⟨h1, h2⟩ := hix b (by omega)
  obtain ⟨x, hx, x8, hL⟩ := ih (b + 1) (fun i => if i = b then of (d.cl b) else cl i) (by omega) (fun b' hb' => by
   show (if b' = b then of (d.cl b) else cl b') = _
   split
   ·rename_i he; subst he; rw [← h2]; exact hof _ h1
   ·exact hcl b' (by omega)) (fun b' => by
   show (if b' = b then of (d.cl b) else cl b') < 256
   split
   ·exact of8 _
   ·exact cl8 b')
  refine ⟨x, hx, x8, ?_⟩
  have e : (fun i => bif i.beq b then (of (d.cl b) : Int) else (cl i : Int)) = fun i => (((fun i => if i = b then of (d.cl b) else cl i) i : Nat) : Int) := by funext i; rw [bif_beq, castIte]
  apply r44_4
  rw [wrapSucc (by omega)]
  simp only [Int.toNat_natCast, e]
  exact ⟨fun _ => ⟨⟨by omega, by omega⟩, by omega, ⟨by omega, by omega⟩, by omega, hL⟩, fun h => by have := of_decide_eq_false h; omega⟩
include hT
/-- The columns. -/
theorem classed_cols : ∀ (m i n clk : Nat) (M : MapF) (ks : Nat → List Int) (cj first of : Nat → Nat), i + m = K → NumMap M n ks → Cls L T i n ks cj first → (∀ j, j < i → of (d.cl (r j)) = cj j) → (∀ k, of k < 256) →
  CRes L Rf T ix (L44_0 L fn T n K (fun i => (r i : Int)) K i 0 (fun _ => 0) L L Rf d.st (fun b => (d.cl b : Int)) d.nk d.ml d.nx d.rk d.ru n clk M (fun c => (of c : Int)) n (fun c => (first c : Int))) := by
 intro m
 induction m with
 | zero =>
  intro i n clk M ks cj first of hi hM hc hof of8
  obtain rfl : i = K := by omega
  obtain ⟨x, hx, x8, hL⟩ := classed_cls hv hr hix hL1 hL2 hfn Rf hM hc hof of8 256 0 (fun _ => 0) (by omega) (fun b hb => by omega) (fun _ => by decide)
  refine ⟨x, hx, x8, ?_⟩
  apply r44_0
  exact ⟨fun h => by have := of_decide_eq_true h; omega, fun _ => hL⟩
 | succ m ih =>
  intro i n clk M ks cj first of hi hM hc hof of8
  have hiK : i < K := by omega
  have hK := hr.le
  have hn := hc.le
  have hrb := hr.lt i hiK
  have hdc := hv.2.2.2.2.2.2.2.1 (r i) hrb
  have hm := hv.2.2.2.2.2.2.1
  have hvs : ∀ v ∈ colKey L T i, okV v := by
   intro v h
   simp only [colKey, List.mem_map, List.mem_range] at h
   obtain ⟨a, ha, rfl⟩ := h
   exact hT a i ha hiK
  -- behind the key
  have step2 : ∀ (res : AV) (out : List (Nat × Nat × AV)) (c n' clk' : Nat) (M' : MapF) (first' : Nat → Nat), c < 256 → 
    L44_0 L fn T n' K (fun i => (r i : Int)) K ((i + 1 : Nat) : Int) 0 (fun _ => 0) L L Rf d.st (fun b => (d.cl b : Int)) d.nk d.ml d.nx d.rk d.ru n' clk' M' (fun k => ((if k = d.cl (r i) then c else of k : Nat) : Int)) n' (fun c => (first' c : Int)) res out →
    L44_2 L fn T n' (r i) (c : Int) K (fun i => (r i : Int)) K i 0 (fun _ => 0) L L Rf d.st (fun b => (d.cl b : Int)) d.nk d.ml d.nx d.rk d.ru n' clk' M' (fun c => (of c : Int)) n' (fun c => (first' c : Int)) res out := by
   intro res out c n' clk' M' first' hc256 hL
   have e : (fun k => bif k.beq (d.cl (r i)) then (c : Int) else (of k : Int)) = fun k => ((if k = d.cl (r i) then c else of k : Nat) : Int) := by funext k; rw [bif_beq, castIte]
   apply r44_2
   rw [wrap_u8 (by omega) (by omega)]
   simp only [Int.toNat_natCast, e]
   refine ⟨⟨by omega, by omega⟩, hrb, ⟨by omega, by omega⟩, by omega, ?_⟩
   apply r44_3
   rw [wrapSucc (by omega)]
   exact hL
  -- the key
  have step1 : ∀ (res : AV) (out : List (Nat × Nat × AV)),
    (M (key (colKey L T i)) = none → L44_2 L fn T (n + 1) (r i) (n : Int) K (fun i => (r i : Int)) K i 0 (fun _ => 0) L L Rf d.st (fun b => (d.cl b : Int)) d.nk d.ml d.nx d.rk d.ru (n + 1) (clk + 1) (putM M clk (key (colKey L T i)) n) (fun c => (of c : Int)) (n + 1) (fun k => ((if k < n then first k else i : Nat) : Int)) res out) →
    (∀ v c, M (key (colKey L T i)) = some (v, c) → L44_2 L fn T n (r i) v K (fun i => (r i : Int)) K i 0 (fun _ => 0) L L Rf d.st (fun b => (d.cl b : Int)) d.nk d.ml d.nx d.rk d.ru n clk M (fun c => (of c : Int)) n (fun c => (first c : Int)) res out) →
    ∀ (q a : Nat) (l : List Nat) (f : Nat → Int), a + q = L → l = keyL ((List.range a).map (fun a => T a i)) → isRow f l →
    L44_1 L fn T n i (r i) l.length K (fun i => (r i : Int)) K i L fn T L a 0 (fun _ => 0) L L Rf d.st (fun b => (d.cl b : Int)) d.nk d.ml d.nx d.rk d.ru n clk M (fun c => (of c : Int)) l.length f n (fun c => (first c : Int)) res out := by
   intro res out h1 h2 q
   induction q with
   | zero =>
    intro a l f ha hl hf
    obtain rfl : a = L := by omega
    have e : Value.string (str l) = key (colKey a T i) := by rw [hl]; rfl
    have ef : (fun k => bif k.blt n then (first k : Int) else (i : Int)) = fun k => ((if k < n then first k else i : Nat) : Int) := by funext k; rw [bif_blt, castIte]
    apply r44_1
    rw [strOf_zero, strOf_row hf, e, ef]
    refine ⟨fun h => by have := of_decide_eq_true h; omega, fun _ => ⟨⟨by omega, str_size l, fun j hj => ?_⟩, fun h => ⟨⟨by omega, by omega, by unfold maxLen; omega⟩, ?_⟩, fun h => ?_⟩⟩
    ·rw [byteAt_strN hj (hl ▸ keyL_lt _), Nat.zero_add, hf j hj]
    ·cases hm : M (key (colKey a T i)) with
     | none => exact h1 hm
     | some x => rw [hm] at h; cases h
    ·cases hm : M (key (colKey a T i)) with
     | none => rw [hm] at h; cases h
     | some x => exact h2 x.1 x.2 hm
   | succ q ihq =>
    intro a l f ha hl hf
    have hlen : l.length = 3 * a := by rw [hl, keyL_len]; simp
    obtain ⟨g, hg, hO⟩ := put_ok l (by omega) (hT a i (by omega) hiK) f hf
    apply r44_1
    simp only [Int.toNat_natCast]
    rw [wrapSucc (by omega)]
    refine ⟨fun _ => ⟨⟨by omega, by omega⟩, ⟨by omega, by rw [hfn a (by omega)]; omega⟩, (l.length + 3, l.length + 3, g), hO, ?_⟩, fun h => by have := of_decide_eq_false h; omega⟩
    have := ihq (a + 1) (l ++ enc3 (T a i)) g (by omega) (by rw [hl, ← keyL_snoc, List.range_succ, List.map_append]; rfl) hg
    rw [List.length_append, enc3_len] at this
    exact this
  have start : ∀ (res : AV) (out : List (Nat × Nat × AV)),
    L44_1 L fn T n i (r i) 0 K (fun i => (r i : Int)) K i L fn T L 0 0 (fun _ => 0) L L Rf d.st (fun b => (d.cl b : Int)) d.nk d.ml d.nx d.rk d.ru n clk M (fun c => (of c : Int)) 0 (fun _ => Int.ofNat 0) n (fun c => (first c : Int)) res out →
    L44_0 L fn T n K (fun i => (r i : Int)) K i 0 (fun _ => 0) L L Rf d.st (fun b => (d.cl b : Int)) d.nk d.ml d.nx d.rk d.ru n clk M (fun c => (of c : Int)) n (fun c => (first c : Int)) res out := by
   intro res out hL
   apply r44_0
   simp only [Int.toNat_natCast]
   exact ⟨fun _ => ⟨⟨by omega, by omega⟩, hL⟩, fun h => by have := of_decide_eq_false h; omega⟩
  have hof' : ∀ c : Nat, ∀ j, j < i + 1 → (fun k => if k = d.cl (r i) then c else of k) (d.cl (r j)) = (fun j => if j = i then c else cj j) j := by
   intro c j hj
   show (if d.cl (r j) = d.cl (r i) then c else of (d.cl (r j))) = if j = i then c else cj j
   by_cases he : j = i
   ·rw [he, if_pos rfl, if_pos rfl]
   ·rw [if_neg he, if_neg (fun h => he (hr.inj j i (by omega) hiK h))]
    exact hof j (by omega)
  have of8' : ∀ c : Nat, c < 256 → ∀ k, (fun k => if k = d.cl (r i) then c else of k) k < 256 := by
   intro c hc k
   show (if k = d.cl (r i) then c else of k) < 256
   split
   ·exact hc
   ·exact of8 k
  by_cases hold : ∃ c, c < n ∧ ks c = colKey L T i
  ·obtain ⟨c, hcn, hks⟩ := hold
   obtain ⟨c', hc'⟩ := hM.has c hcn
   rw [hks] at hc'
   obtain ⟨x, hx, x8, hL⟩ := ih (i + 1) n clk M ks _ first (fun k => if k = d.cl (r i) then c else of k) (by omega) hM (hc.old hcn hks) (hof' c) (of8' c (by omega))
   refine ⟨x, hx, x8, start _ _ (step1 _ _ (fun h => by rw [hc'] at h; cases h) (fun v c'' h => ?_) L 0 [] _ (by omega) rfl (isRow_nil _))⟩
   rw [hc'] at h
   obtain ⟨rfl, rfl⟩ := Prod.mk.inj (Option.some.inj h)
   exact step2 _ _ c n clk M first (by omega) hL
  ·have hnone := hM.no _ hvs fun c hcn he => hold ⟨c, hcn, he⟩
   obtain ⟨x, hx, x8, hL⟩ := ih (i + 1) (n + 1) (clk + 1) _ _ _ _ (fun k => if k = d.cl (r i) then n else of k) (by omega) (hM.put clk hvs fun c hcn he => hold ⟨c, hcn, he⟩) hc.new (hof' n) (of8' n (by omega))
   refine ⟨x, hx, x8, start _ _ (step1 _ _ (fun _ => ?_) (fun v c h => by rw [hnone] at h; cases h) L 0 [] _ (by omega) rfl (isRow_nil _))⟩
   exact step2 _ _ n (n + 1) (clk + 1) _ (fun k => if k < n then first k else i) (by omega) hL
end
theorem classed_ok {d : Dfa} (hv : d.valid) {K : Nat} {r : Nat → Nat} (hr : RepsTo d.cl 256 K r) {ix : Nat → Nat} (hix : ∀ b, b < 256 → ix b < K ∧ d.cl (r (ix b)) = d.cl b)
  {L : Nat} (hL1 : 1 ≤ L) (hL2 : L ≤ 2048) {fn : Nat → Nat} {T : Nat → Nat → Int} (hfn : ∀ a, a < L → fn a = K) (hT : ∀ a i, a < L → i < K → okV (T a i)) (Rf : Nat → Int) :
  CRes L Rf T ix (fun res out => Ok Go.Proofs.Try.prog 44 [.pt 2000 [] 0, dfaA d, .vec true 1 K K (fun i => .sc (.int .u8 (r i : Int))), rowsA true L fn T]
   [(2000, 26, .cons 1 (.sc (.int .i64 0)) (.cons 256 (.ar 256 1 (fun _ => .sc (.int .u8 0))) (.cons 1 (.sc (.slice none 0 0)) (.cons 1 (.rf 2001 1 0 L) .nil)))), (2001, 3, .ar L 1 (fun i => .sc (.int .i64 (Rf i))))] res out) := by
 obtain ⟨x, hx, x8, hL⟩ := classed_cols hv hr hix hL1 hL2 hfn hT Rf K 0 0 0 (fun _ => none) (fun _ => []) (fun _ => 0) (fun _ => 0) (fun _ => 0) (by omega) NumMap.empty ⟨fun j hj => by omega, fun c hc => by omega⟩ (fun j hj => by omega) (fun _ => by decide)
 refine ⟨x, hx, x8, o44 _ _ _ _ _ _ _ _ _ _ _ _ _ _ _ _ _ _ _ ⟨trivial, fun q hq => ?_⟩ rfl (r44_e _ _ _ _ _ _ _ _ _ _ _ _ _ _ _ _ _ _ _ hL)⟩
 simp only [List.mem_cons, List.not_mem_nil, or_false] at hq
 rcases hq with rfl | rfl | rfl
 ·exact ⟨trivial, fun _ _ => trivial, trivial, trivial, trivial⟩
 ·exact fun _ _ => trivial
 ·exact fun _ _ _ _ => trivial
end Go.Am.Seat
end

section
/-! Machine: mini.Least. -/
namespace Go.Am.Seat
open Go Go.Am
set_option linter.unusedVariables false
abbrev leastV (x : Dfa) (e : Int) : AV := (.cons 1 (dfaO x 1000 1001) (.cons 1 (.sc (.int .i64 e)) .nil) : AV).tup
abbrev leastO (x : Dfa) : List (Nat × Nat × AV) := [(1000, 24, rowsO x), (1001, 3, ruleO x)]
theorem leastO_refl (x : Dfa) : SubOut (leastO x) (leastO x) := ⟨rfl, rfl, ⟨rfl, Nat.le_refl _, fun k hk => SubO.refl _ _⟩, rfl, rfl, SubB.refl _, trivial⟩
theorem leastO_new (x : Dfa) : ∀ q ∈ leastO x, newOnly q.2.2 := by
 intro q hq
 simp only [List.mem_cons, List.not_mem_nil, or_false] at hq
 rcases hq with rfl | rfl
 ·exact fun _ _ _ _ => trivial
 ·exact fun _ _ => trivial
/-- What the least automaton is. -/
structure IsLeast (d x : Dfa) : Prop where
 canon : Canon x
 alike : Alike x 0 d d.st
 le : x.nk ≤ d.nk
 ru : ∀ i, i < x.nk → x.ru i < 48
 cl8 : ∀ b, x.cl b < 256
abbrev LRes (d : Dfa) (P : AV → List (Nat × Nat × AV) → Prop) : Prop := ∃ x : Dfa, IsLeast d x ∧ P (leastV x 0) (leastO x)
/-- What numbers the classes that were come to. -/
structure Numbered (k : Nat) (of : Nat → Int) (L : Nat) (φ : Nat → Nat) (num : Nat → Int) : Prop where
 has : ∀ j, j < L → num (of (φ j)).toNat = ((j + 1 : Nat) : Int)
 no : ∀ c, c < k → (∀ j, j < L → (of (φ j)).toNat ≠ c) → num c = 0
section
variable {d : Dfa} (hv : d.valid) {K : Nat} {r : Nat → Nat} {pl : Nat → Int} {fn : Nat → Nat} {G : Nat → Nat → Int} {R : Nat → Int} (ht : Tabled d K r pl G R) (hfn : ∀ s, s < d.nk → fn s = K)
 {of : Nat → Int} (hb : Blocks d.nk K G R of)
include hv ht hb
theorem block_alike {s t : Nat} (hs : s < d.nk) (hk : t < d.nk) : of s = of t ↔ Alike d s d t :=
 (hb.iff s t hs hk).trans (ht.tab.alike hv (by omega) (by omega))
omit hb in
/-- The rules, and the classes of the bytes. -/
theorem least_rules {L : Nat} {φ : Nat → Nat} {T : Nat → Nat → Int} (hg : Grow d K G L φ T L 0) {f3 : Nat → Int} (h3 : ∀ j, j < L → f3 j = (φ j : Int)) {fn4 : Nat → Nat} {f4 : Nat → Nat → Int} (hn4 : ∀ a, a < L → fn4 a = K) (h4 : ∀ a i, a < L → i < K → f4 a i = T a i) :
  ∀ (m j : Nat) (f8 : Nat → Int), j + m = L → (∀ i, i < j → f8 i = ruleAt d (φ i)) →
  LRes d (L17_4 K (fun i => (r i : Int)) pl d.nk fn G d.nk R d.st L L L j d.st (fun b => (d.cl b : Int)) d.nk d.ml d.nx d.rk d.ru 0 (fun _ => 0) 0 (fun _ => 0) j L f3 L fn4 f4 j f8) := by
 have hLe := hg.le
 have hk := hv.1
 intro m
 induction m with
 | zero =>
  intro j f8 hj h8
  obtain rfl : j = L := by omega
  have hix : ∀ b, b < 256 → (pl b).toNat < K ∧ d.cl (r (pl b).toNat) = d.cl b := fun b hb => by
   obtain ⟨i, hi, he, hc⟩ := ht.pl b hb
   rw [he, Int.toNat_natCast]; exact ⟨hi, hc⟩
  have hTv : ∀ a i, a < j → i < K → okV (f4 a i) := fun a i ha hi => by
   rw [h4 a i ha hi]
   unfold okV
   by_cases hn : G (φ a) i < 0
   ·rw [hg.no a i ha hi (.inl ha) hn]; omega
   ·have := hg.go a i ha hi (.inl ha) (by omega); omega
  obtain ⟨x, hx, x8, hO⟩ := classed_ok hv ht.reps hix hg.pos (by omega) hn4 hTv f8
  have hlo : LeastOf d j φ (fun n b => T n (pl b).toNat) := hg.done (fun b => (pl b).toNat) r (fun b hb => (hix b hb).1)
   (fun i hi => ⟨ht.reps.lt i hi, ht.reps.inj _ _ (hix _ (ht.reps.lt i hi)).1 hi (hix _ (ht.reps.lt i hi)).2⟩)
   (fun b i hb hi hlt => by
    obtain ⟨c, hc, hle, hcl⟩ := ht.reps.all b hb
    have e : (pl b).toNat = c := ht.reps.inj _ _ (hix b hb).1 hc ((hix b hb).2.trans hcl.symm)
    show (pl b).toNat < i
    rw [e]
    by_cases h1 : c < i
    ·exact h1
    ·by_cases h2 : c = i
     ·subst h2; omega
     ·have := ht.reps.up i c (by omega) hc; omega)
   (fun s b hs hb => by
    obtain ⟨h1, h2⟩ := hix b hb
    rw [← goS_class h2 (s : Int)]
    exact ⟨fun hl => ht.yes s _ hs h1 hl, fun hl => by rw [ht.no s _ hs h1 hl]; decide⟩)
  have hx' : ClassOf x j (fun n => ruleAt d (φ n)) (fun n b => T n (pl b).toNat) :=
   {st := hx.st, nk := hx.nk, rk := hx.rk, ml := hx.ml, ru := fun i hi => by rw [hx.ru i hi]; exact h8 i hi, cl := hx.cl
    nx := fun n b hn hb => by rw [hx.nx n b hn hb]; exact h4 n _ hn (hix b hb).1
    col := fun b b' hb hb' he => hx.col b b' hb hb' fun n hn => by
     show f4 n (pl b).toNat = f4 n (pl b').toNat
     rw [h4 n _ hn (hix b hb).1, h4 n _ hn (hix b' hb').1]; exact he n hn
    cls := hx.cls }
  refine ⟨x, ⟨hx'.canon hlo, hx'.alike hlo, by rw [hx.nk]; exact hLe, fun i hi => ?_, x8⟩, ?_⟩
  ·rw [hx.nk] at hi
   have h1 := ((ht.ok hv).ru _ (hg.lt i hi)).2
   rw [ht.ru _ (hg.lt i hi)] at h1
   rw [hx'.ru i hi]; exact h1
  apply r17_4
  refine ⟨fun h => by have := of_decide_eq_true h; omega, fun _ => ⟨(x.st, fun b => (x.cl b : Int), x.nk, x.rk, x.rk, x.ru, x.nk, x.ml, x.nx), ⟨by omega, hO⟩, Sub.refl _, leastO_refl x⟩⟩
 | succ m ih =>
  intro j f8 hj h8
  have hφ := hg.lt j (by omega)
  obtain ⟨x, hx, hL⟩ := ih (j + 1) (fun i => bif i.blt j then f8 i else R (φ j)) (by omega) (fun i hi => by
   show (bif i.blt j then f8 i else R (φ j)) = _
   rw [bif_blt]; split
   ·rename_i h; exact h8 i h
   ·rw [show i = j by omega]; exact ht.ru _ hφ)
  refine ⟨x, hx, ?_⟩
  apply r17_4
  rw [wrapSucc (by omega)]
  simp only [Int.toNat_natCast, h3 j (by omega)]
  exact ⟨fun _ => ⟨⟨by omega, by omega⟩, by omega, ⟨by omega, by omega⟩, ⟨by omega, by omega, by unfold maxLen; omega⟩, hL⟩, fun h => by have := of_decide_eq_false h; omega⟩
include hfn
/-- The states as they are come to. -/
theorem least_states : ∀ (m n L : Nat) (φ : Nat → Nat) (T : Nat → Nat → Int) (num f3 : Nat → Int) (fn4 : Nat → Nat) (f4 : Nat → Nat → Int), n + m = d.nk → n ≤ L → Grow d K G L φ T n 0 → Numbered d.nk of L φ num → (∀ j, j < L → f3 j = (φ j : Int)) →
  (∀ a, a < n → fn4 a = K) → (∀ a i, a < n → i < K → f4 a i = T a i) →
  LRes d (L17_0 K (fun i => (r i : Int)) pl d.nk fn G d.nk R d.st d.nk of d.nk L n n d.st (fun b => (d.cl b : Int)) d.nk d.ml d.nx d.rk d.ru 0 (fun _ => 0) d.nk num L f3 n fn4 f4) := by
 have hk := hv.1
 have hK := ht.reps.le
 intro m
 induction m with
 | zero =>
  intro n L φ T num f3 fn4 f4 hn hnL hg hnum h3 hn4 h4
  have hLe := hg.le
  obtain rfl : n = L := by omega
  obtain ⟨x, hx, hL⟩ := least_rules hv ht hg h3 hn4 h4 n 0 (fun _ => Int.ofNat 0) (by omega) (fun i hi => by omega)
  refine ⟨x, hx, ?_⟩
  apply r17_0
  exact ⟨fun h => by have := of_decide_eq_true h; omega, fun _ => hL⟩
 | succ m ih =>
  intro n L φ T num f3 fn4 f4 hn hnL hg hnum h3 hn4 h4
  by_cases hend : n = L
  ·subst hend
   obtain ⟨x, hx, hL⟩ := least_rules hv ht hg h3 hn4 h4 n 0 (fun _ => Int.ofNat 0) (by omega) (fun i hi => by omega)
   refine ⟨x, hx, ?_⟩
   apply r17_0
   exact ⟨fun h => by have := of_decide_eq_true h; omega, fun _ => hL⟩
  have hφn := hg.lt n (by omega)
  have hfφ := hfn _ hφn
  have row : ∀ (q i L' : Nat) (φ' : Nat → Nat) (T' : Nat → Nat → Int) (num' f3' f5 : Nat → Int), i + q = K → n < L' → φ' n = φ n → Grow d K G L' φ' T' n i → Numbered d.nk of L' φ' num' → (∀ j, j < L' → f3' j = (φ' j : Int)) →
    (∀ a j, a < n → j < K → T' a j = T a j) → (∀ j, j < i → f5 j = T' n j) →
    LRes d (L17_1 K (fun i => (r i : Int)) pl d.nk fn G d.nk R d.st d.nk of d.nk L' n n K (fn (φ n)) (G (φ n)) (fn (φ n)) i d.st (fun b => (d.cl b : Int)) d.nk d.ml d.nx d.rk d.ru 0 (fun _ => 0) d.nk num' L' f3' K f5 n fn4 f4) := by
   intro q
   induction q with
   | zero =>
    intro i L' φ' T' num' f3' f5 hi hnL' hφ' hg' hnum' h3' hTT h5
    obtain rfl : i = K := by omega
    have hLe := hg'.le
    obtain ⟨x, hx, hL⟩ := ih (n + 1) L' φ' T' num' f3' (fun k => bif k.beq n then i else fn4 k) (fun k c => bif k.beq n then f5 c else f4 k c) (by omega) (by omega) hg'.row hnum' h3'
     (fun a ha => by
      show (bif a.beq n then i else fn4 a) = _
      rw [bif_beq]; split
      ·rfl
      ·exact hn4 a (by omega))
     (fun a j ha hj => by
      show (bif a.beq n then f5 j else f4 a j) = _
      rw [bif_beq]; split
      ·rename_i he; rw [he]; exact h5 j hj
      ·rw [h4 a j (by omega) hj, hTT a j (by omega) hj])
    refine ⟨x, hx, ?_⟩
    apply r17_1
    rw [wrapSucc (n := n) (by omega)]
    refine ⟨fun h => by have := of_decide_eq_true h; rw [hfφ] at this; omega, fun _ => ⟨⟨by omega, by omega, by unfold maxLen; omega⟩, Nat.le_refl _, fun k hk => SubO.ow (Nat.le_refl _) (Nat.le_refl _) (fun _ _ => rfl), hL⟩⟩
   | succ q ihq =>
    intro i L' φ' T' num' f3' f5 hi hnL' hφ' hg' hnum' h3' hTT h5
    have hiK : i < K := by omega
    have hLe := hg'.le
    obtain ⟨g1, g2⟩ := (ht.ok hv).go (φ n) i hφn hiK
    have put : ∀ (v : Int), (∀ j, j < i + 1 → (fun c => bif c.beq i then v else f5 c) j = setT T' n i v n j) := by
     intro v j hj
     show (bif j.beq i then v else f5 j) = _
     rw [bif_beq]
     unfold setT
     split
     ·rename_i he; subst he; rw [if_pos ⟨rfl, rfl⟩]
     ·rename_i he; rw [if_neg (fun h => he h.2)]; exact h5 j (by omega)
    have keep : ∀ (v : Int), ∀ a j, a < n → j < K → setT T' n i v a j = T a j := by
     intro v a j ha hj
     unfold setT
     rw [if_neg (fun h => by omega)]; exact hTT a j ha hj
    by_cases hneg : G (φ n) i < 0
    ·obtain ⟨x, hx, hL⟩ := ihq (i + 1) L' φ' _ num' f3' (fun c => bif c.beq i then -1 else f5 c) (by omega) hnL' hφ' (hg'.none (by rw [hφ']; exact hneg)) hnum' h3' (keep (-1)) (put (-1))
     refine ⟨x, hx, ?_⟩
     apply r17_1
     simp only [Int.toNat_natCast]
     refine ⟨fun _ => ⟨⟨by omega, by omega⟩, fun _ => ⟨⟨by omega, by omega⟩, hiK, ?_⟩, fun h => by have := of_decide_eq_false h; omega⟩, fun h => by have := of_decide_eq_false h; omega⟩
     apply r17_3
     rw [wrapSucc (by omega)]
     exact hL
    ·obtain ⟨t, htt⟩ : ∃ t : Nat, G (φ n) i = t := ⟨(G (φ n) i).toNat, by omega⟩
     rw [htt] at g2
     have htk : t < d.nk := by omega
     obtain ⟨o1, o2⟩ := hb.lt t htk
     have hcond : Numbered d.nk of L' φ' num' → ((∃ k, k < L' ∧ Alike d (φ' k) d t) ∧ True) ∨ (¬ ∃ k, k < L' ∧ Alike d (φ' k) d t) := fun _ => by
      by_cases h : ∃ k, k < L' ∧ Alike d (φ' k) d t
      ·exact .inl ⟨h, trivial⟩
      ·exact .inr h
     by_cases hold : ∃ k, k < L' ∧ Alike d (φ' k) d t
     ·obtain ⟨k, hkL, hal⟩ := hold
      have hofk : of (φ' k) = of t := (block_alike hv ht hb (hg'.lt k hkL) htk).2 hal
      have hnk := hnum'.has k hkL
      rw [hofk] at hnk
      obtain ⟨x, hx, hL⟩ := ihq (i + 1) L' φ' _ num' f3' (fun c => bif c.beq i then (k : Int) else f5 c) (by omega) hnL' hφ' (hg'.old (by rw [hφ', htt]; omega) hkL (by rw [hφ', htt]; exact hal)) hnum' h3' (keep k) (put k)
      refine ⟨x, hx, ?_⟩
      have hne : (((k + 1 : Nat) : Int) == 0) = false := by simp only [beq_eq_false_iff_ne, ne_eq]; omega
      have ew : IntKind.i64.wrap (((k + 1 : Nat) : Int) - 1) = (k : Int) := by rw [wrap_i64 (by omega) (by omega)]; omega
      apply r17_1
      simp only [Int.toNat_natCast, htt, hnk, hne]
      refine ⟨fun _ => ⟨⟨by omega, by omega⟩, fun h => by have := of_decide_eq_true h; omega, fun _ => ⟨⟨by omega, by omega⟩, ⟨by omega, by omega⟩, by omega, fun h => (by cases h), fun _ => ?_⟩⟩, fun h => by have := of_decide_eq_false h; omega⟩
      apply r17_2
      simp only [Int.toNat_natCast, hnk, ew]
      refine ⟨⟨by omega, by omega⟩, ⟨by omega, by omega⟩, by omega, ⟨by omega, by omega⟩, hiK, ?_⟩
      apply r17_3
      rw [wrapSucc (by omega)]
      exact hL
     ·have hno : num' (of t).toNat = 0 := hnum'.no _ (by omega) fun j hj he => hold ⟨j, hj, (block_alike hv ht hb (hg'.lt j hj) htk).1 (by
       have := hb.lt (φ' j) (hg'.lt j hj); omega)⟩
      have hφnew : ∀ k, k < L' → (fun j => if j < L' then φ' j else t) k = φ' k := fun k hk => if_pos hk
      have hLL : L' < d.nk := by
       have h1 := (hg'.new (by omega) hiK (by rw [hφ', htt]) htk (fun k hk hal => hold ⟨k, hk, hal⟩) (fun j => if j < L' then φ' j else t) hφnew (if_neg (Nat.lt_irrefl _))).le
       omega
      obtain ⟨x, hx, hL⟩ := ihq (i + 1) (L' + 1) (fun j => if j < L' then φ' j else t) _ (fun c => bif c.beq (of t).toNat then ((L' + 1 : Nat) : Int) else num' c) (fun j => bif j.blt L' then f3' j else (t : Int)) (fun c => bif c.beq i then (L' : Int) else f5 c) (by omega) (by omega) (by rw [if_pos (by omega)]; exact hφ')
       (hg'.new (by omega) hiK (by rw [hφ', htt]) htk (fun k hk hal => hold ⟨k, hk, hal⟩) _ hφnew (if_neg (Nat.lt_irrefl _)))
       {has := fun j hj => by
         show (bif (of (if j < L' then φ' j else t)).toNat.beq (of t).toNat then ((L' + 1 : Nat) : Int) else num' (of (if j < L' then φ' j else t)).toNat) = _
         rw [bif_beq]
         by_cases hjL : j < L'
         ·rw [if_pos hjL]
          have hlt := hb.lt (φ' j) (hg'.lt j hjL)
          rw [if_neg (fun he => hold ⟨j, hjL, (block_alike hv ht hb (hg'.lt j hjL) htk).1 (by omega)⟩)]
          exact hnum'.has j hjL
         ·rw [if_neg hjL, if_pos rfl, show j = L' by omega]
        no := fun c hc hne => by
         show (bif c.beq (of t).toNat then ((L' + 1 : Nat) : Int) else num' c) = 0
         have h1 := hne L' (by omega)
         rw [if_neg (Nat.lt_irrefl _)] at h1
         rw [bif_beq, if_neg (fun he => h1 he.symm)]
         exact hnum'.no c hc fun j hj => by have := hne j (by omega); rwa [if_pos hj] at this }
       (fun j hj => by
        show (bif j.blt L' then f3' j else (t : Int)) = ((if j < L' then φ' j else t : Nat) : Int)
        rw [bif_blt]; split
        ·rename_i h; exact h3' j h
        ·rfl)
       (keep L') (put L')
      refine ⟨x, hx, ?_⟩
      have ew : IntKind.i64.wrap (((L' + 1 : Nat) : Int) - 1) = (L' : Int) := by rw [wrap_i64 (by omega) (by omega)]; omega
      have en : (bif (of t).toNat.beq (of t).toNat then ((L' + 1 : Nat) : Int) else num' (of t).toNat) = ((L' + 1 : Nat) : Int) := by rw [bif_beq, if_pos rfl]
      apply r17_1
      simp only [Int.toNat_natCast, htt, hno]
      refine ⟨fun _ => ⟨⟨by omega, by omega⟩, fun h => by have := of_decide_eq_true h; omega, fun _ => ⟨⟨by omega, by omega⟩, ⟨by omega, by omega⟩, by omega, fun _ => ⟨⟨by omega, by omega, by unfold maxLen; omega⟩, ?_⟩, fun h => (by cases h)⟩⟩, fun h => by have := of_decide_eq_false h; omega⟩
      apply r17_2
      simp only [Int.toNat_natCast, en, ew]
      refine ⟨⟨by omega, by omega⟩, ⟨by omega, by omega⟩, by omega, ⟨by omega, by omega⟩, hiK, ?_⟩
      apply r17_3
      rw [wrapSucc (by omega)]
      exact hL
  obtain ⟨x, hx, hL⟩ := row K 0 L φ T num f3 (fun _ => 0) (by omega) (by omega) rfl hg hnum h3 (fun a j _ _ => rfl) (fun j hj => by omega)
  have hLe := hg.le
  refine ⟨x, hx, ?_⟩
  apply r17_0
  simp only [Int.toNat_natCast, h3 n (by omega)]
  exact ⟨fun _ => ⟨⟨by omega, by omega, by omega, by omega⟩, ⟨by omega, by omega⟩, by omega, ⟨by omega, by omega⟩, hL⟩, fun h => by have := of_decide_eq_false h; omega⟩
end
theorem least_ok (d : Dfa) (h8 : ∀ b, d.cl b < 256) (hv : d.valid) : LRes d (fun res out => Ok Go.Proofs.Try.prog 17 [dfaA d] [] res out) := by
 obtain ⟨K, r, pl, fn, G, R, ht, hfn, hO⟩ := tabled_ok d hv
 obtain ⟨of, hb, hOb⟩ := blocks_ok (ht.ok hv) hfn (an := K) (af := fun i => (r i : Int)) (pl := pl) (st := d.st)
 have hk := hv.1
 have hst0 := hv.2.2.2.1
 have hst1 := hv.2.2.2.2.1
 obtain ⟨s0, hs0⟩ : ∃ s : Nat, d.st = s := ⟨d.st.toNat, by omega⟩
 obtain ⟨o1, o2⟩ := hb.lt s0 (by omega)
 have hg : Grow d K G 1 (fun _ => s0) (fun _ _ => 0) 0 0 := Grow.start hst0 hst1 K G (fun _ => s0) hs0.symm _
 obtain ⟨x, hx, hL⟩ := least_states hv ht hfn hb d.nk 0 1 (fun _ => s0) (fun _ _ => 0) (fun i => bif i.beq (of s0).toNat then 1 else 0) (fun _ => (s0 : Int)) (fun _ => 0) (fun _ _ => Int.ofNat 0) (by omega) (by omega) hg
  {has := fun j hj => by
    show (bif (of s0).toNat.beq (of s0).toNat then (1 : Int) else 0) = _
    rw [bif_beq, if_pos rfl, show j = 0 by omega]; rfl
   no := fun c hc hne => by
    show (bif c.beq (of s0).toNat then (1 : Int) else 0) = 0
    rw [bif_beq, if_neg (fun he => hne 0 (by omega) he.symm)] }
  (fun j hj => rfl) (fun a ha => by omega) (fun a i ha => by omega)
 refine ⟨x, hx, o17 _ _ _ _ _ _ _ _ _ ⟨⟨⟨trivial, fun _ _ => trivial, trivial, trivial, trivial⟩, trivial, trivial⟩, leastO_new x⟩ rfl (r17_e _ _ _ _ _ _ _ _ _ ?_)⟩
 have hc := check_ok d h8
 rw [err_ok hv] at hc
 refine ⟨0, hc, fun h => (by cases h), fun _ => ⟨(K, fun i => (r i : Int), pl, d.nk, fn, G, d.nk, R, d.st), hO, (d.nk, of), hOb, ?_⟩⟩
 simp only [hs0, Int.toNat_natCast]
 rw [hs0] at hL
 exact ⟨⟨by omega, by omega, by omega, by omega⟩, ⟨by omega, by omega⟩, ⟨by omega, by omega⟩, by omega, hL⟩
theorem least_err (d : Dfa) (h8 : ∀ b, d.cl b < 256) (hv : ¬ d.valid) : Ok Go.Proofs.Try.prog 17 [dfaA d] [] (leastV ⟨0, fun _ => 0, 0, fun _ => 0, fun _ _ => 0, 0, fun _ => 0⟩ d.err) (leastO ⟨0, fun _ => 0, 0, fun _ => 0, fun _ _ => 0, 0, fun _ => 0⟩) := by
 refine o17 _ _ _ _ _ _ _ _ _ ⟨⟨⟨trivial, fun _ _ => trivial, trivial, trivial, trivial⟩, trivial, trivial⟩, leastO_new _⟩ rfl (r17_e _ _ _ _ _ _ _ _ _ ⟨d.err, check_ok d h8, fun _ => ⟨Sub.refl _, leastO_refl _⟩, fun h => ?_⟩)
 have : d.err = 0 := by simpa using h
 exact absurd (err_zero.1 this) hv
end Go.Am.Seat
end

section
/-! Rows and automata from outside. -/
namespace Go.Am.Seat
open Go Go.Am
set_option linter.unusedVariables false

theorem str_of (s : ByteArray) : ∃ l : List Nat, s = str l ∧ (∀ x ∈ l, x < 256) ∧ l.length = s.size := by
 refine ⟨s.data.toList.map UInt8.toNat, ?_, ?_, ?_⟩
 ·apply ByteArray.ext
  unfold str
  simp [List.map_map, Function.comp_def]
 ·intro x hx
  obtain ⟨u, _, rfl⟩ := List.mem_map.1 hx
  exact u.toNat_lt
 ·rw [List.length_map]; rfl
section
variable {cu : Nat → Bool}
theorem shp_str {n : Nat} {x : AV} (hx : ShpC (lookO tab) cu (n + 1) 9 x) : ∃ l : List Nat, x = .sc (.string (str l)) ∧ (∀ y ∈ l, y < 256) ∧ l.length ≤ 140737488355328 := by
 obtain ⟨s, rfl, hs⟩ : ∃ s : ByteArray, x = .sc (.string s) ∧ s.size ≤ reachBytes := hx
 obtain ⟨l, rfl, hl, hn⟩ := str_of s
 have hr : reachBytes ≤ 140737488355328 := by decide
 exact ⟨l, rfl, hl, by omega⟩
theorem shp_int {n : Nat} {x : AV} (hx : ShpC (lookO tab) cu (n + 1) 3 x) : ∃ m : Int, x = .sc (.int .i64 m) ∧ -9223372036854775808 ≤ m ∧ m ≤ 9223372036854775807 := by
 obtain ⟨m, rfl, h2⟩ : ∃ m, x = .sc (.int .i64 m) ∧ (Lit.int .i64 m).wf = true := hx
 have h3 : -9223372036854775808 ≤ m ∧ m ≤ 9223372036854775807 := by simpa [Lit.wf, IntKind.min, IntKind.max, IntKind.signed, IntKind.bits] using h2
 exact ⟨m, rfl, h3⟩
theorem shp_row {n : Nat} {x : AV} (hc : cu 3 = false) (hx : ShpC (lookO tab) cu (n + 2) 24 x) : ∃ (k : Nat) (f : Nat → Int), RSub x (rowA k f) ∧ k * 8 ≤ 140737488355328 ∧ isAg x = false ∧ plainAV x := by
 have hx : bif cu 3 then x = .undef else ∃ (len : Nat) (f : Nat → AV), x = .vec true 1 len len f ∧ len * 8 ≤ reachBytes ∧ ∀ i, i < len → ShpC (lookO tab) cu (n + 1) 3 (f i) := hx
 rw [hc, cond_false] at hx
 obtain ⟨len, f, rfl, hlen, hf⟩ := hx
 have hg : ∀ i, ∃ m : Int, i < len → f i = .sc (.int .i64 m) := by
  intro i
  by_cases hi : i < len
  ·obtain ⟨m, h, _⟩ := shp_int (hf i hi)
   exact ⟨m, fun _ => h⟩
  ·exact ⟨0, fun h => absurd h hi⟩
 obtain ⟨g, hg⟩ := Classical.axiomOfChoice hg
 have hr : reachBytes ≤ 140737488355328 := by decide
 exact ⟨len, g, RSub.vec id (Nat.le_refl _) (Nat.le_refl _) fun i hi => RSub.of_eq (hg i hi), by omega, rfl, trivial⟩
theorem shp_dfa {n : Nat} {x : AV} (hc3 : cu 3 = false) (hc24 : cu 24 = false) (hx : ShpC (lookO tab) cu (n + 4) 26 x) : ∃ d : Dfa, RSub x (dfaA d) ∧ (∀ b, d.cl b < 256) ∧ isAg x = true ∧ plainAV x := by
 obtain ⟨a, r1, rfl, h1, b, r2, rfl, h2, c, r3, rfl, h3, e, r4, rfl, h4, rfl⟩ : ∃ a r1, x = .cons 1 a r1 ∧ ShpC (lookO tab) cu (n + 3) 3 a ∧ ∃ b r2, r1 = .cons 256 b r2 ∧ ShpC (lookO tab) cu (n + 3) 22 b ∧
   ∃ c r3, r2 = .cons 1 c r3 ∧ ShpC (lookO tab) cu (n + 3) 23 c ∧ ∃ e r4, r3 = .cons 1 e r4 ∧ ShpC (lookO tab) cu (n + 3) 24 e ∧ r4 = .nil := hx
 obtain ⟨st, rfl, _⟩ := shp_int h1
 obtain ⟨f, rfl, hf⟩ : ∃ f : Nat → AV, b = .ar 256 1 f ∧ ∀ i, i < 256 → ShpC (lookO tab) cu (n + 2) 5 (f i) := h2
 have hg : ∀ i, ∃ m : Nat, m < 256 ∧ (i < 256 → f i = .sc (.int .u8 (m : Int))) := by
  intro i
  by_cases hi : i < 256
  ·obtain ⟨m, h1, h2⟩ : ∃ m, f i = .sc (.int .u8 m) ∧ (Lit.int .u8 m).wf = true := hf i hi
   have h3 : 0 ≤ m ∧ m ≤ 255 := by simpa [Lit.wf, IntKind.min, IntKind.max, IntKind.signed, IntKind.bits] using h2
   exact ⟨m.toNat, by omega, fun _ => by rw [Int.toNat_of_nonneg h3.1]; exact h1⟩
  ·exact ⟨0, by omega, fun h => absurd h hi⟩
 obtain ⟨cl, hcl⟩ := Classical.axiomOfChoice hg
 have h3 : bif cu 24 then c = .undef else ∃ (len : Nat) (f : Nat → AV), c = .vec true 1 len len f ∧ len * 24 ≤ reachBytes ∧ ∀ i, i < len → ShpC (lookO tab) cu (n + 2) 24 (f i) := h3
 rw [hc24, cond_false] at h3
 obtain ⟨nk, rows, rfl, hnk, hrows⟩ := h3
 have hrow : ∀ i, ∃ q : Nat × (Nat → Int), i < nk → RSub (rows i) (rowA q.1 q.2) := by
  intro i
  by_cases hi : i < nk
  ·obtain ⟨k, f, h, _⟩ := shp_row hc3 (hrows i hi)
   exact ⟨(k, f), fun _ => h⟩
  ·exact ⟨(0, fun _ => 0), fun h => absurd h hi⟩
 obtain ⟨q, hq⟩ := Classical.axiomOfChoice hrow
 obtain ⟨rk, ru, hru, _⟩ := shp_row hc3 h4
 refine ⟨{ st := st, cl := cl, nk := nk, ml := fun i => (q i).1, nx := fun i => (q i).2, rk := rk, ru := ru }, ?_, fun b => (hcl b).1, rfl, trivial⟩
 exact RSub.cons (RSub.refl _) (RSub.cons (RSub.ar fun i hi => RSub.of_eq ((hcl i).2 hi)) (RSub.cons (RSub.vec id (Nat.le_refl _) (Nat.le_refl _) fun i hi => hq i hi) (RSub.cons hru (RSub.refl _))))
end
end Go.Am.Seat
end

section
/-! Machine: what the laws lay beside what they hand over: twins, and whether they are left. -/
namespace Go.Am.Seat
open Go Go.Am
set_option linter.unusedVariables false

end Go.Am.Seat
end

section
/-! MunchTells. -/
namespace Go.Am.Seat
open Go Go.Am
set_option linter.unusedVariables false

/-- The chapter's automaton. -/
def knD : Dfa := { st := 0, cl := fun b => if b = 98 then 2 else if b = 97 then 1 else 0, nk := 5, ml := fun _ => 3, nx := fun i c => (([[-1, 1, 2], [-1, 1, 3], [-1, -1, -1], [-1, 4, -1], [-1, -1, -1]] : List (List Int)).getD i []).getD c 0, rk := 5, ru := fun i => ([-1, 4, 5, -1, 6] : List Int).getD i 0 }
theorem known_ok : Ok Go.Proofs.Try.prog 57 [] [] (dfaF knD) [] := by
 refine o57 _ ⟨trivial, fun _ _ => trivial, ⟨rfl, fun _ _ => ⟨rfl, fun _ _ => trivial⟩⟩, ⟨rfl, fun _ _ => trivial⟩, trivial⟩ ?_
 apply r57_e
 refine ⟨⟨by omega, by omega⟩, by decide, ⟨by omega, by omega⟩, by decide, ?_⟩
 have hrow : ∀ i, i < 5 → ∀ f : Nat → Int, f 0 = knD.nx i 0 → f 1 = knD.nx i 1 → f 2 = knD.nx i 2 → RSub (.vec false 1 3 3 (fun c => .sc (.int .i64 (f c)))) (.vec false 1 3 3 (fun c => .sc (.int .i64 (knD.nx i c)))) := by
  intro i hi f h0 h1 h2
  refine RSub.vec id (Nat.le_refl _) (Nat.le_refl _) fun c hc => RSub.of_eq ?_
  refine i3 hc (p := fun c => AV.sc (.int .i64 (f c)) = .sc (.int .i64 (knD.nx i c))) ?_ ?_ ?_
  ·rw [h0]
  ·rw [h1]
  ·rw [h2]
 refine Sub.of_R (RSub.cons (RSub.of_eq rfl) (RSub.cons (RSub.ar fun i hi => RSub.of_eq ?_) (RSub.cons (RSub.vec id (Nat.le_refl _) (Nat.le_refl _) fun i hi => ?_) (RSub.cons (RSub.vec id (Nat.le_refl _) (Nat.le_refl _) fun i hi => RSub.of_eq ?_) (RSub.refl _))))) rfl trivial trivial
 ·show AV.sc (.int .u8 _) = .sc (.int .u8 ((if i = 98 then 2 else if i = 97 then 1 else 0 : Nat) : Int))
  congr 2
  by_cases h : i = 98
  ·subst h; rfl
  ·by_cases h' : i = 97
   ·subst h'; rfl
   ·rw [if_neg h, if_neg h']
    have e1 : Nat.beq i 98 = false := beqF h
    have e2 : Nat.beq i 97 = false := beqF h'
    rw [e1, e2]; rfl
 ·have hi : i < 5 := hi
  rcases (show i = 0 ∨ i = 1 ∨ i = 2 ∨ i = 3 ∨ i = 4 by omega) with rfl | rfl | rfl | rfl | rfl
  ·exact hrow 0 (by omega) _ rfl rfl rfl
  ·exact hrow 1 (by omega) _ rfl rfl rfl
  ·exact hrow 2 (by omega) _ rfl rfl rfl
  ·exact hrow 3 (by omega) _ rfl rfl rfl
  ·exact hrow 4 (by omega) _ rfl rfl rfl
 ·have hi : i < 5 := hi
  rcases (show i = 0 ∨ i = 1 ∨ i = 2 ∨ i = 3 ∨ i = 4 by omega) with rfl | rfl | rfl | rfl | rfl <;> rfl
theorem knD_valid : knD.valid := by
 refine ⟨by decide, rfl, by decide, by decide, by decide, by decide, by decide, fun b _ => ?_, fun i hi => ?_⟩
 ·show (if b = 98 then 2 else if b = 97 then 1 else 0 : Nat) < 3
  split
  ·omega
  ·split <;> omega
 ·have hi : i < 5 := hi
  rcases (show i = 0 ∨ i = 1 ∨ i = 2 ∨ i = 3 ∨ i = 4 by omega) with rfl | rfl | rfl | rfl | rfl
  all_goals
   refine ⟨rfl, fun c hc => ?_, by decide⟩
   have hc : c < 3 := hc
   rcases (show c = 0 ∨ c = 1 ∨ c = 2 by omega) with rfl | rfl | rfl <;> decide
theorem knD_8 : ∀ b, knD.cl b < 256 := by
 intro b
 show (if b = 98 then 2 else if b = 97 then 1 else 0 : Nat) < 256
 split
 ·omega
 ·split <;> omega
theorem alive9_ok : Ok Go.Proofs.Try.prog 29 [] [] (.sc (.bool true)) [] := by
 refine o29 _ trivial ?_
 apply r29_e
 have q1 := at_ok knD knD_8 [97, 97, 98, 99] (by simp) (by simp) 0
 have q2 := at_ok knD knD_8 [120, 97, 98] (by simp) (by simp) 1
 have q3 := at_ok knD knD_8 [97] (by simp) (by simp) 1
 have hz := err_ok knD_valid
 have e1 : atS knD [97, 97, 98, 99] 0 = ((4, 2, 4), 0) := by
  unfold atS
  rw [if_neg (by rw [hz]; simp), if_neg (by simp), show munchS knD (List.drop (Int.toNat 0) [97, 97, 98, 99]) = (4, 2, 4) by decide +kernel]
 have e2 : atS knD [120, 97, 98] 1 = ((4, 1, 3), 0) := by
  unfold atS
  rw [if_neg (by rw [hz]; simp), if_neg (by simp), show munchS knD (List.drop (Int.toNat 1) [120, 97, 98]) = (4, 1, 3) by decide +kernel]
 have e3 : atS knD [97] 1 = ((0, 0, 0), 4) := by
  unfold atS
  rw [if_neg (by rw [hz]; simp), if_pos (by simp)]
 rw [e1] at q1
 rw [e2] at q2
 rw [e3] at q3
 have k := known_ok
 let R : Int × (Nat → Int) × Nat × (Nat → Nat) × (Nat → Nat → Int) × Nat × (Nat → Int) := (knD.st, (fun b => (knD.cl b : Int)), knD.nk, knD.ml, knD.nx, knD.rk, knD.ru)
 refine ⟨R, k, (4, 2, 4, 0), q1, R, k, (4, 1, 3, 0), q2, R, k, (0, 0, 0, 4), q3, fun _ => ⟨fun _ => ⟨fun _ => ⟨fun _ => Sub.refl _, fun h => (by cases h)⟩, fun h => ?_⟩, fun h => (by cases h)⟩, fun h => ?_⟩
 ·exfalso
  have h : cdec _ = false := h
  exact cdec_false.1 h ⟨rfl, rfl, rfl, trivial⟩
 ·exfalso
  have h : cdec _ = false := h
  exact cdec_false.1 h ⟨rfl, rfl, rfl, trivial⟩
end Go.Am.Seat
end

section
/-! Am, part Z6: what is handed back as own is fixed, for whoever asks for no more. -/
set_option linter.unusedVariables false
namespace Go.Am
open Go
theorem Ok.fixed {P : Program} {f : FuncId} {args : List AV} {res res' : AV} {out : List (Nat × Nat × AV)} {p : Prop} (h : Ok P f args [] res out)
  (hw : wk [] (St.of [(0, res)] out) [(0, res')] [] [] = some p) (hp : p) (hn : newOnly res') : Ok P f args [] res' [] := by
 refine ⟨h.fn, ⟨hn, fun q hq => by cases hq⟩, fun w E vals hce => Calls.mono (h.run w E vals hce) ?_⟩
 rintro e w' ⟨v, E', he, hx, hr⟩
 obtain ⟨E'', hx', hr'⟩ := wk_ok (kp := []) (hx.kp.trans hce.kp) hr hw hp
 exact ⟨v, E'', he, hx.trans hx', hr'⟩
end Go.Am
end

section
/-! MunchLess: the least automaton finds what the other one finds. -/
namespace Go.Am.Seat
open Go Go.Am
set_option linter.unusedVariables false
theorem _root_.Go.Am.isB.take {w : List Nat} (h : isB w) (n : Nat) : isB (w.take n) := fun x hx => h x (List.mem_of_mem_take hx)
theorem _root_.Go.Am.isB.drop {w : List Nat} (h : isB w) (n : Nat) : isB (w.drop n) := fun x hx => h x (List.mem_of_mem_drop hx)
theorem on_iff {d : Dfa} {s : Nat} : d.on s = true ↔ ∃ c, c < d.ml s ∧ 0 ≤ d.nx s c := by
 unfold Dfa.on
 rw [List.any_eq_true]
 constructor
 ·rintro ⟨c, hc, h⟩; exact ⟨c, List.mem_range.1 hc, of_decide_eq_true h⟩
 ·rintro ⟨c, hc, h⟩; exact ⟨c, List.mem_range.2 hc, decide_eq_true h⟩
theorem alike_walk {d e : Dfa} : ∀ {w : List Nat} {s t : Int}, isB w → Alike d s e t → Alike d (walkS d s w) e (walkS e t w)
 | [], _, _, _, h => h
 | b :: w, s, t, hw, h => alike_walk (w := w) hw.tail (h.go hw.head)
theorem not_on {d : Dfa} (hml : ∀ i, i < d.nk → d.ml i = d.ml 0) (hcl : ∀ b, b < 256 → d.cl b < d.ml 0) {s : Nat} (hs : s < d.nk) (h : d.on s = false) {b : Nat} (hb : b < 256) : goS d s b < 0 := by
 unfold goS
 rw [if_neg (by omega), Int.toNat_natCast]
 split
 ·omega
 ·rename_i h1
  exfalso
  have : d.on s = true := on_iff.2 ⟨d.cl b, by rw [hml s hs]; exact hcl b hb, by omega⟩
  rw [h] at this; cases this
section
variable {d x : Dfa} (hc : Canon x) (hal : Alike x 0 d d.st) {left : List Nat} (hl : isB left)
include hc
theorem _root_.Go.Am.Canon.walk_lt : ∀ (w : List Nat) (s : Int), isB w → s < (x.nk : Int) → walkS x s w < (x.nk : Int)
 | [], _, _, h => h
 | b :: w, s, hw, h => by
  show walkS x (goS x s b) w < _
  apply Canon.walk_lt w _ hw.tail
  have hp := hc.pos
  by_cases hn : s < 0
  ·rw [goS_neg hn]; omega
  ·obtain ⟨n, rfl⟩ : ∃ n : Nat, s = n := ⟨s.toNat, by omega⟩
   exact hc.go_lt (by omega) hw.head
variable (hv : d.valid)
include hal hl
include hv in
theorem look_less : ∀ (m n : Nat), n + m = left.length + 1 → lookN x left m n ≤ lookN d left m n := by
 intro m
 induction m with
 | zero => intro n _; unfold lookN; omega
 | succ m ih =>
  intro n hn
  have hge := (lookN_ge d left (m + 1) n hn).1
  have hB := hl.take n
  have hw : Alike x (walkS x x.st (left.take n)) d (walkS d d.st (left.take n)) := alike_walk hB (by rw [hc.st]; exact hal)
  have hlt : walkS x x.st (left.take n) < (x.nk : Int) := hc.walk_lt _ _ hB (by rw [hc.st]; have := hc.pos; omega)
  rw [show lookN x left (m + 1) n = if walkS x x.st (left.take n) < 0 then n else if x.on (walkS x x.st (left.take n)).toNat then lookN x left m (n + 1) else n from rfl]
  split
  ·exact hge
  ·rename_i h1
   split
   ·rename_i h2
    obtain ⟨s, hs⟩ : ∃ s : Nat, walkS x x.st (left.take n) = s := ⟨(walkS x x.st (left.take n)).toNat, by omega⟩
    rw [hs] at h1 h2 hw hlt
    rw [Int.toNat_natCast] at h2
    obtain ⟨c, hcm, hc0⟩ := on_iff.1 h2
    rw [hc.ml s (by omega)] at hcm
    obtain ⟨b, hb, hcb, _⟩ := hc.cls c hcm
    have hg : goS x s b = x.nx s c := by rw [hc.goNat (by omega) hb, hcb]
    have hlx := hc.live s b (by omega) hb (by omega)
    have hg2 := ((hw.go hb).live hlx).pos
    have hsd : 0 ≤ walkS d d.st (left.take n) := by
     by_cases hneg : walkS d d.st (left.take n) < 0
     ·rw [goS_neg hneg] at hg2; omega
     ·omega
    obtain ⟨t, ht⟩ : ∃ t : Nat, walkS d d.st (left.take n) = t := ⟨(walkS d d.st (left.take n)).toNat, by omega⟩
    rw [show lookN d left (m + 1) n = if walkS d d.st (left.take n) < 0 then n else if d.on (walkS d d.st (left.take n)).toNat then lookN d left m (n + 1) else n from rfl]
    rw [ht] at hg2 ⊢
    by_cases hon : d.on t = true
    ·rw [if_neg (by omega), Int.toNat_natCast, hon, if_pos rfl]
     exact ih (n + 1) (by omega)
    ·exfalso
     have hon : d.on t = false := by simpa using hon
     have htk : walkS d d.st (left.take n) < (d.nk : Int) := walkS_lt hv hB hv.2.2.2.2.1
     have := not_on (fun i hi => (hv.2.2.2.2.2.2.2.2 i hi).1) hv.2.2.2.2.2.2.2.1 (s := t) (by omega) hon hb
     omega
   ·exact hge
omit hal in
theorem look_stop : ∀ (m n : Nat), n + m = left.length + 1 → lookN x left m n ≤ left.length → ∀ j, lookN x left m n < j → walkS x x.st (left.take j) < 0 ∨ left.length < j := by
 intro m
 induction m with
 | zero => intro n _ h; unfold lookN at h; omega
 | succ m ih =>
  intro n hn h j hj
  have hB := hl.take n
  have hlt : walkS x x.st (left.take n) < (x.nk : Int) := hc.walk_lt _ _ hB (by rw [hc.st]; have := hc.pos; omega)
  rw [show lookN x left (m + 1) n = if walkS x x.st (left.take n) < 0 then n else if x.on (walkS x x.st (left.take n)).toNat then lookN x left m (n + 1) else n from rfl] at h hj
  have beyond : ∀ j, n < j → j ≤ left.length → ∃ b w, isB (b :: w) ∧ left.take j = left.take n ++ b :: w := by
   intro j h1 h2
   have e : left.take j = left.take n ++ (left.take j).drop n := by
    have := List.take_append_drop n (left.take j)
    rw [List.take_take, Nat.min_eq_left (by omega)] at this
    exact this.symm
   cases hd : (left.take j).drop n with
   | nil =>
    have := congrArg List.length hd
    simp only [List.length_drop, List.length_take, List.length_nil] at this
    omega
   | cons b w => exact ⟨b, w, hd ▸ (hl.take j).drop n, by rw [e, hd]⟩
  by_cases hjl : left.length < j
  ·exact .inr hjl
  ·left
   split at h
   ·rename_i h1
    rw [if_pos h1] at hj
    obtain ⟨b, w, hw, e⟩ := beyond j hj (by omega)
    rw [e, walkS_append]
    exact walkS_neg _ h1
   ·rename_i h1
    rw [if_neg h1] at hj
    split at h
    ·rename_i h2
     rw [if_pos h2] at hj
     rcases ih (n + 1) (by omega) h j hj with h3 | h3
     ·exact h3
     ·omega
    ·rename_i h2
     rw [if_neg h2] at hj
     obtain ⟨b, w, hw, e⟩ := beyond j hj (by omega)
     obtain ⟨s, hs⟩ : ∃ s : Nat, walkS x x.st (left.take n) = s := ⟨(walkS x x.st (left.take n)).toNat, by omega⟩
     rw [e, walkS_append, hs]
     rw [hs, Int.toNat_natCast] at h2
     exact walkS_neg w (not_on hc.ml hc.cl (s := s) (by omega) (by simpa using h2) hw.head)
omit hc in
theorem long_same (hst : x.st = 0) : ∀ n, longN x left n = longN d left n
 | 0 => rfl
 | n + 1 => by
  have h : ruleAt x (walkS x x.st (left.take (n + 1))) = ruleAt d (walkS d d.st (left.take (n + 1))) := by
   rw [hst]; exact hal _ (hl.take _)
  unfold longN
  rw [h, long_same hst n]
omit hc hal hl in
theorem long_const {k : Nat} : ∀ n, k ≤ n → (∀ j, k < j → j ≤ n → ¬ 0 ≤ ruleAt d (walkS d d.st (left.take j))) → longN d left n = longN d left k
 | 0, h, _ => by rw [show k = 0 by omega]
 | n + 1, h, hj => by
  by_cases he : k = n + 1
  ·rw [he]
  ·rw [show longN d left (n + 1) = if 0 ≤ ruleAt d (walkS d d.st (left.take (n + 1))) then (ruleAt d (walkS d d.st (left.take (n + 1))), n + 1) else longN d left n from rfl, if_neg (hj (n + 1) (by omega) (Nat.le_refl _))]
   exact long_const n (by omega) fun j h1 h2 => hj j h1 (by omega)
include hv in
theorem munch_less : (munchS x left).1 = (munchS d left).1 ∧ (munchS x left).2.1 = (munchS d left).2.1 ∧ (munchS x left).2.2 ≤ (munchS d left).2.2 := by
 rw [← refOf_eq x (by rw [hc.st]; exact Int.le_refl _), ← refOf_eq d hv.2.2.2.1]
 have hle := look_less hc hal hl hv left.length 1 (by omega)
 have hxl := (lookN_ge x left left.length 1 (by omega)).2
 have hlong : longN x left (min (lookN x left left.length 1) left.length) = longN d left (min (lookN d left left.length 1) left.length) := by
  rw [long_same hal hl hc.st]
  by_cases hend : lookN x left left.length 1 ≤ left.length
  ·symm
   apply long_const
   ·omega
   ·intro j h1 h2
    rw [Nat.min_eq_left hend] at h1
    have h3 : ruleAt d (walkS d d.st (left.take j)) = ruleAt x (walkS x x.st (left.take j)) := by
     rw [hc.st]; exact (hal _ (hl.take _)).symm
    rw [h3]
    rcases look_stop hc hl left.length 1 (by omega) hend j h1 with h4 | h4
    ·rw [ruleAt_neg h4]; omega
    ·omega
  ·rw [Nat.min_eq_right (by omega), Nat.min_eq_right (by omega)]
 unfold refOf
 exact ⟨by rw [hlong], by rw [hlong], hle⟩
end
end Go.Am.Seat
end

section
/-! MunchLess: the law. -/
namespace Go.Am.Seat
open Go Go.Am
set_option linter.unusedVariables false
/-- The least automaton may be. -/
theorem IsLeast.valid {d x : Dfa} (hv : d.valid) (h : IsLeast d x) : x.valid := by
 have hc := h.canon
 have hp := hc.pos
 have h0 := hc.cl 0 (by omega)
 have hml : x.ml 0 ≤ 256 := by
  have hf : ∃ f : Nat → Nat, ∀ c, c < x.ml 0 → f c < 256 ∧ x.cl (f c) = c := ⟨fun c => if hc' : c < x.ml 0 then Classical.choose (hc.cls c hc') else 0, fun c hc' => by
   simp only [dif_pos hc']
   have := Classical.choose_spec (hc.cls c hc')
   exact ⟨this.1, this.2.1⟩⟩
  obtain ⟨f, hf⟩ := hf
  exact pigeon 256 (x.ml 0) f (fun c h => (hf c h).1) fun a b ha hb he => by
   have h1 := (hf a ha).2
   rw [he, (hf b hb).2] at h1; exact h1.symm
 have hk := hv.1
 have hle := h.le
 refine ⟨by omega, hc.rk, hp, by rw [hc.st]; omega, by rw [hc.st]; omega, by omega, hml, hc.cl, fun i hi => ⟨hc.ml i hi, fun c hcm => (hc.nx i c hi hcm).2, h.ru i hi⟩⟩
abbrev zeroD : Dfa := ⟨0, fun _ => 0, 0, fun _ => 0, fun _ _ => 0, 0, fun _ => 0⟩
abbrev leastF (x : Dfa) (e : Int) : AV := (.cons 1 (dfaF x) (.cons 1 (.sc (.int .i64 e)) .nil) : AV).tup
theorem leastF_new (x : Dfa) (e : Int) : newOnly (leastF x e) :=
 ⟨⟨trivial, fun _ _ => trivial, ⟨rfl, fun _ _ => ⟨rfl, fun _ _ => trivial⟩⟩, ⟨rfl, fun _ _ => trivial⟩, trivial⟩, trivial, trivial⟩
theorem least_fix {P : Program} {f : FuncId} {args : List AV} {x : Dfa} {e : Int} (h : Ok P f args [] (leastV x e) (leastO x)) : Ok P f args [] (leastF x e) [] := by
 refine Ok.fixed h rfl ?_ (leastF_new x e)
 refine ⟨⟨⟨⟨trivial, trivial, by omega, by omega, trivial⟩, trivial, trivial⟩, Sub.refl _, trivial⟩, trivial⟩
noncomputable abbrev lessV (d : Dfa) (l : List Nat) (at' : Int) : Int × Int × Int × Int := ((atS d l at').1.1, ((atS d l at').1.2.1 : Int), ((atS d l at').1.2.2 : Int), (atS d l at').2)
abbrev dfaR (d : Dfa) (e : Int) : Int × (Nat → Int) × Nat × (Nat → Nat) × (Nat → Nat → Int) × Nat × (Nat → Int) × Int := (d.st, (fun b => (d.cl b : Int)), d.nk, d.ml, d.nx, d.rk, d.ru, e)
theorem law_lessP (d : Dfa) (h8 : ∀ b, d.cl b < 256) (l : List Nat) (hl : ∀ x ∈ l, x < 256) (hn : l.length ≤ 140737488355328) (at' : Int) :
  Ok Go.Proofs.Try.prog 9 [dfaA d, .sc (.string (str l)), .sc (.int .i64 at')] [] (.sc (.bool true)) [] := by
 refine o9 _ _ _ _ _ _ _ _ _ _ trivial ?_
 apply r9_e
 have fin : ∀ b : Bool, b = true → Sub (.sc (.bool b)) (.sc (.bool true)) := fun b h => by rw [h]; exact Sub.refl _
 have hsmall : ∃ r : Bool, Ok Go.Proofs.Try.prog 27 [dfaA d, .sc (.string (str l))] [] (.sc (.bool r)) [] ∧ (r = true → bigS d 5000 = false ∧ l.length ≤ 300) := by
  by_cases h300 : l.length ≤ 300
  ·refine ⟨!bigS d 5000, o27 _ _ _ _ _ _ _ _ _ trivial (r27_e _ _ _ _ _ _ _ _ _ ?_), fun h => ⟨by simpa using h, h300⟩⟩
   rw [str_size]
   exact ⟨fun _ => ⟨_, big_ok d 5000 (by omega), Sub.refl _⟩, fun h => by have h : decide ((l.length : Int) ≤ 300) = false := h; have := of_decide_eq_false h; omega⟩
  ·refine ⟨false, o27 _ _ _ _ _ _ _ _ _ trivial (r27_e _ _ _ _ _ _ _ _ _ ?_), fun h => by cases h⟩
   rw [str_size]
   exact ⟨fun h => by have := of_decide_eq_true h; omega, fun _ => Sub.refl _⟩
 obtain ⟨r, hr, hr'⟩ := hsmall
 refine ⟨r, hr, fun _ => Sub.refl _, fun h => ?_⟩
 obtain ⟨hb, h300⟩ := hr' (by simpa using h)
 have hlive : ∃ r, Ok Go.Proofs.Try.prog 29 [] [] (.sc (.bool r)) [] ∧ Sub (.sc (.bool r)) (.sc (.bool true)) := ⟨true, alive9_ok, Sub.refl _⟩
 by_cases hv : d.valid
 ·obtain ⟨x, hx, hO⟩ := least_ok d h8 hv
  have hxv := hx.valid hv
  refine ⟨dfaR x 0, least_fix hO, lessV d l at', at_ok d h8 l hl (by omega) at', fun _ => ⟨fun _ => hlive, fun he => ⟨lessV x l at', at_ok x hx.cl8 l hl (by omega) at', ?_⟩⟩, fun h => by cases h⟩
  have he : (atS d l at').2 = 0 := by simpa using he
  have hat : ¬ (at' < 0 ∨ (l.length : Int) ≤ at') := by
   intro hc
   unfold atS at he
   rw [if_neg (by rw [err_ok hv]; simp), if_pos hc] at he
   cases he
  have e1 : atS d l at' = (munchS d (l.drop at'.toNat), 0) := by unfold atS; rw [if_neg (by rw [err_ok hv]; simp), if_neg hat]
  have e2 : atS x l at' = (munchS x (l.drop at'.toNat), 0) := by unfold atS; rw [if_neg (by rw [err_ok hxv]; simp), if_neg hat]
  obtain ⟨m1, m2, m3⟩ := munch_less hx.canon hx.alike (left := l.drop at'.toNat) (isB.drop hl _) hv
  have f1 : lessV d l at' = ((munchS d (l.drop at'.toNat)).1, ((munchS d (l.drop at'.toNat)).2.1 : Int), ((munchS d (l.drop at'.toNat)).2.2 : Int), 0) := by unfold lessV; rw [e1]
  have f2 : lessV x l at' = ((munchS x (l.drop at'.toNat)).1, ((munchS x (l.drop at'.toNat)).2.1 : Int), ((munchS x (l.drop at'.toNat)).2.2 : Int), 0) := by unfold lessV; rw [e2]
  rw [f1, f2]
  refine ⟨fun _ => ⟨fun _ => ⟨fun _ => ⟨fun _ => hlive, fun h => ?_⟩, fun h => ?_⟩, fun h => ?_⟩, fun h => by cases h⟩
  ·exfalso
   have h : decide (((munchS x (l.drop at'.toNat)).2.2 : Int) ≤ ((munchS d (l.drop at'.toNat)).2.2 : Int)) = false := h
   have := of_decide_eq_false h
   omega
  ·exfalso
   have h : (((munchS x (l.drop at'.toNat)).2.1 : Int) == ((munchS d (l.drop at'.toNat)).2.1 : Int)) = false := h
   rw [m2, beq_self_eq_true] at h; cases h
  ·exfalso
   have h : ((munchS x (l.drop at'.toNat)).1 == (munchS d (l.drop at'.toNat)).1) = false := h
   rw [m1, beq_self_eq_true] at h; cases h
 ·have hne : d.err ≠ 0 := fun h => hv (err_zero.1 h)
  refine ⟨dfaR zeroD d.err, least_fix (least_err d h8 hv), lessV d l at', at_ok d h8 l hl (by omega) at', fun h => ?_, fun _ => hlive⟩
  have h : (d.err != 0) = false := h
  simp at h
  exact absurd h hne
theorem law_less_all (xs : List AV) (h : ShpAllC (lookO tab) noCut 20 [26, 9, 3] xs) : Ok Go.Proofs.Try.prog 9 xs [] (.sc (.bool true)) [] := by
 obtain ⟨x, y, z, rfl, hx, hy, hz⟩ := h.three
 obtain ⟨d, h4, h8, h5, h6⟩ := shp_dfa rfl rfl hx
 obtain ⟨l, rfl, hl, hn⟩ := shp_str hy
 obtain ⟨a, rfl, _, _⟩ := shp_int hz
 exact Ok.args (ys := [dfaA d, .sc (.string (str l)), .sc (.int .i64 a)]) ⟨Sub.of_R h4 h5 h6 trivial, Sub.refl _, Sub.refl _, trivial⟩ (law_lessP d h8 l hl hn a)
end Go.Am.Seat
end
