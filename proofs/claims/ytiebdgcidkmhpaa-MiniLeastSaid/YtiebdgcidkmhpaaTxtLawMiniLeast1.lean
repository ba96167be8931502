import Derived.Test.YtiebdgcidkmhpaaTxtLawMiniLeast0
import Derived.Test.YtiebdgcidkmhpaaRul0LawMiniLeast
import Derived.Test.YtiebdgcidkmhpaaRul1LawMiniLeast
section
/-! Machine: mini.blocks: the classes of states. -/
namespace Go.Am.Seat
open Go Go.Am
set_option linter.unusedVariables false
abbrev tableF (g : Bool) (an : Nat) (af pl : Nat → Int) (k : Nat) (fn : Nat → Nat) (G : Nat → Nat → Int) (rk : Nat) (R : Nat → Int) (st : Int) : AV :=
 .ip g (.cons 1 (.vec g 1 an an (fun i => .sc (.int .u8 (af i)))) (.cons 256 (.ar 256 1 (fun i => .sc (.int .i64 (pl i)))) (.cons 1 (.vec g 1 k k (fun i => .vec g 1 (fn i) (fn i) (fun c => .sc (.int .i64 (G i c))))) (.cons 1 (.vec g 1 rk rk (fun i => .sc (.int .i64 (R i)))) (.cons 1 (.sc (.int .i64 st)) .nil)))))
theorem strOf_zero (n : Nat) (f : Nat → Int) : strOf n (fun i => f (0 + i)) = strOf n f := by
 congr 1; funext i; rw [Nat.zero_add]
section
variable {an : Nat} {af pl : Nat → Int} {k K : Nat} {fn : Nat → Nat} {G : Nat → Nat → Int} {R : Nat → Int} {st : Int}
 (hT : TableOk k K G R) (hfn : ∀ s, s < k → fn s = K)
include hT hfn
theorem blocks_key {of : Nat → Int} (hof : ∀ s, s < k → 0 ≤ of s ∧ of s < (k : Int)) (count : Int) {s : Nat} (hs : s < k) (n clk : Nat) (M : MapF) (next : Nat → Int) (res : AV)
  (h1 : M (key (stepKey K G R of s)) = none → L43_5 an af pl k fn G k R st k count k s (n : Int) k fn G k s k of (n + 1) (clk + 1) (putM M clk (key (stepKey K G R of s)) n) k next res)
  (h2 : ∀ v c, M (key (stepKey K G R of s)) = some (v, c) → L43_5 an af pl k fn G k R st k count k s v k fn G k s k of n clk M k next res) :
  ∀ (m j : Nat) (l : List Nat) (f : Nat → Int), j + m = K → l = keyL (R s :: of s :: (List.range j).map (fun i => if 0 ≤ G s i then of (G s i).toNat else -1)) → isRow f l →
  L43_2 an af pl k fn G k R st k count k s l.length k fn G k s (fn s) (G s) (fn s) j k of n clk M k next l.length f res := by
 intro m
 induction m with
 | zero =>
  intro j l f hj hl hf
  obtain rfl : j = K := by omega
  apply r43_2
  rw [strOf_zero, strOf_row hf]
  refine ⟨fun h => by have := of_decide_eq_true h; rw [hfn s hs] at this; omega, fun _ => ⟨⟨by omega, str_size l, fun i hi => ?_⟩, fun h => ?_, fun h => ?_⟩⟩
  ·rw [byteAt_strN hi (hl ▸ keyL_lt _), Nat.zero_add, hf i hi]
  ·have e : Value.string (str l) = key (stepKey j G R of s) := by rw [hl]; rfl
   rw [e] at h ⊢
   cases hm : M (key (stepKey j G R of s)) with
   | none => exact h1 hm
   | some x => rw [hm] at h; cases h
  ·have e : Value.string (str l) = key (stepKey j G R of s) := by rw [hl]; rfl
   rw [e] at h ⊢
   cases hm : M (key (stepKey j G R of s)) with
   | none => rw [hm] at h; cases h
   | some x => exact h2 x.1 x.2 hm
 | succ m ih =>
  intro j l f hj hl hf
  have hlen : l.length = 3 * (2 + j) := by rw [hl, keyL_len]; simp only [List.length_cons, List.length_map, List.length_range]; omega
  have hK := hT.Kle
  have hk := hT.kle
  obtain ⟨g1, g2⟩ := hT.go s j hs (by omega)
  have hnext : ∀ v, v = (if 0 ≤ G s j then of (G s j).toNat else -1) →
    L43_3 an af pl k fn G k R st k count k s l.length v k fn G k s (fn s) (G s) (fn s) j k of n clk M k next l.length f res := by
   intro v hv
   have hok : okV v := by
    unfold okV
    by_cases hg : 0 ≤ G s j
    ·rw [if_pos hg] at hv
     have := hof (G s j).toNat (by omega)
     omega
    ·rw [if_neg hg] at hv; omega
   obtain ⟨g, hg, hO⟩ := put_ok l (by omega) hok f hf
   apply r43_3
   refine ⟨(l.length + 3, l.length + 3, g), hO, ?_⟩
   apply r43_4
   rw [wrapSucc (by omega)]
   have := ih (j + 1) (l ++ enc3 v) g (by omega) (by rw [hl, ← keyL_snoc, List.range_succ, List.map_append, ← List.cons_append, ← List.cons_append]; rw [hv]; rfl) hg
   rw [List.length_append, enc3_len] at this
   exact this
  apply r43_2
  simp only [Int.toNat_natCast]
  refine ⟨fun _ => ⟨⟨by omega, by rw [hfn s hs]; omega⟩, fun h => ?_, fun h => ?_⟩, fun h => by have := of_decide_eq_false h; rw [hfn s hs] at this; omega⟩
  ·have h := of_decide_eq_true h
   refine ⟨⟨by omega, g2⟩, by omega, hnext _ (by rw [if_pos h])⟩
  ·have h := of_decide_eq_false h
   exact hnext _ (by rw [if_neg (by omega)])
structure Round (k K : Nat) (G : Nat → Nat → Int) (R : Nat → Int) (of next : Nat → Int) (ks : Nat → List Int) (s n : Nat) : Prop where
 key : ∀ t, t < s → ∃ i, i < n ∧ next t = (i : Int) ∧ ks i = stepKey K G R of t
 on : ∀ i, i < n → ∃ t, t < s ∧ next t = (i : Int)
omit hfn in
theorem stepKey_ok {of : Nat → Int} (hof : ∀ s, s < k → 0 ≤ of s ∧ of s < (k : Int)) {s : Nat} (hs : s < k) : ∀ v ∈ stepKey K G R of s, okV v := by
 intro v hv
 have hk := hT.kle
 unfold okV
 simp only [stepKey, List.mem_cons, List.mem_map, List.mem_range] at hv
 rcases hv with rfl | rfl | ⟨i, hi, rfl⟩
 ·have := hT.ru s hs; omega
 ·have := hof s hs; omega
 ·obtain ⟨g1, g2⟩ := hT.go s i hs hi
  split
  ·have := hof (G s i).toNat (by omega); omega
  ·omega
theorem blocks_states {of : Nat → Int} (hof : ∀ s, s < k → 0 ≤ of s ∧ of s < (k : Int)) (count : Int) (P : (Nat → Int) → Prop)
  (K0 : ∀ next ks n clk (M : MapF), NumMap M n ks → Round k K G R of next ks k n → ∃ next', P next' ∧ L43_1 an af pl k fn G k R st k count k k fn G k k k of n clk M k next (.vec false 1 k k (fun i => .sc (.int .i64 (next' i))))) :
  ∀ (m s n clk : Nat) (M : MapF) (ks : Nat → List Int) (next : Nat → Int), s + m = k → NumMap M n ks → Round k K G R of next ks s n →
  ∃ next', P next' ∧ L43_1 an af pl k fn G k R st k count k k fn G k s k of n clk M k next (.vec false 1 k k (fun i => .sc (.int .i64 (next' i)))) := by
 intro m
 induction m with
 | zero =>
  intro s n clk M ks next hs hM hr
  obtain rfl : s = k := by omega
  exact K0 next ks n clk M hM hr
 | succ m ih =>
  intro s n clk M ks next hs hM hr
  have hsk : s < k := by omega
  have hk := hT.kle
  have hvs := stepKey_ok hT hof hsk
  have hR := hT.ru s hsk
  have hofs := hof s hsk
  have step : ∀ (res : AV),
    (M (key (stepKey K G R of s)) = none → L43_1 an af pl k fn G k R st k count k k fn G k ((s + 1 : Nat) : Int) k of (n + 1) (clk + 1) (putM M clk (key (stepKey K G R of s)) n) k (fun i => if i = s then (n : Int) else next i) res) →
    (∀ v c, M (key (stepKey K G R of s)) = some (v, c) → L43_1 an af pl k fn G k R st k count k k fn G k ((s + 1 : Nat) : Int) k of n clk M k (fun i => if i = s then v else next i) res) →
    L43_1 an af pl k fn G k R st k count k k fn G k s k of n clk M k next res := by
   intro res h1 h2
   have h5 : ∀ v n' clk' M', L43_1 an af pl k fn G k R st k count k k fn G k ((s + 1 : Nat) : Int) k of n' clk' M' k (fun i => if i = s then v else next i) res →
     L43_5 an af pl k fn G k R st k count k s v k fn G k s k of n' clk' M' k next res := by
    intro v n' clk' M' hL
    apply r43_5
    simp only [Int.toNat_natCast]
    refine ⟨⟨by omega, by omega⟩, hsk, ?_⟩
    apply r43_6
    rw [wrapSucc (by omega)]
    have e : (fun i => bif i.beq s then v else next i) = fun i => if i = s then v else next i := by funext i; rw [bif_beq]
    rw [e]; exact hL
   obtain ⟨g1, hg1, hO1⟩ := put_nil (v := R s) ⟨by omega, by omega⟩
   obtain ⟨g2, hg2, hO2⟩ := put_ok (enc3 (R s)) (by rw [enc3_len]; omega) (v := of s) ⟨by omega, by omega⟩ g1 hg1
   apply r43_1
   simp only [Int.toNat_natCast]
   refine ⟨fun _ => ⟨⟨by omega, by omega⟩, ⟨by omega, by omega⟩, (3, 3, g1), hO1, ⟨by omega, by omega⟩, hsk, (3 + 3, 3 + 3, g2), hO2, ?_⟩, fun h => by have := of_decide_eq_false h; omega⟩
   exact blocks_key hT hfn hof count hsk n clk M next res (fun h => h5 _ _ _ _ (h1 h)) (fun v c h => h5 _ _ _ _ (h2 v c h)) K 0 (enc3 (R s) ++ enc3 (of s)) g2 (by omega) (by simp [keyL]) hg2
  by_cases hold : ∃ i, i < n ∧ ks i = stepKey K G R of s
  ·obtain ⟨i, hi, hks⟩ := hold
   obtain ⟨c, hc⟩ := hM.has i hi
   rw [hks] at hc
   obtain ⟨next', hP, hL⟩ := ih (s + 1) n clk M ks (fun t => if t = s then (i : Int) else next t) (by omega) hM
    {key := fun t ht => by
      show ∃ j, j < n ∧ (if t = s then (i : Int) else next t) = (j : Int) ∧ _
      by_cases he : t = s
      ·subst he; exact ⟨i, hi, if_pos rfl, hks⟩
      ·rw [if_neg he]; exact hr.key t (by omega)
     on := fun j hj => by
      obtain ⟨t, h1, h2⟩ := hr.on j hj
      exact ⟨t, by omega, by show (if t = s then (i : Int) else next t) = _; rw [if_neg (by omega)]; exact h2⟩ }
   refine ⟨next', hP, step _ (fun h => by rw [hc] at h; cases h) fun v c' h => ?_⟩
   rw [hc] at h
   obtain ⟨rfl, rfl⟩ := Prod.mk.inj (Option.some.inj h)
   exact hL
  ·have hnone := hM.no _ hvs fun i hi he => hold ⟨i, hi, he⟩
   obtain ⟨next', hP, hL⟩ := ih (s + 1) (n + 1) (clk + 1) _ _ (fun t => if t = s then (n : Int) else next t) (by omega) (hM.put clk hvs fun i hi he => hold ⟨i, hi, he⟩)
    {key := fun t ht => by
      show ∃ j, j < n + 1 ∧ (if t = s then (n : Int) else next t) = (j : Int) ∧ (if j < n then ks j else stepKey K G R of s) = _
      by_cases he : t = s
      ·subst he; exact ⟨n, by omega, if_pos rfl, if_neg (Nat.lt_irrefl n)⟩
      ·rw [if_neg he]
       obtain ⟨j, h1, h2, h3⟩ := hr.key t (by omega)
       exact ⟨j, by omega, h2, by rw [if_pos h1]; exact h3⟩
     on := fun j hj => by
      show ∃ t, t < s + 1 ∧ (if t = s then (n : Int) else next t) = (j : Int)
      by_cases he : j = n
      ·exact ⟨s, by omega, by rw [if_pos rfl, he]⟩
      ·obtain ⟨t, h1, h2⟩ := hr.on j (by omega)
       exact ⟨t, by omega, by rw [if_neg (by omega)]; exact h2⟩ }
   exact ⟨next', hP, step _ (fun _ => hL) fun v c h => by rw [hnone] at h; cases h⟩
structure Blocks (k K : Nat) (G : Nat → Nat → Int) (R : Nat → Int) (of : Nat → Int) : Prop where
 lt : ∀ s, s < k → 0 ≤ of s ∧ of s < (k : Int)
 iff : ∀ s t : Nat, s < k → t < k → (of s = of t ↔ AlikeT K G R s t)
theorem blocks_rounds : ∀ (m : Nat) (count : Int) (c : Nat) (of : Nat → Int), (count = c ∧ k + 1 ≤ c + m ∨ count = 0 ∧ k + 2 ≤ c + m) → Part k of c → (∀ s t : Nat, s < k → t < k → AlikeT K G R s t → of s = of t) →
  ∃ next', Blocks k K G R next' ∧ L43_0 an af pl k fn G k R st k count k of (.vec false 1 k k (fun i => .sc (.int .i64 (next' i)))) := by
 intro m
 induction m with
 | zero =>
  intro count c of hm hp _
  have := hp.le
  omega
 | succ m ih =>
  intro count c of hm hp ha
  have hk := hT.kle
  have hpos := hT.pos
  have hcle := hp.le
  have hof : ∀ s, s < k → 0 ≤ of s ∧ of s < (k : Int) := fun s hs => by have := hp.lt s hs; omega
  obtain ⟨next', hP, hL⟩ := blocks_states hT hfn hof count (Blocks k K G R) (an := an) (af := af) (pl := pl) (st := st) (fun next ks n clk M hM hr => by
   have hkey : ∀ s t, s < k → t < k → (next s = next t ↔ stepKey K G R of s = stepKey K G R of t) := by
    intro s t hs ht
    obtain ⟨i, hi, h1, h2⟩ := hr.key s hs
    obtain ⟨j, hj, h3, h4⟩ := hr.key t ht
    rw [h1, h3, ← h2, ← h4]
    constructor
    ·intro h; rw [show i = j by omega]
    ·intro h; rw [hM.inj i j hi hj h]
   have hpn : Part k next n := ⟨fun s hs => by
    obtain ⟨i, hi, h1, _⟩ := hr.key s hs
    omega, hr.on⟩
   obtain ⟨hcn, hcn'⟩ := hp.finer hpn fun s t hs ht h => (stepKey_eq.1 ((hkey s t hs ht).1 h)).2.1
   have hc1 : 1 ≤ c := by have := hp.lt 0 (by omega); omega
   have ha' : ∀ s t : Nat, s < k → t < k → AlikeT K G R s t → next s = next t := fun s t hs ht h => (hkey s t hs ht).2 (hT.alikeStep ha hs ht h)
   have hnle := hpn.le
   by_cases he : (n : Int) = count
   ·have hnc : n = c := by omega
    refine ⟨next, ⟨fun s hs => by have := hpn.lt s hs; omega, fun s t hs ht => ⟨fun h => ?_, ha' s t hs ht⟩⟩, ?_⟩
    ·refine fun w hw => hT.fixed hpn (fun s t hs ht h => ?_) w hw s t hs ht h
     have h1 := (hkey s t hs ht).1 h
     obtain ⟨e1, e2, e3⟩ := stepKey_eq.1 h1
     refine stepKey_eq.2 ⟨e1, h, fun i hi => ?_⟩
     obtain ⟨l1, l2⟩ := hT.go s i hs hi
     obtain ⟨l3, l4⟩ := hT.go t i ht hi
     have e4 := e3 i hi
     split at e4 <;> split at e4
     ·rename_i p1 p2
      rw [if_pos p1, if_pos p2]
      exact hcn' hnc _ _ (by omega) (by omega) e4
     ·rename_i p1 p2
      have := hof (G s i).toNat (by omega); omega
     ·rename_i p1 p2
      have := hof (G t i).toNat (by omega); omega
     ·rename_i p1 p2
      rw [if_neg p1, if_neg p2]
    ·apply r43_1
     refine ⟨fun h => by have := of_decide_eq_true h; omega, fun _ => ⟨fun _ => ⟨⟨by omega, Sub.refl _⟩, Sub.refl _⟩, fun h => ?_⟩⟩
     have : ((n : Int) == count) = true := by rw [he]; exact beq_self_eq_true _
     rw [this] at h; cases h
   ·have hne : ((n : Int) == count) = false := by simpa using he
    have hmm : k + 1 ≤ n + m := by omega
    obtain ⟨next', hP, hL⟩ := ih (n : Int) n next (.inl ⟨rfl, hmm⟩) hpn ha'
    refine ⟨next', hP, ?_⟩
    apply r43_1
    refine ⟨fun h => by have := of_decide_eq_true h; omega, fun _ => ⟨fun h => (by rw [hne] at h; cases h), fun _ => hL⟩⟩) k 0 0 0 (fun _ => none) (fun _ => []) (fun _ => 0) (by omega) NumMap.empty ⟨fun t ht => by omega, fun i hi => by omega⟩
  refine ⟨next', hP, ?_⟩
  apply r43_0
  simp only [Int.toNat_natCast]
  exact ⟨⟨by omega, by omega, by omega, by omega⟩, hL⟩
theorem blocks_ok : ∃ of, Blocks k K G R of ∧ Ok Proofs.Try.prog 43 [tableF true an af pl k fn G k R st] [] (.vec false 1 k k (fun i => .sc (.int .i64 (of i)))) [] := by
 have hk := hT.kle
 have hpos := hT.pos
 obtain ⟨of, hP, hL⟩ := blocks_rounds hT hfn (an := an) (af := af) (pl := pl) (st := st) (k + 1) 0 1 (fun _ => 0) (.inr ⟨rfl, by omega⟩) ⟨fun s hs => by omega, fun i hi => ⟨0, by omega, by omega⟩⟩ (fun _ _ _ _ _ => rfl)
 refine ⟨of, hP, o43 _ _ _ _ _ _ _ _ _ _ ⟨rfl, fun _ _ => trivial⟩ (r43_e _ _ _ _ _ _ _ _ _ _ ?_)⟩
 simp only [Int.toNat_natCast]
 exact ⟨⟨by omega, by omega, by omega, by omega⟩, hL⟩
end
end Go.Am.Seat
end

section
/-! Machine: mini.tabled. -/
namespace Go.Am.Seat
open Go Go.Am
set_option linter.unusedVariables false
theorem rule_ok (d : Dfa) {s : Nat} (hs : s < d.rk) : Ok Proofs.Try.prog 76 [dfaA d, .sc (.int .i64 (s : Int))] [] (.sc (.int .i64 (ruleAt d s))) [] := by
 refine o76 _ _ _ _ _ _ _ _ _ trivial (r76_e _ _ _ _ _ _ _ _ _ ?_)
 rw [Int.toNat_natCast, ruleAt_tab]
 exact ⟨⟨by omega, by omega⟩, Sub.refl _⟩
abbrev rowsA (g : Bool) (k : Nat) (fn : Nat → Nat) (G : Nat → Nat → Int) : AV := .vec g 1 k k (fun i => .vec g 1 (fn i) (fn i) (fun c => .sc (.int .i64 (G i c))))
section
variable {d : Dfa} (hv : d.valid) {K : Nat} {r : Nat → Nat} {pl : Nat → Int} (hr : RepsTo d.cl 256 K r) (hp : PlaceOf d K r pl)
abbrev TabRes (d : Dfa) (L : AV → Prop) : Prop := ∃ K r pl fn G R, Tabled d K r pl G R ∧ (∀ s, s < d.nk → fn s = K) ∧ L (tableF false K (fun i => (r i : Int)) pl d.nk fn G d.nk R d.st)
include hv hr hp
open Classical in
theorem tabled_cut {is : Nat → Bool} (his : ∀ s : Nat, s < d.nk → (is s = true ↔ Live d s)) {R : Nat → Int} (hR : ∀ s, s < d.nk → R s = ruleAt d s) : ∀ (m s : Nat) (fn : Nat → Nat) (G : Nat → Nat → Int), s + m = d.nk →
  (∀ s, s < d.nk → fn s = K) → (∀ a i, a < d.nk → i < K → G a i = if a < s ∧ ¬ Live d (goS d a (r i)) then -1 else goS d a (r i)) →
  TabRes d (L42_4 d.nk is d.nk d.nk s K (fun i => (r i : Int)) pl d.nk d.nk d.st d.nk fn G d.nk R) := by
 intro m
 induction m with
 | zero =>
  intro s fn G hs hfn hG
  obtain rfl : s = d.nk := by omega
  refine ⟨K, r, pl, fn, G, R, ⟨hr, hp, fun a i ha hi hl => ?_, fun a i ha hi hl => ?_, hR⟩, hfn, ?_⟩
  ·rw [hG a i ha hi, if_neg (fun h => h.2 hl)]
  ·rw [hG a i ha hi, if_pos ⟨ha, hl⟩]
  ·apply r42_4
   exact ⟨fun h => by have := of_decide_eq_true h; omega, fun _ => ⟨⟨⟨by omega, by omega⟩, Sub.refl _⟩, Sub.refl _⟩⟩
 | succ m ih =>
  intro s fn G hs hfn hG
  have hsk : s < d.nk := by omega
  have hk := hv.1
  have hK := hr.le
  have row : ∀ (q j : Nat) (f : Nat → Int), j + q = K → (∀ i, i < K → f i = if i < j ∧ ¬ Live d (goS d s (r i)) then -1 else goS d s (r i)) →
    TabRes d (L42_5 d.nk is (fn s) d.nk d.nk s (fn s) (fn s) j K (fun i => (r i : Int)) pl d.nk d.nk d.st (fn s) f d.nk fn G s (fn s) d.nk R) := by
   intro q
   induction q with
   | zero =>
    intro j f hj hf
    obtain rfl : j = K := by omega
    obtain ⟨K', r', pl', fn', G', R', h1, h2, hL⟩ := ih (s + 1) (fun i => bif i.beq s then fn s else fn i) (fun i c => bif i.beq s then f c else G i c) (by omega)
     (fun a ha => by
      show (bif a.beq s then fn s else fn a) = _
      rw [bif_beq]; split
      ·exact hfn s hsk
      ·exact hfn a ha)
     (fun a i ha hi => by
      show (bif a.beq s then f i else G a i) = _
      rw [bif_beq]; split
      ·rename_i he
       subst he
       rw [hf i hi]
       by_cases hl : Live d (goS d a (r i))
       ·rw [if_neg (fun h => h.2 hl), if_neg (fun h => h.2 hl)]
       ·rw [if_pos ⟨hi, hl⟩, if_pos ⟨by omega, hl⟩]
      ·rename_i he
       rw [hG a i ha hi]
       by_cases hl : Live d (goS d a (r i))
       ·rw [if_neg (fun h => h.2 hl), if_neg (fun h => h.2 hl)]
       ·by_cases has : a < s
        ·rw [if_pos ⟨has, hl⟩, if_pos ⟨by omega, hl⟩]
        ·rw [if_neg (fun h => has h.1), if_neg (fun h => by omega)])
    refine ⟨K', r', pl', fn', G', R', h1, h2, ?_⟩
    apply r42_5
    rw [wrapSucc (by omega)]
    refine ⟨fun h => by have := of_decide_eq_true h; rw [hfn s hsk] at this; omega, fun _ => ⟨Nat.le_refl _, fun k hk => SubO.ow (Nat.le_refl _) (Nat.le_refl _) (fun _ _ => rfl), hL⟩⟩
   | succ q ihq =>
    intro j f hj hf
    have hfs := hfn s hsk
    have hjK : j < K := by omega
    have hfj := hf j hjK
    rw [if_neg (fun h => by omega)] at hfj
    have hlt := goS_lt hv (s := (s : Int)) (by omega) (hr.lt j hjK)
    have hge := goS_ge d s (r j)
    have step : ∀ f', (∀ i, i < K → f' i = if i < j + 1 ∧ ¬ Live d (goS d s (r i)) then -1 else goS d s (r i)) →
      TabRes d (fun res => L42_6 d.nk is (fn s) d.nk d.nk s (fn s) (fn s) j K (fun i => (r i : Int)) pl d.nk d.nk d.st (fn s) f' d.nk fn G s (fn s) d.nk R res) := by
     intro f' hf'
     obtain ⟨K', r', pl', fn', G', R', h1, h2, hL⟩ := ihq (j + 1) f' (by omega) hf'
     refine ⟨K', r', pl', fn', G', R', h1, h2, ?_⟩
     apply r42_6
     rw [wrapSucc (by omega)]
     exact hL
    by_cases hl : Live d (goS d s (r j))
    ·obtain ⟨K', r', pl', fn', G', R', h1, h2, hL⟩ := step f (fun i hi => by
      rw [hf i hi]
      by_cases hl' : Live d (goS d s (r i))
      ·rw [if_neg (fun h => h.2 hl'), if_neg (fun h => h.2 hl')]
      ·have hne : i ≠ j := fun he => hl' (he ▸ hl)
       by_cases hij : i < j
       ·rw [if_pos ⟨hij, hl'⟩, if_pos ⟨by omega, hl'⟩]
       ·rw [if_neg (fun h => hij h.1), if_neg (fun h => by omega)])
     refine ⟨K', r', pl', fn', G', R', h1, h2, ?_⟩
     obtain ⟨t, ht⟩ : ∃ t : Nat, goS d s (r j) = t := ⟨(goS d s (r j)).toNat, by have := hl.pos; omega⟩
     rw [ht] at hfj hl hlt
     have hist : is t = true := (his t (by omega)).2 hl
     apply r42_5
     simp only [Int.toNat_natCast, hfj, hist]
     refine ⟨fun _ => ⟨⟨by omega, by omega⟩, by omega, fun _ => ⟨⟨by omega, by omega⟩, fun h => (by cases h), fun _ => hL⟩, fun _ => hL⟩, fun h => by have := of_decide_eq_false h; omega⟩
    ·by_cases hneg : goS d s (r j) < 0
     ·have hm1 : goS d s (r j) = -1 := by omega
      obtain ⟨K', r', pl', fn', G', R', h1, h2, hL⟩ := step f (fun i hi => by
       rw [hf i hi]
       by_cases hl' : Live d (goS d s (r i))
       ·rw [if_neg (fun h => h.2 hl'), if_neg (fun h => h.2 hl')]
       ·by_cases hij : i < j
        ·rw [if_pos ⟨hij, hl'⟩, if_pos ⟨by omega, hl'⟩]
        ·rw [if_neg (fun h => hij h.1)]
         by_cases he : i = j
         ·subst he; rw [if_pos ⟨by omega, hl'⟩, hm1]
         ·rw [if_neg (fun h => by omega)])
      refine ⟨K', r', pl', fn', G', R', h1, h2, ?_⟩
      rw [hm1] at hfj
      apply r42_5
      simp only [Int.toNat_natCast, hfj]
      refine ⟨fun _ => ⟨⟨by omega, by omega⟩, by omega, fun h => (by cases h), fun _ => hL⟩, fun h => by have := of_decide_eq_false h; omega⟩
     ·obtain ⟨t, ht⟩ : ∃ t : Nat, goS d s (r j) = t := ⟨(goS d s (r j)).toNat, by omega⟩
      obtain ⟨K', r', pl', fn', G', R', h1, h2, hL⟩ := step (fun i => bif i.beq j then -1 else f i) (fun i hi => by
       show (bif i.beq j then -1 else f i) = _
       rw [bif_beq]
       by_cases he : i = j
       ·subst he; rw [if_pos rfl, if_pos ⟨by omega, hl⟩]
       ·rw [if_neg he, hf i hi]
        by_cases hl' : Live d (goS d s (r i))
        ·rw [if_neg (fun h => h.2 hl'), if_neg (fun h => h.2 hl')]
        ·by_cases hij : i < j
         ·rw [if_pos ⟨hij, hl'⟩, if_pos ⟨by omega, hl'⟩]
         ·rw [if_neg (fun h => hij h.1), if_neg (fun h => by omega)])
      refine ⟨K', r', pl', fn', G', R', h1, h2, ?_⟩
      rw [ht] at hfj hl hlt
      have hist : is t = false := by
       cases hb : is t with
       | false => rfl
       | true => exact absurd ((his t (by omega)).1 hb) hl
      apply r42_5
      simp only [Int.toNat_natCast, hfj, hist]
      refine ⟨fun _ => ⟨⟨by omega, by omega⟩, by omega, fun _ => ⟨⟨by omega, by omega⟩, fun _ => ⟨⟨by omega, by omega⟩, hL⟩, fun h => (by cases h)⟩, fun h => by have h : decide ((t : Int) ≥ 0) = false := h; have := of_decide_eq_false h; omega⟩, fun h => by have := of_decide_eq_false h; omega⟩
  obtain ⟨K', r', pl', fn', G', R', h1, h2, hL⟩ := row K 0 (G s) (by omega) (fun i hi => by rw [hG s i hsk hi, if_neg (fun h => by omega), if_neg (fun h => by omega)])
  refine ⟨K', r', pl', fn', G', R', h1, h2, ?_⟩
  apply r42_4
  simp only [Int.toNat_natCast]
  exact ⟨fun _ => ⟨⟨by omega, by omega⟩, hsk, hL⟩, fun h => by have := of_decide_eq_false h; omega⟩
theorem tabled_rows : ∀ (m s : Nat) (fn : Nat → Nat) (G : Nat → Nat → Int) (R : Nat → Int), s + m = d.nk →
  (∀ a, a < s → fn a = K) → (∀ a i, a < s → i < K → G a i = goS d a (r i)) → (∀ a, a < s → R a = ruleAt d a) →
  TabRes d (L42_2 d.nk s d.st (fun b => (d.cl b : Int)) d.nk d.ml d.nx d.rk d.ru K (fun i => (r i : Int)) pl s s d.st s fn G s R) := by
 intro m
 induction m with
 | zero =>
  intro s fn G R hs hfn hG hR
  obtain rfl : s = d.nk := by omega
  have hT : TabOf d K r G R := ⟨hr, fun a i ha hi _ => hG a i ha hi, fun a i ha hi _ => .inl (hG a i ha hi), hR⟩
  obtain ⟨is, his, hO⟩ := lives_ok hv.1 hr.le (G := G) (R := R) (fn := fn) (fun a i ha hi => by
   rw [hG a i ha hi]; exact ⟨goS_ge d a (r i), goS_lt hv (by omega) (hr.lt i hi)⟩) hfn
  obtain ⟨K', r', pl', fn', G', R', h1, h2, hL⟩ := tabled_cut hv hr hp (is := is) (fun a ha => (his a ha).trans (hT.live hv (by omega))) hR d.nk 0 fn G (by omega) hfn (fun a i ha hi => by
   rw [if_neg (fun h => by omega)]; exact hG a i ha hi)
  refine ⟨K', r', pl', fn', G', R', h1, h2, ?_⟩
  apply r42_2
  refine ⟨fun h => by have := of_decide_eq_true h; omega, fun _ => ⟨(d.nk, is), ⟨⟨by omega, by omega⟩, hO⟩, hL⟩⟩
 | succ m ih =>
  intro s fn G R hs hfn hG hR
  have hsk : s < d.nk := by omega
  have hk := hv.1
  have hK := hr.le
  have row : ∀ (q j : Nat) (f : Nat → Int), j + q = K → (∀ i, i < j → f i = goS d s (r i)) →
    TabRes d (L42_3 s K d.nk s K (fun i => (r i : Int)) K j d.st (fun b => (d.cl b : Int)) d.nk d.ml d.nx d.rk d.ru K (fun i => (r i : Int)) pl s s d.st K f s fn G s R) := by
   intro q
   induction q with
   | zero =>
    intro j f hj hf
    obtain rfl : j = K := by omega
    obtain ⟨K', r', pl', fn', G', R', h1, h2, hL⟩ := ih (s + 1) (fun i => bif i.beq s then j else fn i) (fun i c => bif i.beq s then f c else G i c) (fun i => bif i.blt s then R i else ruleAt d s) (by omega)
     (fun a ha => by
      show (bif a.beq s then j else fn a) = _
      rw [bif_beq]; split
      ·rfl
      ·exact hfn a (by omega))
     (fun a i ha hi => by
      show (bif a.beq s then f i else G a i) = _
      rw [bif_beq]; split
      ·rename_i he; subst he; exact hf i hi
      ·exact hG a i (by omega) hi)
     (fun a ha => by
      show (bif a.blt s then R a else ruleAt d s) = _
      rw [bif_blt]; split
      ·rename_i h; exact hR a h
      ·rw [show a = s by omega])
    refine ⟨K', r', pl', fn', G', R', h1, h2, ?_⟩
    apply r42_3
    rw [wrapSucc (n := s) (by omega)]
    refine ⟨fun h => by have := of_decide_eq_true h; omega, fun _ => ⟨⟨by omega, by omega, by unfold maxLen; omega⟩, ruleAt d s, rule_ok d (by rw [hv.2.1]; exact hsk), ⟨by omega, by omega, by unfold maxLen; omega⟩, Nat.le_refl _, fun k hk => ?_, hL⟩⟩
    exact SubO.ow (Nat.le_refl _) (Nat.le_refl _) (fun _ _ => rfl)
   | succ q ihq =>
    intro j f hj hf
    have hjK : j < K := by omega
    have hb := hr.lt j hjK
    have hcl := hv.2.2.2.2.2.2.2.1 (r j) hb
    have hml := (hv.2.2.2.2.2.2.2.2 s hsk).1
    obtain ⟨K', r', pl', fn', G', R', h1, h2, hL⟩ := ihq (j + 1) (fun i => bif i.beq j then goS d s (r j) else f i) (by omega) (fun i hi => by
     show (bif i.beq j then goS d s (r j) else f i) = _
     rw [bif_beq]; split
     ·rename_i he; rw [he]
     ·exact hf i (by omega))
    refine ⟨K', r', pl', fn', G', R', h1, h2, ?_⟩
    apply r42_3
    rw [wrapSucc (by omega)]
    simp only [Int.toNat_natCast, if_true]
    simp only [← goS_tab]
    refine ⟨fun _ => ⟨⟨by omega, by omega⟩, ⟨by omega, by omega⟩, ⟨by omega, by omega⟩, by omega, ⟨by omega, by omega⟩, ⟨by omega, by omega⟩, hjK, hL⟩, fun h => by have := of_decide_eq_false h; omega⟩
  obtain ⟨K', r', pl', fn', G', R', h1, h2, hL⟩ := row K 0 (fun _ => 0) (by omega) (fun i hi => by omega)
  refine ⟨K', r', pl', fn', G', R', h1, h2, ?_⟩
  apply r42_2
  simp only [Int.toNat_natCast]
  exact ⟨fun _ => ⟨⟨by omega, by omega, by omega, by omega⟩, hL⟩, fun h => by have := of_decide_eq_false h; omega⟩
end
section
variable {d : Dfa} (hv : d.valid) {K : Nat} {r : Nat → Nat} (hr : RepsTo d.cl 256 K r)
include hv hr
theorem tabled_place {of : Nat → Int} (hof : ∀ i, i < K → of (d.cl (r i)) = (i : Int)) : ∀ (m b : Nat) (pl : Nat → Int), b + m = 256 → (∀ c, c < b → pl c = of (d.cl c)) →
  TabRes d (L42_1 b d.st (fun b => (d.cl b : Int)) d.nk d.ml d.nx d.rk d.ru K (fun i => (r i : Int)) pl d.st of) := by
 intro m
 induction m with
 | zero =>
  intro b pl hb hpl
  obtain rfl : b = 256 := by omega
  have hp : PlaceOf d K r pl := fun c hc => by
   obtain ⟨i, hi, _, hcl⟩ := hr.all c hc
   exact ⟨i, hi, by rw [hpl c hc, ← hcl, hof i hi], hcl⟩
  obtain ⟨K', r', pl', fn', G', R', h1, h2, hL⟩ := tabled_rows hv hr hp d.nk 0 (fun _ => 0) (fun _ _ => Int.ofNat 0) (fun _ => Int.ofNat 0) (by omega) (fun a ha => by omega) (fun a i ha => by omega) (fun a ha => by omega)
  refine ⟨K', r', pl', fn', G', R', h1, h2, ?_⟩
  apply r42_1
  exact ⟨fun h => by have := of_decide_eq_true h; omega, fun _ => hL⟩
 | succ m ih =>
  intro b pl hb hpl
  have hcl := hv.2.2.2.2.2.2.2.1 b (by omega)
  have hm := hv.2.2.2.2.2.2.1
  obtain ⟨K', r', pl', fn', G', R', h1, h2, hL⟩ := ih (b + 1) (fun i => bif i.beq b then of (d.cl b) else pl i) (by omega) (fun c hc => by
   show (bif c.beq b then of (d.cl b) else pl c) = _
   rw [bif_beq]; split
   ·rename_i he; rw [he]
   ·exact hpl c (by omega))
  refine ⟨K', r', pl', fn', G', R', h1, h2, ?_⟩
  apply r42_1
  rw [wrapSucc (by omega)]
  simp only [Int.toNat_natCast]
  exact ⟨fun _ => ⟨⟨by omega, by omega⟩, by omega, ⟨by omega, by omega⟩, by omega, hL⟩, fun h => by have := of_decide_eq_false h; omega⟩
theorem tabled_of : ∀ (m j : Nat) (of : Nat → Int), j + m = K → (∀ i, i < j → of (d.cl (r i)) = (i : Int)) →
  TabRes d (L42_0 K (fun i => (r i : Int)) K j d.st (fun b => (d.cl b : Int)) d.nk d.ml d.nx d.rk d.ru K (fun i => (r i : Int)) (fun _ => 0) d.st of) := by
 intro m
 induction m with
 | zero =>
  intro j of hj hof
  obtain rfl : j = K := by omega
  obtain ⟨K', r', pl', fn', G', R', h1, h2, hL⟩ := tabled_place hv hr hof 256 0 (fun _ => 0) (by omega) (fun c hc => by omega)
  refine ⟨K', r', pl', fn', G', R', h1, h2, ?_⟩
  apply r42_0
  exact ⟨fun h => by have := of_decide_eq_true h; omega, fun _ => hL⟩
 | succ m ih =>
  intro j of hj hof
  have hjK : j < K := by omega
  have hK := hr.le
  have hb := hr.lt j hjK
  have hcl := hv.2.2.2.2.2.2.2.1 (r j) hb
  have hm := hv.2.2.2.2.2.2.1
  obtain ⟨K', r', pl', fn', G', R', h1, h2, hL⟩ := ih (j + 1) (fun i => bif i.beq (d.cl (r j)) then (j : Int) else of i) (by omega) (fun i hi => by
   show (bif (d.cl (r i)).beq (d.cl (r j)) then (j : Int) else of (d.cl (r i))) = _
   rw [bif_beq]; split
   ·rename_i he; rw [hr.inj i j (by omega) hjK he]
   ·rename_i he
    exact hof i (by
     by_cases hij : i = j
     ·subst hij; exact absurd rfl he
     ·omega))
  refine ⟨K', r', pl', fn', G', R', h1, h2, ?_⟩
  apply r42_0
  rw [wrapSucc (by omega)]
  simp only [Int.toNat_natCast]
  exact ⟨fun _ => ⟨⟨by omega, by omega⟩, ⟨by omega, by omega⟩, by omega, ⟨by omega, by omega⟩, by omega, hL⟩, fun h => by have := of_decide_eq_false h; omega⟩
end
theorem tabled_ok (d : Dfa) (hv : d.valid) : TabRes d (fun res => Ok Proofs.Try.prog 42 [dfaA d] [] res []) := by
 obtain ⟨K, r, hr, hO⟩ := reps_ok d hv
 obtain ⟨K', r', pl', fn', G', R', h1, h2, hL⟩ := tabled_of hv hr K 0 (fun _ => 0) (by omega) (fun i hi => by omega)
 refine ⟨K', r', pl', fn', G', R', h1, h2, o42 _ _ _ _ _ _ _ _ ?_ (r42_e _ _ _ _ _ _ _ _ ⟨(K, fun i => (r i : Int)), hO, hL⟩)⟩
 exact ⟨rfl, ⟨rfl, fun _ _ => trivial⟩, fun _ _ => trivial, ⟨rfl, fun _ _ => ⟨rfl, fun _ _ => trivial⟩⟩, ⟨rfl, fun _ _ => trivial⟩, trivial, trivial⟩
end Go.Am.Seat
end

section
/-! Machine: mini.classed: bytes that lead alike get one class. -/
namespace Go.Am.Seat
open Go Go.Am
set_option linter.unusedVariables false
def colKey (L : Nat) (T : Nat → Nat → Int) (i : Nat) : List Int := (List.range L).map (fun a => T a i)
theorem colKey_eq {L : Nat} {T : Nat → Nat → Int} {i j : Nat} : colKey L T i = colKey L T j ↔ ∀ a, a < L → T a i = T a j := by
 unfold colKey
 constructor
 ·intro h a ha
  have := congrArg (fun l => l[a]?) h
  simpa [ha] using this
 ·intro h
  exact List.map_congr_left fun a ha => h a (List.mem_range.1 ha)
structure Cls (L : Nat) (T : Nat → Nat → Int) (i n : Nat) (ks : Nat → List Int) (cj first : Nat → Nat) : Prop where
 key : ∀ j, j < i → cj j < n ∧ ks (cj j) = colKey L T j
 fst : ∀ c, c < n → first c < i ∧ cj (first c) = c ∧ ∀ j, j < first c → cj j < c
theorem Cls.le {L : Nat} {T : Nat → Nat → Int} {i n : Nat} {ks : Nat → List Int} {cj first : Nat → Nat} (h : Cls L T i n ks cj first) : n ≤ i :=
 pigeon i n first (fun c hc => (h.fst c hc).1) fun a b ha hb he => by
  have h1 := (h.fst a ha).2.1
  have h2 := (h.fst b hb).2.1
  rw [he, h2] at h1; exact h1.symm
theorem Cls.old {L : Nat} {T : Nat → Nat → Int} {i n : Nat} {ks : Nat → List Int} {cj first : Nat → Nat} (h : Cls L T i n ks cj first) {c : Nat} (hc : c < n) (hk : ks c = colKey L T i) :
  Cls L T (i + 1) n ks (fun j => if j = i then c else cj j) first where
 key := fun j hj => by
  show (if j = i then c else cj j) < n ∧ ks (if j = i then c else cj j) = _
  split
  ·rename_i he; subst he; exact ⟨hc, hk⟩
  ·exact h.key j (by omega)
 fst := fun a ha => by
  obtain ⟨h1, h2, h3⟩ := h.fst a ha
  refine ⟨by omega, ?_, fun j hj => ?_⟩
  ·show (if first a = i then c else cj (first a)) = a
   rw [if_neg (by omega)]; exact h2
  ·show (if j = i then c else cj j) < a
   rw [if_neg (by omega)]; exact h3 j hj
theorem Cls.new {L : Nat} {T : Nat → Nat → Int} {i n : Nat} {ks : Nat → List Int} {cj first : Nat → Nat} (h : Cls L T i n ks cj first) :
  Cls L T (i + 1) (n + 1) (fun c => if c < n then ks c else colKey L T i) (fun j => if j = i then n else cj j) (fun c => if c < n then first c else i) where
 key := fun j hj => by
  show (if j = i then n else cj j) < n + 1 ∧ (if (if j = i then n else cj j) < n then ks (if j = i then n else cj j) else colKey L T i) = _
  by_cases he : j = i
  ·subst he; simp
  ·obtain ⟨h1, h2⟩ := h.key j (by omega)
   rw [if_neg he, if_pos h1]
   exact ⟨by omega, h2⟩
 fst := fun a ha => by
  show (if a < n then first a else i) < i + 1 ∧ (if (if a < n then first a else i) = i then n else cj (if a < n then first a else i)) = a ∧ ∀ j, j < (if a < n then first a else i) → (if j = i then n else cj j) < a
  by_cases he : a < n
  ·obtain ⟨h1, h2, h3⟩ := h.fst a he
   rw [if_pos he]
   refine ⟨by omega, by rw [if_neg (by omega)]; exact h2, fun j hj => ?_⟩
   rw [if_neg (by omega)]; exact h3 j hj
  ·rw [if_neg he, if_pos rfl]
   refine ⟨by omega, by omega, fun j hj => ?_⟩
   rw [if_neg (by omega)]
   have := (h.key j hj).1
   omega
abbrev dfaO (x : Dfa) (p q : Nat) : AV := .cons 1 (.sc (.int .i64 x.st)) (.cons 256 (.ar 256 1 (fun b => .sc (.int .u8 (x.cl b : Int)))) (.cons 1 (.rf p 1 0 x.nk) (.cons 1 (.rf q 1 0 x.rk) .nil)))
abbrev rowsO (x : Dfa) : AV := .av x.nk 1 (fun i => .ow 3 0 1 (x.ml i) (x.ml i) (fun c => .sc (.int .i64 (x.nx i c))))
abbrev ruleO (x : Dfa) : AV := .ar x.rk 1 (fun i => .sc (.int .i64 (x.ru i)))
abbrev outA (x : Dfa) : List (Nat × Nat × AV) := [(2000, 26, dfaO x 1000 2001), (2001, 3, ruleO x), (1000, 24, rowsO x)]
theorem outA_refl (x : Dfa) : SubOut (outA x) (outA x) := ⟨rfl, rfl, SubB.refl _, rfl, rfl, SubB.refl _, rfl, rfl, ⟨rfl, Nat.le_refl _, fun k hk => SubO.refl _ _⟩, trivial⟩
section
variable {d : Dfa} (hv : d.valid) {K : Nat} {r : Nat → Nat} (hr : RepsTo d.cl 256 K r) {ix : Nat → Nat} (hix : ∀ b, b < 256 → ix b < K ∧ d.cl (r (ix b)) = d.cl b)
 {L : Nat} (hL1 : 1 ≤ L) (hL2 : L ≤ 2048) {fn : Nat → Nat} {T : Nat → Nat → Int} (hfn : ∀ a, a < L → fn a = K) (hT : ∀ a i, a < L → i < K → okV (T a i)) (Rf : Nat → Int)
abbrev CRes (L : Nat) (Rf : Nat → Int) (T : Nat → Nat → Int) (ix : Nat → Nat) (P : AV → List (Nat × Nat × AV) → Prop) : Prop :=
 ∃ x : Dfa, ClassOf x L Rf (fun a b => T a (ix b)) ∧ (∀ b, x.cl b < 256) ∧ P AV.nil.tup (outA x)
include hr hix in
theorem classed_law {n : Nat} {M : MapF} {ks : Nat → List Int} {cj first : Nat → Nat} (hM : NumMap M n ks) (hc : Cls L T K n ks cj first) {cl : Nat → Nat} (hcl : ∀ b, b < 256 → cl b = cj (ix b)) {ml : Nat → Nat} (hml : ∀ a, a < L → ml a = n)
  {nx : Nat → Nat → Int} (hnx : ∀ a c, a < L → c < n → nx a c = T a (first c)) (h1 : 1 ≤ L) : ClassOf ⟨0, cl, L, ml, nx, L, Rf⟩ L Rf (fun a b => T a (ix b)) where
 st := rfl
 nk := rfl
 rk := rfl
 ml := fun i hi => by show ml i = ml 0; rw [hml i hi, hml 0 (by omega)]
 ru := fun _ _ => rfl
 cl := fun b hb => by
  show cl b < ml 0
  rw [hcl b hb, hml 0 (by omega)]
  exact (hc.key _ (hix b hb).1).1
 nx := fun a b ha hb => by
  show nx a (cl b) = T a (ix b)
  rw [hcl b hb]
  obtain ⟨h2, h3⟩ := hc.key _ (hix b hb).1
  rw [hnx a _ ha h2]
  obtain ⟨h4, h5, _⟩ := hc.fst _ h2
  have h6 := (hc.key _ h4).2
  rw [h5, h3] at h6
  exact (colKey_eq.1 h6 a ha).symm
 col := fun b b' hb hb' he => by
  show cl b = cl b'
  rw [hcl b hb, hcl b' hb']
  obtain ⟨h2, h3⟩ := hc.key _ (hix b hb).1
  obtain ⟨h4, h5⟩ := hc.key _ (hix b' hb').1
  exact hM.inj _ _ h2 h4 (by rw [h3, h5]; exact colKey_eq.2 he)
 cls := fun c hcn => by
  have hcn : c < n := by rw [← hml 0 (by omega)]; exact hcn
  obtain ⟨h2, h3, h4⟩ := hc.fst c hcn
  have hrb := hr.lt _ h2
  have hrix : ix (r (first c)) = first c := hr.inj _ _ (hix _ hrb).1 h2 (hix _ hrb).2
  refine ⟨r (first c), hrb, ?_, fun b' hb' => ?_⟩
  ·show cl (r (first c)) = c
   rw [hcl _ hrb, hrix]; exact h3
  ·show cl b' < c
   have hb256 : b' < 256 := by omega
   rw [hcl b' hb256]
   apply h4
   obtain ⟨i, hi, hle, hcli⟩ := hr.all b' hb256
   have hi' : ix b' = i := hr.inj _ _ (hix b' hb256).1 hi ((hix b' hb256).2.trans hcli.symm)
   rw [hi']
   by_cases hlt : i < first c
   ·exact hlt
   ·by_cases he : i = first c
    ·subst he; omega
    ·have := hr.up (first c) i (by omega) hi; omega
include hr hix hL1 hL2 hfn in
theorem classed_rows {n : Nat} {M : MapF} {ks : Nat → List Int} {cj first : Nat → Nat} (hM : NumMap M n ks) (hc : Cls L T K n ks cj first) {cl : Nat → Nat} (hcl : ∀ b, b < 256 → cl b = cj (ix b)) (h8 : ∀ b, cl b < 256) :
  ∀ (m a : Nat) (ml : Nat → Nat) (nx : Nat → Nat → Int), a + m = L → (∀ a', a' < a → ml a' = n) → (∀ a' c, a' < a → c < n → nx a' c = T a' (first c)) →
  CRes L Rf T ix (L44_5 n L fn T L a 0 (fun b => (cl b : Int)) a L L Rf n (fun c => (first c : Int)) a ml nx) := by
 intro m
 induction m with
 | zero =>
  intro a ml nx ha hml hnx
  obtain rfl : a = L := by omega
  refine ⟨_, classed_law hr hix Rf hM hc hcl hml hnx hL1, h8, ?_⟩
  apply r44_5
  exact ⟨fun h => by have := of_decide_eq_true h; omega, fun _ => ⟨Sub.refl _, outA_refl ⟨0, cl, a, ml, nx, a, Rf⟩⟩⟩
 | succ m ih =>
  intro a ml nx ha hml hnx
  have hn := hc.le
  have hK := hr.le
  have row : ∀ (q j : Nat) (f : Nat → Int), j + q = n → (∀ c, c < j → f c = T a (first c)) →
    CRes L Rf T ix (L44_6 n (fn a) (T a) n L fn T L a n n j 0 (fun b => (cl b : Int)) a L L Rf n (fun c => (first c : Int)) n f a ml nx) := by
   intro q
   induction q with
   | zero =>
    intro j f hj hf
    obtain rfl : j = n := by omega
    obtain ⟨x, hx, x8, hL⟩ := ih (a + 1) (fun i => bif i.beq a then j else ml i) (fun i c => bif i.beq a then f c else nx i c) (by omega)
     (fun a' ha' => by
      show (bif a'.beq a then j else ml a') = _
      rw [bif_beq]; split
      ·rfl
      ·exact hml a' (by omega))
     (fun a' c ha' hc' => by
      show (bif a'.beq a then f c else nx a' c) = _
      rw [bif_beq]; split
      ·rename_i he; subst he; exact hf c hc'
      ·exact hnx a' c (by omega) hc')
    refine ⟨x, hx, x8, ?_⟩
    apply r44_6
    rw [wrapSucc (n := a) (by omega)]
    exact ⟨fun h => by have := of_decide_eq_true h; omega, fun _ => ⟨⟨by omega, by omega, by unfold maxLen; omega⟩, Nat.le_refl _, fun k hk => SubO.ow (Nat.le_refl _) (Nat.le_refl _) (fun _ _ => rfl), hL⟩⟩
   | succ q ihq =>
    intro j f hj hf
    have hjn : j < n := by omega
    have hfj := (hc.fst j hjn).1
    obtain ⟨x, hx, x8, hL⟩ := ihq (j + 1) (fun i => bif i.beq j then T a (first j) else f i) (by omega) (fun c hc' => by
     show (bif c.beq j then T a (first j) else f c) = _
     rw [bif_beq]; split
     ·rename_i he; rw [he]
     ·exact hf c (by omega))
    refine ⟨x, hx, x8, ?_⟩
    apply r44_6
    rw [wrapSucc (by omega)]
    simp only [Int.toNat_natCast]
    exact ⟨fun _ => ⟨⟨by omega, by omega⟩, by omega, ⟨by omega, by rw [hfn a (by omega)]; omega⟩, ⟨by omega, by omega⟩, by omega, hL⟩, fun h => by have := of_decide_eq_false h; omega⟩
  obtain ⟨x, hx, x8, hL⟩ := row n 0 (fun _ => 0) (by omega) (fun c hc' => by omega)
  refine ⟨x, hx, x8, ?_⟩
  apply r44_5
  simp only [Int.toNat_natCast]
  exact ⟨fun _ => ⟨⟨by omega, by omega⟩, ⟨by omega, by omega, by omega, by omega⟩, hL⟩, fun h => by have := of_decide_eq_false h; omega⟩
include hv hr hix hL1 hL2 hfn
theorem classed_cls {n : Nat} {M : MapF} {ks : Nat → List Int} {cj first : Nat → Nat} (hM : NumMap M n ks) (hc : Cls L T K n ks cj first) {of : Nat → Nat} (hof : ∀ j, j < K → of (d.cl (r j)) = cj j) (of8 : ∀ k, of k < 256) :
  ∀ (m b : Nat) (cl : Nat → Nat), b + m = 256 → (∀ b', b' < b → cl b' = cj (ix b')) → (∀ b', cl b' < 256) →
  CRes L Rf T ix (L44_4 L fn T n b 0 (fun b => (cl b : Int)) L L Rf d.st (fun b => (d.cl b : Int)) d.nk d.ml d.nx d.rk d.ru (fun c => (of c : Int)) n (fun c => (first c : Int))) := by
 intro m
 induction m with
 | zero =>
  intro b cl hb hcl cl8
  obtain rfl : b = 256 := by omega
  obtain ⟨x, hx, x8, hL⟩ := classed_rows hr hix hL1 hL2 hfn Rf hM hc hcl cl8 L 0 (fun _ => 0) (fun _ _ => Int.ofNat 0) (by omega) (fun a ha => by omega) (fun a c ha => by omega)
  refine ⟨x, hx, x8, ?_⟩
  apply r44_4
  exact ⟨fun h => by have := of_decide_eq_true h; omega, fun _ => hL⟩
 | succ m ih =>
  intro b cl hb hcl cl8
  have hdc := hv.2.2.2.2.2.2.2.1 b (by omega)
  have hm := hv.2.2.2.2.2.2.1
  obtain ⟨h1, h2⟩ := hix b (by omega)
  obtain ⟨x, hx, x8, hL⟩ := ih (b + 1) (fun i => if i = b then of (d.cl b) else cl i) (by omega) (fun b' hb' => by
   show (if b' = b then of (d.cl b) else cl b') = _
   split
   ·rename_i he; subst he; rw [← h2]; exact hof _ h1
   ·exact hcl b' (by omega)) (fun b' => by
   show (if b' = b then of (d.cl b) else cl b') < 256
   split
   ·exact of8 _
   ·exact cl8 b')
  refine ⟨x, hx, x8, ?_⟩
  have e : (fun i => bif i.beq b then (of (d.cl b) : Int) else (cl i : Int)) = fun i => (((fun i => if i = b then of (d.cl b) else cl i) i : Nat) : Int) := by funext i; rw [bif_beq, castIte]
  apply r44_4
  rw [wrapSucc (by omega)]
  simp only [Int.toNat_natCast, e]
  exact ⟨fun _ => ⟨⟨by omega, by omega⟩, by omega, ⟨by omega, by omega⟩, by omega, hL⟩, fun h => by have := of_decide_eq_false h; omega⟩
include hT
theorem classed_cols : ∀ (m i n clk : Nat) (M : MapF) (ks : Nat → List Int) (cj first of : Nat → Nat), i + m = K → NumMap M n ks → Cls L T i n ks cj first → (∀ j, j < i → of (d.cl (r j)) = cj j) → (∀ k, of k < 256) →
  CRes L Rf T ix (L44_0 L fn T n K (fun i => (r i : Int)) K i 0 (fun _ => 0) L L Rf d.st (fun b => (d.cl b : Int)) d.nk d.ml d.nx d.rk d.ru n clk M (fun c => (of c : Int)) n (fun c => (first c : Int))) := by
 intro m
 induction m with
 | zero =>
  intro i n clk M ks cj first of hi hM hc hof of8
  obtain rfl : i = K := by omega
  obtain ⟨x, hx, x8, hL⟩ := classed_cls hv hr hix hL1 hL2 hfn Rf hM hc hof of8 256 0 (fun _ => 0) (by omega) (fun b hb => by omega) (fun _ => by decide)
  refine ⟨x, hx, x8, ?_⟩
  apply r44_0
  exact ⟨fun h => by have := of_decide_eq_true h; omega, fun _ => hL⟩
 | succ m ih =>
  intro i n clk M ks cj first of hi hM hc hof of8
  have hiK : i < K := by omega
  have hK := hr.le
  have hn := hc.le
  have hrb := hr.lt i hiK
  have hdc := hv.2.2.2.2.2.2.2.1 (r i) hrb
  have hm := hv.2.2.2.2.2.2.1
  have hvs : ∀ v ∈ colKey L T i, okV v := by
   intro v h
   simp only [colKey, List.mem_map, List.mem_range] at h
   obtain ⟨a, ha, rfl⟩ := h
   exact hT a i ha hiK
  have step2 : ∀ (res : AV) (out : List (Nat × Nat × AV)) (c n' clk' : Nat) (M' : MapF) (first' : Nat → Nat), c < 256 → 
    L44_0 L fn T n' K (fun i => (r i : Int)) K ((i + 1 : Nat) : Int) 0 (fun _ => 0) L L Rf d.st (fun b => (d.cl b : Int)) d.nk d.ml d.nx d.rk d.ru n' clk' M' (fun k => ((if k = d.cl (r i) then c else of k : Nat) : Int)) n' (fun c => (first' c : Int)) res out →
    L44_2 L fn T n' (r i) (c : Int) K (fun i => (r i : Int)) K i 0 (fun _ => 0) L L Rf d.st (fun b => (d.cl b : Int)) d.nk d.ml d.nx d.rk d.ru n' clk' M' (fun c => (of c : Int)) n' (fun c => (first' c : Int)) res out := by
   intro res out c n' clk' M' first' hc256 hL
   have e : (fun k => bif k.beq (d.cl (r i)) then (c : Int) else (of k : Int)) = fun k => ((if k = d.cl (r i) then c else of k : Nat) : Int) := by funext k; rw [bif_beq, castIte]
   apply r44_2
   rw [wrap_u8 (by omega) (by omega)]
   simp only [Int.toNat_natCast, e]
   refine ⟨⟨by omega, by omega⟩, hrb, ⟨by omega, by omega⟩, by omega, ?_⟩
   apply r44_3
   rw [wrapSucc (by omega)]
   exact hL
  have step1 : ∀ (res : AV) (out : List (Nat × Nat × AV)),
    (M (key (colKey L T i)) = none → L44_2 L fn T (n + 1) (r i) (n : Int) K (fun i => (r i : Int)) K i 0 (fun _ => 0) L L Rf d.st (fun b => (d.cl b : Int)) d.nk d.ml d.nx d.rk d.ru (n + 1) (clk + 1) (putM M clk (key (colKey L T i)) n) (fun c => (of c : Int)) (n + 1) (fun k => ((if k < n then first k else i : Nat) : Int)) res out) →
    (∀ v c, M (key (colKey L T i)) = some (v, c) → L44_2 L fn T n (r i) v K (fun i => (r i : Int)) K i 0 (fun _ => 0) L L Rf d.st (fun b => (d.cl b : Int)) d.nk d.ml d.nx d.rk d.ru n clk M (fun c => (of c : Int)) n (fun c => (first c : Int)) res out) →
    ∀ (q a : Nat) (l : List Nat) (f : Nat → Int), a + q = L → l = keyL ((List.range a).map (fun a => T a i)) → isRow f l →
    L44_1 L fn T n i (r i) l.length K (fun i => (r i : Int)) K i L fn T L a 0 (fun _ => 0) L L Rf d.st (fun b => (d.cl b : Int)) d.nk d.ml d.nx d.rk d.ru n clk M (fun c => (of c : Int)) l.length f n (fun c => (first c : Int)) res out := by
   intro res out h1 h2 q
   induction q with
   | zero =>
    intro a l f ha hl hf
    obtain rfl : a = L := by omega
    have e : Value.string (str l) = key (colKey a T i) := by rw [hl]; rfl
    have ef : (fun k => bif k.blt n then (first k : Int) else (i : Int)) = fun k => ((if k < n then first k else i : Nat) : Int) := by funext k; rw [bif_blt, castIte]
    apply r44_1
    rw [strOf_zero, strOf_row hf, e, ef]
    refine ⟨fun h => by have := of_decide_eq_true h; omega, fun _ => ⟨⟨by omega, str_size l, fun j hj => ?_⟩, fun h => ⟨⟨by omega, by omega, by unfold maxLen; omega⟩, ?_⟩, fun h => ?_⟩⟩
    ·rw [byteAt_strN hj (hl ▸ keyL_lt _), Nat.zero_add, hf j hj]
    ·cases hm : M (key (colKey a T i)) with
     | none => exact h1 hm
     | some x => rw [hm] at h; cases h
    ·cases hm : M (key (colKey a T i)) with
     | none => rw [hm] at h; cases h
     | some x => exact h2 x.1 x.2 hm
   | succ q ihq =>
    intro a l f ha hl hf
    have hlen : l.length = 3 * a := by rw [hl, keyL_len]; simp
    obtain ⟨g, hg, hO⟩ := put_ok l (by omega) (hT a i (by omega) hiK) f hf
    apply r44_1
    simp only [Int.toNat_natCast]
    rw [wrapSucc (by omega)]
    refine ⟨fun _ => ⟨⟨by omega, by omega⟩, ⟨by omega, by rw [hfn a (by omega)]; omega⟩, (l.length + 3, l.length + 3, g), hO, ?_⟩, fun h => by have := of_decide_eq_false h; omega⟩
    have := ihq (a + 1) (l ++ enc3 (T a i)) g (by omega) (by rw [hl, ← keyL_snoc, List.range_succ, List.map_append]; rfl) hg
    rw [List.length_append, enc3_len] at this
    exact this
  have start : ∀ (res : AV) (out : List (Nat × Nat × AV)),
    L44_1 L fn T n i (r i) 0 K (fun i => (r i : Int)) K i L fn T L 0 0 (fun _ => 0) L L Rf d.st (fun b => (d.cl b : Int)) d.nk d.ml d.nx d.rk d.ru n clk M (fun c => (of c : Int)) 0 (fun _ => Int.ofNat 0) n (fun c => (first c : Int)) res out →
    L44_0 L fn T n K (fun i => (r i : Int)) K i 0 (fun _ => 0) L L Rf d.st (fun b => (d.cl b : Int)) d.nk d.ml d.nx d.rk d.ru n clk M (fun c => (of c : Int)) n (fun c => (first c : Int)) res out := by
   intro res out hL
   apply r44_0
   simp only [Int.toNat_natCast]
   exact ⟨fun _ => ⟨⟨by omega, by omega⟩, hL⟩, fun h => by have := of_decide_eq_false h; omega⟩
  have hof' : ∀ c : Nat, ∀ j, j < i + 1 → (fun k => if k = d.cl (r i) then c else of k) (d.cl (r j)) = (fun j => if j = i then c else cj j) j := by
   intro c j hj
   show (if d.cl (r j) = d.cl (r i) then c else of (d.cl (r j))) = if j = i then c else cj j
   by_cases he : j = i
   ·rw [he, if_pos rfl, if_pos rfl]
   ·rw [if_neg he, if_neg (fun h => he (hr.inj j i (by omega) hiK h))]
    exact hof j (by omega)
  have of8' : ∀ c : Nat, c < 256 → ∀ k, (fun k => if k = d.cl (r i) then c else of k) k < 256 := by
   intro c hc k
   show (if k = d.cl (r i) then c else of k) < 256
   split
   ·exact hc
   ·exact of8 k
  by_cases hold : ∃ c, c < n ∧ ks c = colKey L T i
  ·obtain ⟨c, hcn, hks⟩ := hold
   obtain ⟨c', hc'⟩ := hM.has c hcn
   rw [hks] at hc'
   obtain ⟨x, hx, x8, hL⟩ := ih (i + 1) n clk M ks _ first (fun k => if k = d.cl (r i) then c else of k) (by omega) hM (hc.old hcn hks) (hof' c) (of8' c (by omega))
   refine ⟨x, hx, x8, start _ _ (step1 _ _ (fun h => by rw [hc'] at h; cases h) (fun v c'' h => ?_) L 0 [] _ (by omega) rfl (isRow_nil _))⟩
   rw [hc'] at h
   obtain ⟨rfl, rfl⟩ := Prod.mk.inj (Option.some.inj h)
   exact step2 _ _ c n clk M first (by omega) hL
  ·have hnone := hM.no _ hvs fun c hcn he => hold ⟨c, hcn, he⟩
   obtain ⟨x, hx, x8, hL⟩ := ih (i + 1) (n + 1) (clk + 1) _ _ _ _ (fun k => if k = d.cl (r i) then n else of k) (by omega) (hM.put clk hvs fun c hcn he => hold ⟨c, hcn, he⟩) hc.new (hof' n) (of8' n (by omega))
   refine ⟨x, hx, x8, start _ _ (step1 _ _ (fun _ => ?_) (fun v c h => by rw [hnone] at h; cases h) L 0 [] _ (by omega) rfl (isRow_nil _))⟩
   exact step2 _ _ n (n + 1) (clk + 1) _ (fun k => if k < n then first k else i) (by omega) hL
end
theorem classed_ok {d : Dfa} (hv : d.valid) {K : Nat} {r : Nat → Nat} (hr : RepsTo d.cl 256 K r) {ix : Nat → Nat} (hix : ∀ b, b < 256 → ix b < K ∧ d.cl (r (ix b)) = d.cl b)
  {L : Nat} (hL1 : 1 ≤ L) (hL2 : L ≤ 2048) {fn : Nat → Nat} {T : Nat → Nat → Int} (hfn : ∀ a, a < L → fn a = K) (hT : ∀ a i, a < L → i < K → okV (T a i)) (Rf : Nat → Int) :
  CRes L Rf T ix (fun res out => Ok Proofs.Try.prog 44 [.pt 2000 [] 0, dfaA d, .vec true 1 K K (fun i => .sc (.int .u8 (r i : Int))), rowsA true L fn T]
   [(2000, 26, .cons 1 (.sc (.int .i64 0)) (.cons 256 (.ar 256 1 (fun _ => .sc (.int .u8 0))) (.cons 1 (.sc (.slice none 0 0)) (.cons 1 (.rf 2001 1 0 L) .nil)))), (2001, 3, .ar L 1 (fun i => .sc (.int .i64 (Rf i))))] res out) := by
 obtain ⟨x, hx, x8, hL⟩ := classed_cols hv hr hix hL1 hL2 hfn hT Rf K 0 0 0 (fun _ => none) (fun _ => []) (fun _ => 0) (fun _ => 0) (fun _ => 0) (by omega) NumMap.empty ⟨fun j hj => by omega, fun c hc => by omega⟩ (fun j hj => by omega) (fun _ => by decide)
 refine ⟨x, hx, x8, o44 _ _ _ _ _ _ _ _ _ _ _ _ _ _ _ _ _ _ _ ⟨trivial, fun q hq => ?_⟩ rfl (r44_e _ _ _ _ _ _ _ _ _ _ _ _ _ _ _ _ _ _ _ hL)⟩
 simp only [List.mem_cons, List.not_mem_nil, or_false] at hq
 rcases hq with rfl | rfl | rfl
 ·exact ⟨trivial, fun _ _ => trivial, trivial, trivial, trivial⟩
 ·exact fun _ _ => trivial
 ·exact fun _ _ _ _ => trivial
end Go.Am.Seat
end

section
/-! Machine: mini.Least. -/
namespace Go.Am.Seat
open Go Go.Am
set_option linter.unusedVariables false
abbrev leastV (x : Dfa) (e : Int) : AV := (.cons 1 (dfaO x 1000 1001) (.cons 1 (.sc (.int .i64 e)) .nil) : AV).tup
abbrev leastO (x : Dfa) : List (Nat × Nat × AV) := [(1000, 24, rowsO x), (1001, 3, ruleO x)]
theorem leastO_refl (x : Dfa) : SubOut (leastO x) (leastO x) := ⟨rfl, rfl, ⟨rfl, Nat.le_refl _, fun k hk => SubO.refl _ _⟩, rfl, rfl, SubB.refl _, trivial⟩
theorem leastO_new (x : Dfa) : ∀ q ∈ leastO x, newOnly q.2.2 := by
 intro q hq
 simp only [List.mem_cons, List.not_mem_nil, or_false] at hq
 rcases hq with rfl | rfl
 ·exact fun _ _ _ _ => trivial
 ·exact fun _ _ => trivial
structure IsLeast (d x : Dfa) : Prop where
 canon : Canon x
 alike : Alike x 0 d d.st
 le : x.nk ≤ d.nk
 ru : ∀ i, i < x.nk → x.ru i < 48
 cl8 : ∀ b, x.cl b < 256
abbrev LRes (d : Dfa) (P : AV → List (Nat × Nat × AV) → Prop) : Prop := ∃ x : Dfa, IsLeast d x ∧ P (leastV x 0) (leastO x)
structure Numbered (k : Nat) (of : Nat → Int) (L : Nat) (φ : Nat → Nat) (num : Nat → Int) : Prop where
 has : ∀ j, j < L → num (of (φ j)).toNat = ((j + 1 : Nat) : Int)
 no : ∀ c, c < k → (∀ j, j < L → (of (φ j)).toNat ≠ c) → num c = 0
section
variable {d : Dfa} (hv : d.valid) {K : Nat} {r : Nat → Nat} {pl : Nat → Int} {fn : Nat → Nat} {G : Nat → Nat → Int} {R : Nat → Int} (ht : Tabled d K r pl G R) (hfn : ∀ s, s < d.nk → fn s = K)
 {of : Nat → Int} (hb : Blocks d.nk K G R of)
include hv ht hb
theorem block_alike {s t : Nat} (hs : s < d.nk) (hk : t < d.nk) : of s = of t ↔ Alike d s d t :=
 (hb.iff s t hs hk).trans (ht.tab.alike hv (by omega) (by omega))
omit hb in
theorem least_rules {L : Nat} {φ : Nat → Nat} {T : Nat → Nat → Int} (hg : Grow d K G L φ T L 0) {f3 : Nat → Int} (h3 : ∀ j, j < L → f3 j = (φ j : Int)) {fn4 : Nat → Nat} {f4 : Nat → Nat → Int} (hn4 : ∀ a, a < L → fn4 a = K) (h4 : ∀ a i, a < L → i < K → f4 a i = T a i) :
  ∀ (m j : Nat) (f8 : Nat → Int), j + m = L → (∀ i, i < j → f8 i = ruleAt d (φ i)) →
  LRes d (L17_4 K (fun i => (r i : Int)) pl d.nk fn G d.nk R d.st L L L j d.st (fun b => (d.cl b : Int)) d.nk d.ml d.nx d.rk d.ru 0 (fun _ => 0) 0 (fun _ => 0) j L f3 L fn4 f4 j f8) := by
 have hLe := hg.le
 have hk := hv.1
 intro m
 induction m with
 | zero =>
  intro j f8 hj h8
  obtain rfl : j = L := by omega
  have hix : ∀ b, b < 256 → (pl b).toNat < K ∧ d.cl (r (pl b).toNat) = d.cl b := fun b hb => by
   obtain ⟨i, hi, he, hc⟩ := ht.pl b hb
   rw [he, Int.toNat_natCast]; exact ⟨hi, hc⟩
  have hTv : ∀ a i, a < j → i < K → okV (f4 a i) := fun a i ha hi => by
   rw [h4 a i ha hi]
   unfold okV
   by_cases hn : G (φ a) i < 0
   ·rw [hg.no a i ha hi (.inl ha) hn]; omega
   ·have := hg.go a i ha hi (.inl ha) (by omega); omega
  obtain ⟨x, hx, x8, hO⟩ := classed_ok hv ht.reps hix hg.pos (by omega) hn4 hTv f8
  have hlo : LeastOf d j φ (fun n b => T n (pl b).toNat) := hg.done (fun b => (pl b).toNat) r (fun b hb => (hix b hb).1)
   (fun i hi => ⟨ht.reps.lt i hi, ht.reps.inj _ _ (hix _ (ht.reps.lt i hi)).1 hi (hix _ (ht.reps.lt i hi)).2⟩)
   (fun b i hb hi hlt => by
    obtain ⟨c, hc, hle, hcl⟩ := ht.reps.all b hb
    have e : (pl b).toNat = c := ht.reps.inj _ _ (hix b hb).1 hc ((hix b hb).2.trans hcl.symm)
    show (pl b).toNat < i
    rw [e]
    by_cases h1 : c < i
    ·exact h1
    ·by_cases h2 : c = i
     ·subst h2; omega
     ·have := ht.reps.up i c (by omega) hc; omega)
   (fun s b hs hb => by
    obtain ⟨h1, h2⟩ := hix b hb
    rw [← goS_class h2 (s : Int)]
    exact ⟨fun hl => ht.yes s _ hs h1 hl, fun hl => by rw [ht.no s _ hs h1 hl]; decide⟩)
  have hx' : ClassOf x j (fun n => ruleAt d (φ n)) (fun n b => T n (pl b).toNat) :=
   {st := hx.st, nk := hx.nk, rk := hx.rk, ml := hx.ml, ru := fun i hi => by rw [hx.ru i hi]; exact h8 i hi, cl := hx.cl
    nx := fun n b hn hb => by rw [hx.nx n b hn hb]; exact h4 n _ hn (hix b hb).1
    col := fun b b' hb hb' he => hx.col b b' hb hb' fun n hn => by
     show f4 n (pl b).toNat = f4 n (pl b').toNat
     rw [h4 n _ hn (hix b hb).1, h4 n _ hn (hix b' hb').1]; exact he n hn
    cls := hx.cls }
  refine ⟨x, ⟨hx'.canon hlo, hx'.alike hlo, by rw [hx.nk]; exact hLe, fun i hi => ?_, x8⟩, ?_⟩
  ·rw [hx.nk] at hi
   have h1 := ((ht.ok hv).ru _ (hg.lt i hi)).2
   rw [ht.ru _ (hg.lt i hi)] at h1
   rw [hx'.ru i hi]; exact h1
  apply r17_4
  refine ⟨fun h => by have := of_decide_eq_true h; omega, fun _ => ⟨(x.st, fun b => (x.cl b : Int), x.nk, x.rk, x.rk, x.ru, x.nk, x.ml, x.nx), ⟨by omega, hO⟩, Sub.refl _, leastO_refl x⟩⟩
 | succ m ih =>
  intro j f8 hj h8
  have hφ := hg.lt j (by omega)
  obtain ⟨x, hx, hL⟩ := ih (j + 1) (fun i => bif i.blt j then f8 i else R (φ j)) (by omega) (fun i hi => by
   show (bif i.blt j then f8 i else R (φ j)) = _
   rw [bif_blt]; split
   ·rename_i h; exact h8 i h
   ·rw [show i = j by omega]; exact ht.ru _ hφ)
  refine ⟨x, hx, ?_⟩
  apply r17_4
  rw [wrapSucc (by omega)]
  simp only [Int.toNat_natCast, h3 j (by omega)]
  exact ⟨fun _ => ⟨⟨by omega, by omega⟩, by omega, ⟨by omega, by omega⟩, ⟨by omega, by omega, by unfold maxLen; omega⟩, hL⟩, fun h => by have := of_decide_eq_false h; omega⟩
include hfn
theorem least_states : ∀ (m n L : Nat) (φ : Nat → Nat) (T : Nat → Nat → Int) (num f3 : Nat → Int) (fn4 : Nat → Nat) (f4 : Nat → Nat → Int), n + m = d.nk → n ≤ L → Grow d K G L φ T n 0 → Numbered d.nk of L φ num → (∀ j, j < L → f3 j = (φ j : Int)) →
  (∀ a, a < n → fn4 a = K) → (∀ a i, a < n → i < K → f4 a i = T a i) →
  LRes d (L17_0 K (fun i => (r i : Int)) pl d.nk fn G d.nk R d.st d.nk of d.nk L n n d.st (fun b => (d.cl b : Int)) d.nk d.ml d.nx d.rk d.ru 0 (fun _ => 0) d.nk num L f3 n fn4 f4) := by
 have hk := hv.1
 have hK := ht.reps.le
 intro m
 induction m with
 | zero =>
  intro n L φ T num f3 fn4 f4 hn hnL hg hnum h3 hn4 h4
  have hLe := hg.le
  obtain rfl : n = L := by omega
  obtain ⟨x, hx, hL⟩ := least_rules hv ht hg h3 hn4 h4 n 0 (fun _ => Int.ofNat 0) (by omega) (fun i hi => by omega)
  refine ⟨x, hx, ?_⟩
  apply r17_0
  exact ⟨fun h => by have := of_decide_eq_true h; omega, fun _ => hL⟩
 | succ m ih =>
  intro n L φ T num f3 fn4 f4 hn hnL hg hnum h3 hn4 h4
  by_cases hend : n = L
  ·subst hend
   obtain ⟨x, hx, hL⟩ := least_rules hv ht hg h3 hn4 h4 n 0 (fun _ => Int.ofNat 0) (by omega) (fun i hi => by omega)
   refine ⟨x, hx, ?_⟩
   apply r17_0
   exact ⟨fun h => by have := of_decide_eq_true h; omega, fun _ => hL⟩
  have hφn := hg.lt n (by omega)
  have hfφ := hfn _ hφn
  have row : ∀ (q i L' : Nat) (φ' : Nat → Nat) (T' : Nat → Nat → Int) (num' f3' f5 : Nat → Int), i + q = K → n < L' → φ' n = φ n → Grow d K G L' φ' T' n i → Numbered d.nk of L' φ' num' → (∀ j, j < L' → f3' j = (φ' j : Int)) →
    (∀ a j, a < n → j < K → T' a j = T a j) → (∀ j, j < i → f5 j = T' n j) →
    LRes d (L17_1 K (fun i => (r i : Int)) pl d.nk fn G d.nk R d.st d.nk of d.nk L' n n K (fn (φ n)) (G (φ n)) (fn (φ n)) i d.st (fun b => (d.cl b : Int)) d.nk d.ml d.nx d.rk d.ru 0 (fun _ => 0) d.nk num' L' f3' K f5 n fn4 f4) := by
   intro q
   induction q with
   | zero =>
    intro i L' φ' T' num' f3' f5 hi hnL' hφ' hg' hnum' h3' hTT h5
    obtain rfl : i = K := by omega
    have hLe := hg'.le
    obtain ⟨x, hx, hL⟩ := ih (n + 1) L' φ' T' num' f3' (fun k => bif k.beq n then i else fn4 k) (fun k c => bif k.beq n then f5 c else f4 k c) (by omega) (by omega) hg'.row hnum' h3'
     (fun a ha => by
      show (bif a.beq n then i else fn4 a) = _
      rw [bif_beq]; split
      ·rfl
      ·exact hn4 a (by omega))
     (fun a j ha hj => by
      show (bif a.beq n then f5 j else f4 a j) = _
      rw [bif_beq]; split
      ·rename_i he; rw [he]; exact h5 j hj
      ·rw [h4 a j (by omega) hj, hTT a j (by omega) hj])
    refine ⟨x, hx, ?_⟩
    apply r17_1
    rw [wrapSucc (n := n) (by omega)]
    refine ⟨fun h => by have := of_decide_eq_true h; rw [hfφ] at this; omega, fun _ => ⟨⟨by omega, by omega, by unfold maxLen; omega⟩, Nat.le_refl _, fun k hk => SubO.ow (Nat.le_refl _) (Nat.le_refl _) (fun _ _ => rfl), hL⟩⟩
   | succ q ihq =>
    intro i L' φ' T' num' f3' f5 hi hnL' hφ' hg' hnum' h3' hTT h5
    have hiK : i < K := by omega
    have hLe := hg'.le
    obtain ⟨g1, g2⟩ := (ht.ok hv).go (φ n) i hφn hiK
    have put : ∀ (v : Int), (∀ j, j < i + 1 → (fun c => bif c.beq i then v else f5 c) j = setT T' n i v n j) := by
     intro v j hj
     show (bif j.beq i then v else f5 j) = _
     rw [bif_beq]
     unfold setT
     split
     ·rename_i he; subst he; rw [if_pos ⟨rfl, rfl⟩]
     ·rename_i he; rw [if_neg (fun h => he h.2)]; exact h5 j (by omega)
    have keep : ∀ (v : Int), ∀ a j, a < n → j < K → setT T' n i v a j = T a j := by
     intro v a j ha hj
     unfold setT
     rw [if_neg (fun h => by omega)]; exact hTT a j ha hj
    by_cases hneg : G (φ n) i < 0
    ·obtain ⟨x, hx, hL⟩ := ihq (i + 1) L' φ' _ num' f3' (fun c => bif c.beq i then -1 else f5 c) (by omega) hnL' hφ' (hg'.none (by rw [hφ']; exact hneg)) hnum' h3' (keep (-1)) (put (-1))
     refine ⟨x, hx, ?_⟩
     apply r17_1
     simp only [Int.toNat_natCast]
     refine ⟨fun _ => ⟨⟨by omega, by omega⟩, fun _ => ⟨⟨by omega, by omega⟩, hiK, ?_⟩, fun h => by have := of_decide_eq_false h; omega⟩, fun h => by have := of_decide_eq_false h; omega⟩
     apply r17_3
     rw [wrapSucc (by omega)]
     exact hL
    ·obtain ⟨t, htt⟩ : ∃ t : Nat, G (φ n) i = t := ⟨(G (φ n) i).toNat, by omega⟩
     rw [htt] at g2
     have htk : t < d.nk := by omega
     obtain ⟨o1, o2⟩ := hb.lt t htk
     have hcond : Numbered d.nk of L' φ' num' → ((∃ k, k < L' ∧ Alike d (φ' k) d t) ∧ True) ∨ (¬ ∃ k, k < L' ∧ Alike d (φ' k) d t) := fun _ => by
      by_cases h : ∃ k, k < L' ∧ Alike d (φ' k) d t
      ·exact .inl ⟨h, trivial⟩
      ·exact .inr h
     by_cases hold : ∃ k, k < L' ∧ Alike d (φ' k) d t
     ·obtain ⟨k, hkL, hal⟩ := hold
      have hofk : of (φ' k) = of t := (block_alike hv ht hb (hg'.lt k hkL) htk).2 hal
      have hnk := hnum'.has k hkL
      rw [hofk] at hnk
      obtain ⟨x, hx, hL⟩ := ihq (i + 1) L' φ' _ num' f3' (fun c => bif c.beq i then (k : Int) else f5 c) (by omega) hnL' hφ' (hg'.old (by rw [hφ', htt]; omega) hkL (by rw [hφ', htt]; exact hal)) hnum' h3' (keep k) (put k)
      refine ⟨x, hx, ?_⟩
      have hne : (((k + 1 : Nat) : Int) == 0) = false := by simp only [beq_eq_false_iff_ne, ne_eq]; omega
      have ew : IntKind.i64.wrap (((k + 1 : Nat) : Int) - 1) = (k : Int) := by rw [wrap_i64 (by omega) (by omega)]; omega
      apply r17_1
      simp only [Int.toNat_natCast, htt, hnk, hne]
      refine ⟨fun _ => ⟨⟨by omega, by omega⟩, fun h => by have := of_decide_eq_true h; omega, fun _ => ⟨⟨by omega, by omega⟩, ⟨by omega, by omega⟩, by omega, fun h => (by cases h), fun _ => ?_⟩⟩, fun h => by have := of_decide_eq_false h; omega⟩
      apply r17_2
      simp only [Int.toNat_natCast, hnk, ew]
      refine ⟨⟨by omega, by omega⟩, ⟨by omega, by omega⟩, by omega, ⟨by omega, by omega⟩, hiK, ?_⟩
      apply r17_3
      rw [wrapSucc (by omega)]
      exact hL
     ·have hno : num' (of t).toNat = 0 := hnum'.no _ (by omega) fun j hj he => hold ⟨j, hj, (block_alike hv ht hb (hg'.lt j hj) htk).1 (by
       have := hb.lt (φ' j) (hg'.lt j hj); omega)⟩
      have hφnew : ∀ k, k < L' → (fun j => if j < L' then φ' j else t) k = φ' k := fun k hk => if_pos hk
      have hLL : L' < d.nk := by
       have h1 := (hg'.new (by omega) hiK (by rw [hφ', htt]) htk (fun k hk hal => hold ⟨k, hk, hal⟩) (fun j => if j < L' then φ' j else t) hφnew (if_neg (Nat.lt_irrefl _))).le
       omega
      obtain ⟨x, hx, hL⟩ := ihq (i + 1) (L' + 1) (fun j => if j < L' then φ' j else t) _ (fun c => bif c.beq (of t).toNat then ((L' + 1 : Nat) : Int) else num' c) (fun j => bif j.blt L' then f3' j else (t : Int)) (fun c => bif c.beq i then (L' : Int) else f5 c) (by omega) (by omega) (by rw [if_pos (by omega)]; exact hφ')
       (hg'.new (by omega) hiK (by rw [hφ', htt]) htk (fun k hk hal => hold ⟨k, hk, hal⟩) _ hφnew (if_neg (Nat.lt_irrefl _)))
       {has := fun j hj => by
         show (bif (of (if j < L' then φ' j else t)).toNat.beq (of t).toNat then ((L' + 1 : Nat) : Int) else num' (of (if j < L' then φ' j else t)).toNat) = _
         rw [bif_beq]
         by_cases hjL : j < L'
         ·rw [if_pos hjL]
          have hlt := hb.lt (φ' j) (hg'.lt j hjL)
          rw [if_neg (fun he => hold ⟨j, hjL, (block_alike hv ht hb (hg'.lt j hjL) htk).1 (by omega)⟩)]
          exact hnum'.has j hjL
         ·rw [if_neg hjL, if_pos rfl, show j = L' by omega]
        no := fun c hc hne => by
         show (bif c.beq (of t).toNat then ((L' + 1 : Nat) : Int) else num' c) = 0
         have h1 := hne L' (by omega)
         rw [if_neg (Nat.lt_irrefl _)] at h1
         rw [bif_beq, if_neg (fun he => h1 he.symm)]
         exact hnum'.no c hc fun j hj => by have := hne j (by omega); rwa [if_pos hj] at this }
       (fun j hj => by
        show (bif j.blt L' then f3' j else (t : Int)) = ((if j < L' then φ' j else t : Nat) : Int)
        rw [bif_blt]; split
        ·rename_i h; exact h3' j h
        ·rfl)
       (keep L') (put L')
      refine ⟨x, hx, ?_⟩
      have ew : IntKind.i64.wrap (((L' + 1 : Nat) : Int) - 1) = (L' : Int) := by rw [wrap_i64 (by omega) (by omega)]; omega
      have en : (bif (of t).toNat.beq (of t).toNat then ((L' + 1 : Nat) : Int) else num' (of t).toNat) = ((L' + 1 : Nat) : Int) := by rw [bif_beq, if_pos rfl]
      apply r17_1
      simp only [Int.toNat_natCast, htt, hno]
      refine ⟨fun _ => ⟨⟨by omega, by omega⟩, fun h => by have := of_decide_eq_true h; omega, fun _ => ⟨⟨by omega, by omega⟩, ⟨by omega, by omega⟩, by omega, fun _ => ⟨⟨by omega, by omega, by unfold maxLen; omega⟩, ?_⟩, fun h => (by cases h)⟩⟩, fun h => by have := of_decide_eq_false h; omega⟩
      apply r17_2
      simp only [Int.toNat_natCast, en, ew]
      refine ⟨⟨by omega, by omega⟩, ⟨by omega, by omega⟩, by omega, ⟨by omega, by omega⟩, hiK, ?_⟩
      apply r17_3
      rw [wrapSucc (by omega)]
      exact hL
  obtain ⟨x, hx, hL⟩ := row K 0 L φ T num f3 (fun _ => 0) (by omega) (by omega) rfl hg hnum h3 (fun a j _ _ => rfl) (fun j hj => by omega)
  have hLe := hg.le
  refine ⟨x, hx, ?_⟩
  apply r17_0
  simp only [Int.toNat_natCast, h3 n (by omega)]
  exact ⟨fun _ => ⟨⟨by omega, by omega, by omega, by omega⟩, ⟨by omega, by omega⟩, by omega, ⟨by omega, by omega⟩, hL⟩, fun h => by have := of_decide_eq_false h; omega⟩
end
theorem least_ok (d : Dfa) (h8 : ∀ b, d.cl b < 256) (hv : d.valid) : LRes d (fun res out => Ok Proofs.Try.prog 17 [dfaA d] [] res out) := by
 obtain ⟨K, r, pl, fn, G, R, ht, hfn, hO⟩ := tabled_ok d hv
 obtain ⟨of, hb, hOb⟩ := blocks_ok (ht.ok hv) hfn (an := K) (af := fun i => (r i : Int)) (pl := pl) (st := d.st)
 have hk := hv.1
 have hst0 := hv.2.2.2.1
 have hst1 := hv.2.2.2.2.1
 obtain ⟨s0, hs0⟩ : ∃ s : Nat, d.st = s := ⟨d.st.toNat, by omega⟩
 obtain ⟨o1, o2⟩ := hb.lt s0 (by omega)
 have hg : Grow d K G 1 (fun _ => s0) (fun _ _ => 0) 0 0 := Grow.start hst0 hst1 K G (fun _ => s0) hs0.symm _
 obtain ⟨x, hx, hL⟩ := least_states hv ht hfn hb d.nk 0 1 (fun _ => s0) (fun _ _ => 0) (fun i => bif i.beq (of s0).toNat then 1 else 0) (fun _ => (s0 : Int)) (fun _ => 0) (fun _ _ => Int.ofNat 0) (by omega) (by omega) hg
  {has := fun j hj => by
    show (bif (of s0).toNat.beq (of s0).toNat then (1 : Int) else 0) = _
    rw [bif_beq, if_pos rfl, show j = 0 by omega]; rfl
   no := fun c hc hne => by
    show (bif c.beq (of s0).toNat then (1 : Int) else 0) = 0
    rw [bif_beq, if_neg (fun he => hne 0 (by omega) he.symm)] }
  (fun j hj => rfl) (fun a ha => by omega) (fun a i ha => by omega)
 refine ⟨x, hx, o17 _ _ _ _ _ _ _ _ _ ⟨⟨⟨trivial, fun _ _ => trivial, trivial, trivial, trivial⟩, trivial, trivial⟩, leastO_new x⟩ rfl (r17_e _ _ _ _ _ _ _ _ _ ?_)⟩
 have hc := check_ok d h8
 rw [err_ok hv] at hc
 refine ⟨0, hc, fun h => (by cases h), fun _ => ⟨(K, fun i => (r i : Int), pl, d.nk, fn, G, d.nk, R, d.st), hO, (d.nk, of), hOb, ?_⟩⟩
 simp only [hs0, Int.toNat_natCast]
 rw [hs0] at hL
 exact ⟨⟨by omega, by omega, by omega, by omega⟩, ⟨by omega, by omega⟩, ⟨by omega, by omega⟩, by omega, hL⟩
theorem least_err (d : Dfa) (h8 : ∀ b, d.cl b < 256) (hv : ¬ d.valid) : Ok Proofs.Try.prog 17 [dfaA d] [] (leastV ⟨0, fun _ => 0, 0, fun _ => 0, fun _ _ => 0, 0, fun _ => 0⟩ d.err) (leastO ⟨0, fun _ => 0, 0, fun _ => 0, fun _ _ => 0, 0, fun _ => 0⟩) := by
 refine o17 _ _ _ _ _ _ _ _ _ ⟨⟨⟨trivial, fun _ _ => trivial, trivial, trivial, trivial⟩, trivial, trivial⟩, leastO_new _⟩ rfl (r17_e _ _ _ _ _ _ _ _ _ ⟨d.err, check_ok d h8, fun _ => ⟨Sub.refl _, leastO_refl _⟩, fun h => ?_⟩)
 have : d.err = 0 := by simpa using h
 exact absurd (err_zero.1 this) hv
end Go.Am.Seat
end

section
/-! Machine: mini.Same. -/
namespace Go.Am.Seat
open Go Go.Am
set_option linter.unusedVariables false
abbrev pairK (s t : Nat) : Value := .agg #[.int .i64 (s : Int), .int .i64 (t : Int)]
theorem pairK_inj {s t s' t' : Nat} (h : pairK s t = pairK s' t') : s = s' ∧ t = t' := by
 unfold pairK at h
 have h1 := Value.agg.inj h
 simp only [Array.mk.injEq, List.cons.injEq, Value.int.injEq, and_true, true_and] at h1
 omega
structure MetMap (M : MapF) (clk : Nat) (met : Nat → Nat → Bool) : Prop where
 has : ∀ s t, met s t = true → ∃ c, M (pairK s t) = some (1, c)
 no : ∀ s t, met s t = false → M (pairK s t) = none
 lt : ∀ k v c, M k = some (v, c) → c < clk
theorem MetMap.empty : MetMap (fun _ => none) 0 (fun _ _ => false) := ⟨fun _ _ h => (by cases h), fun _ _ _ => rfl, fun _ _ _ h => (by cases h)⟩
theorem met_put {M : MapF} {clk : Nat} {met : Nat → Nat → Bool} (h : MetMap M clk met) {s t : Nat} (hm : met s t = false) :
  MetMap (setM (putM M clk (pairK s t) 0) (clk : Int) 1) (clk + 1) (fun a b => if a = s ∧ b = t then true else met a b) := by
 have e1 : setM (putM M clk (pairK s t) 0) (clk : Int) 1 (pairK s t) = some (1, clk) := by
  unfold setM putM
  rw [cdec_true.2 rfl, cond_true, h.no s t hm]
  show some ((bif cdec ((clk : Int) = (clk : Int)) then (1 : Int) else 0), clk) = _
  rw [cdec_true.2 rfl]; rfl
 have e2 : ∀ k, k ≠ pairK s t → setM (putM M clk (pairK s t) 0) (clk : Int) 1 k = M k := by
  intro k hk
  unfold setM putM
  rw [cdec_false.2 hk, cond_false]
  cases hq : M k with
  | none => rfl
  | some p =>
   obtain ⟨v, c⟩ := p
   have := h.lt k v c hq
   show some ((bif cdec ((c : Int) = (clk : Int)) then (1 : Int) else v), c) = _
   rw [cdec_false.2 (by omega)]; rfl
 refine ⟨fun a b hab => ?_, fun a b hab => ?_, fun k v c hk => ?_⟩
 ·have hab : (if a = s ∧ b = t then true else met a b) = true := hab
  split at hab
  ·rename_i he; rw [he.1, he.2, e1]; exact ⟨_, rfl⟩
  ·rename_i he
   rw [e2 _ fun hk => he (pairK_inj hk)]
   exact h.has a b hab
 ·have hab : (if a = s ∧ b = t then true else met a b) = false := hab
  split at hab
  ·cases hab
  ·rename_i he
   rw [e2 _ fun hk => he (pairK_inj hk)]
   exact h.no a b hab
 ·by_cases he : k = pairK s t
  ·subst he
   rw [e1] at hk
   have := (Prod.mk.inj (Option.some.inj hk)).2
   omega
  ·rw [e2 k he] at hk
   have := h.lt k v c hk
   omega
abbrev sameV (r : Bool) (e : Int) : AV := (.cons 1 (.sc (.bool r)) (.cons 1 (.sc (.int .i64 e)) .nil) : AV).tup
def offP (met : Nat → Nat → Bool) (m : Nat) : Nat → Nat
 | 0 => 0
 | n + 1 => offP met m n + offN (met n) m
theorem offP_le (met : Nat → Nat → Bool) (m : Nat) : ∀ n, offP met m n ≤ n * m
 | 0 => by unfold offP; omega
 | n + 1 => by have := offP_le met m n; have := offN_le (met n) m; unfold offP; rw [Nat.succ_mul]; omega
theorem offP_same {f g : Nat → Nat → Bool} {m : Nat} : ∀ {n : Nat}, (∀ i j, i < n → f i j = g i j) → offP f m n = offP g m n
 | 0, _ => rfl
 | n + 1, h => by unfold offP; rw [offP_same (n := n) (fun i j hi => h i j (by omega)), offN_same (n := m) (fun j _ => h n j (by omega))]
theorem offP_mark {met : Nat → Nat → Bool} {m s t : Nat} (ht : t < m) (h : met s t = false) : ∀ {n : Nat}, s < n → offP (fun a b => if a = s ∧ b = t then true else met a b) m n + 1 = offP met m n
 | 0, h => by omega
 | n + 1, hs => by
  unfold offP
  by_cases he : s = n
  ·subst he
   rw [offP_same (n := s) (g := met) (fun i j hi => by show (if i = s ∧ j = t then true else met i j) = met i j; rw [if_neg (fun h => by omega)])]
   have h1 := offN_mark (n := m) ht h
   have h2 : offN (fun b => if s = s ∧ b = t then true else met s b) m = offN (fun i => if i = t then true else met s i) m := offN_same fun i _ => by
    show (if s = s ∧ i = t then true else met s i) = if i = t then true else met s i
    by_cases hi : i = t
    ·rw [if_pos ⟨rfl, hi⟩, if_pos hi]
    ·rw [if_neg (fun h => hi h.2), if_neg hi]
   show _ + offN (fun b => if s = s ∧ b = t then true else met s b) m + 1 = _
   rw [h2]; omega
  ·have h1 := offP_mark ht h (n := n) (by omega)
   have h2 : offN (fun b => if n = s ∧ b = t then true else met n b) m = offN (met n) m := offN_same fun i _ => by
    show (if n = s ∧ i = t then true else met n i) = met n i
    rw [if_neg (fun h => he h.1.symm)]
   show _ + offN (fun b => if n = s ∧ b = t then true else met n b) m + 1 = _
   rw [h2]; omega
def inP (n : Nat) (f1 f2 : Nat → Int) (s t : Nat) : Prop := ∃ i, i < n ∧ f1 i = (s : Int) ∧ f2 i = (t : Int)
def Next1 (d e : Dfa) (met : Nat → Nat → Bool) (n : Nat) (f1 f2 : Nat → Int) (s t b : Nat) : Prop :=
 (¬ Live d (goS d s b) ∧ ¬ Live e (goS e t b)) ∨ ∃ s' t' : Nat, goS d s b = (s' : Int) ∧ goS e t b = (t' : Int) ∧ (met s' t' = true ∨ inP n f1 f2 s' t')
structure SInv (d e : Dfa) (met : Nat → Nat → Bool) (n : Nat) (f1 f2 : Nat → Int) (lim : Nat → Nat → Nat) : Prop where
 todo : ∀ i, i < n → ∃ s t : Nat, f1 i = (s : Int) ∧ f2 i = (t : Int) ∧ s < d.nk ∧ t < e.nk ∧ (Alike d d.st e e.st → Alike d s e t)
 start : ∃ s t : Nat, d.st = (s : Int) ∧ e.st = (t : Int) ∧ (met s t = true ∨ inP n f1 f2 s t)
 met : ∀ s t, met s t = true → s < d.nk ∧ t < e.nk ∧ ruleAt d s = ruleAt e t ∧ ∀ b, b < lim s t → Next1 d e met n f1 f2 s t b
theorem SInv.fin {d e : Dfa} {met : Nat → Nat → Bool} {f1 f2 : Nat → Int} (h : SInv d e met 0 f1 f2 (fun _ _ => 256)) : Alike d d.st e e.st := by
 have key : ∀ (w : List Nat), isB w → ∀ s t : Nat, met s t = true → tellsF d s w = tellsF e t w := by
  intro w
  induction w with
  | nil => intro _ s t hm; exact (h.met s t hm).2.2.1
  | cons b w ih =>
   intro hw s t hm
   rw [tellsF_cons, tellsF_cons]
   rcases (h.met s t hm).2.2.2 b hw.head with ⟨h1, h2⟩ | ⟨s', t', h1, h2, h3⟩
   ·rw [not_live h1 hw.tail, not_live h2 hw.tail]
   ·rw [h1, h2]
    rcases h3 with h3 | ⟨i, hi, _⟩
    ·exact ih hw.tail s' t' h3
    ·omega
 obtain ⟨s, t, h1, h2, h3⟩ := h.start
 rw [h1, h2]
 rcases h3 with h3 | ⟨i, hi, _⟩
 ·exact fun w hw => key w hw s t h3
 ·omega
theorem Tabled.at {d : Dfa} {K : Nat} {r : Nat → Nat} {pl : Nat → Int} {G : Nat → Nat → Int} {R : Nat → Int} (h : Tabled d K r pl G R) {s c : Nat} (hs : s < d.nk) (hc : c < 256) :
  (0 ≤ pl c ∧ pl c < (K : Int)) ∧ ((Live d (goS d s c) ∧ G s (pl c).toNat = goS d s c) ∨ (¬ Live d (goS d s c) ∧ G s (pl c).toNat = -1)) := by
 obtain ⟨i, hi, he, hcl⟩ := h.pl c hc
 rw [he, Int.toNat_natCast]
 refine ⟨⟨by omega, by omega⟩, ?_⟩
 have e := goS_class hcl (s : Int)
 by_cases hl : Live d (goS d s c)
 ·left
  rw [← e] at hl
  refine ⟨by rw [← e]; exact hl, ?_⟩
  rw [h.yes s i hs hi hl, e]
 ·right
  rw [← e] at hl
  exact ⟨by rw [← e]; exact hl, h.no s i hs hi hl⟩
theorem inP_push {n : Nat} {f1 f2 : Nat → Int} {x y : Nat} {s t : Nat} : inP (n + 1) (fun i => bif i.blt n then f1 i else (x : Int)) (fun i => bif i.blt n then f2 i else (y : Int)) s t ↔ inP n f1 f2 s t ∨ (s = x ∧ t = y) := by
 constructor
 ·rintro ⟨i, hi, h1, h2⟩
  have h1 : (bif i.blt n then f1 i else (x : Int)) = s := h1
  have h2 : (bif i.blt n then f2 i else (y : Int)) = t := h2
  rw [bif_blt] at h1 h2
  by_cases h : i < n
  ·rw [if_pos h] at h1 h2; exact .inl ⟨i, h, h1, h2⟩
  ·rw [if_neg h] at h1 h2; exact .inr ⟨by omega, by omega⟩
 ·rintro (⟨i, hi, h1, h2⟩ | ⟨h1, h2⟩)
  ·exact ⟨i, by omega, by show (bif i.blt n then f1 i else (x : Int)) = s; rw [bif_blt, if_pos hi]; exact h1, by show (bif i.blt n then f2 i else (y : Int)) = t; rw [bif_blt, if_pos hi]; exact h2⟩
  ·exact ⟨n, by omega, by show (bif n.blt n then f1 n else (x : Int)) = s; rw [bif_blt, if_neg (by omega), h1], by show (bif n.blt n then f2 n else (y : Int)) = t; rw [bif_blt, if_neg (by omega), h2]⟩
theorem SInv.more {d e : Dfa} {met : Nat → Nat → Bool} {n n' : Nat} {f1 f2 g1 g2 : Nat → Int} {lim lim' : Nat → Nat → Nat} (h : SInv d e met n f1 f2 lim) (hsub : ∀ s t, inP n f1 f2 s t → inP n' g1 g2 s t)
  (htodo : ∀ i, i < n' → ∃ s t : Nat, g1 i = (s : Int) ∧ g2 i = (t : Int) ∧ s < d.nk ∧ t < e.nk ∧ (Alike d d.st e e.st → Alike d s e t))
  (hlim : ∀ s t, met s t = true → ∀ b, b < lim' s t → b < lim s t ∨ Next1 d e met n' g1 g2 s t b) : SInv d e met n' g1 g2 lim' where
 todo := htodo
 start := by
  obtain ⟨s, t, h1, h2, h3⟩ := h.start
  exact ⟨s, t, h1, h2, h3.imp id (hsub s t)⟩
 met := fun s t hm => by
  obtain ⟨h1, h2, h3, h4⟩ := h.met s t hm
  refine ⟨h1, h2, h3, fun b hb => ?_⟩
  rcases hlim s t hm b hb with h5 | h5
  ·rcases h4 b h5 with h6 | ⟨s', t', h6, h7, h8⟩
   ·exact .inl h6
   ·exact .inr ⟨s', t', h6, h7, h8.imp id (hsub s' t')⟩
  ·exact h5
section
variable {d e : Dfa} (hd : d.valid) (he : e.valid) {K K' : Nat} {r r' : Nat → Nat} {pl pl' : Nat → Int} {fn fn' : Nat → Nat} {G G' : Nat → Nat → Int} {R R' : Nat → Int}
 (hx : Tabled d K r pl G R) (hfx : ∀ s, s < d.nk → fn s = K) (hy : Tabled e K' r' pl' G' R') (hfy : ∀ s, s < e.nk → fn' s = K')
open Classical in
noncomputable abbrev sameB (d e : Dfa) : Bool := decide (Alike d d.st e e.st)
abbrev L0 (d e : Dfa) (K K' : Nat) (r r' : Nat → Nat) (pl pl' : Nat → Int) (fn fn' : Nat → Nat) (G G' : Nat → Nat → Int) (R R' : Nat → Int) (todon n clk : Nat) (M : MapF) (n1 : Nat) (f1 f2 : Nat → Int) (res : AV) : Prop :=
 L24_0 K (fun i => (r i : Int)) pl d.nk fn G d.nk R d.st K' (fun i => (r' i : Int)) pl' e.nk fn' G' e.nk R' e.st todon n clk M n1 f1 f2 res
abbrev L2 (d e : Dfa) (K K' : Nat) (r r' : Nat → Nat) (pl pl' : Nat → Int) (fn fn' : Nat → Nat) (G G' : Nat → Nat → Int) (R R' : Nat → Int) (todon n clk : Nat) (M : MapF) (n1 : Nat) (f1 f2 : Nat → Int) (s t : Nat) (res : AV) : Prop :=
 L24_2 K (fun i => (r i : Int)) pl d.nk fn G d.nk R d.st K' (fun i => (r' i : Int)) pl' e.nk fn' G' e.nk R' e.st todon n clk M n1 f1 f2 s t res
abbrev L3 (d e : Dfa) (K K' : Nat) (r r' : Nat → Nat) (pl pl' : Nat → Int) (fn fn' : Nat → Nat) (G G' : Nat → Nat → Int) (R R' : Nat → Int) (todon c n clk : Nat) (M : MapF) (n1 : Nat) (f1 f2 : Nat → Int) (s t : Nat) (res : AV) : Prop :=
 L24_3 K (fun i => (r i : Int)) pl d.nk fn G d.nk R d.st K' (fun i => (r' i : Int)) pl' e.nk fn' G' e.nk R' e.st todon c n clk M n1 f1 f2 s t res
open Classical in
theorem sameB_false (h : ¬ Alike d d.st e e.st) : sameB d e = false := decide_eq_false h
open Classical in
theorem sameB_true (h : Alike d d.st e e.st) : sameB d e = true := decide_eq_true h
include hd he hx hy hfx hfy in
theorem same_bytes {s t : Nat} (hs : s < d.nk) (ht : t < e.nk) (hal : Alike d d.st e e.st → Alike d s e t) {M : MapF} {n clk : Nat} {met : Nat → Nat → Bool} {B : Nat} (hB : B ≤ 2000000000)
  (hK : ∀ (todon n1 : Nat) (f1 f2 : Nat → Int), SInv d e met todon f1 f2 (fun _ _ => 256) → todon ≤ B → todon ≤ n1 → L0 d e K K' r r' pl pl' fn fn' G G' R R' todon n clk M n1 f1 f2 (sameV (sameB d e) 0)) :
  ∀ (m c todon n1 : Nat) (f1 f2 : Nat → Int), c + m = 256 → SInv d e met todon f1 f2 (fun a b => if a = s ∧ b = t then c else 256) → todon + m ≤ B → todon ≤ n1 →
  L3 d e K K' r r' pl pl' fn fn' G G' R R' todon c n clk M n1 f1 f2 s t (sameV (sameB d e) 0) := by
 intro m
 induction m with
 | zero =>
  intro c todon n1 f1 f2 hc hi hm hn
  obtain rfl : c = 256 := by omega
  apply r24_3
  refine ⟨fun h => by have := of_decide_eq_true h; omega, fun _ => hK _ _ _ _ (hi.more (fun _ _ h => h) hi.todo fun a b hm c hc => .inl ?_) (by omega) hn⟩
  show c < if a = s ∧ b = t then 256 else 256
  rw [ite_self]; exact hc
 | succ m ih =>
  intro c todon n1 f1 f2 hc hi hm hn
  have hc' : c < 256 := by omega
  obtain ⟨p1, g1⟩ := hx.at hs hc'
  obtain ⟨p2, g2⟩ := hy.at ht hc'
  have a1 := hfx s hs
  have a2 := hfy t ht
  apply r24_3
  rw [show (s : Int).toNat = s from rfl, show (t : Int).toNat = t from rfl, show (c : Int).toNat = c from rfl, a1, a2]
  refine ⟨fun _ => ⟨⟨by omega, by omega⟩, ⟨by omega, by omega⟩, p1, ⟨by omega, by omega⟩, p2, ?_⟩, fun h => by have := of_decide_eq_false h; omega⟩
  have next : ∀ (todon' n1' : Nat) (h1 h2 : Nat → Int), (∀ a b, inP todon f1 f2 a b → inP todon' h1 h2 a b) → (∀ i, i < todon' → ∃ s t : Nat, h1 i = (s : Int) ∧ h2 i = (t : Int) ∧ s < d.nk ∧ t < e.nk ∧ (Alike d d.st e e.st → Alike d s e t)) →
    Next1 d e met todon' h1 h2 s t c → todon' ≤ todon + 1 → todon' ≤ n1' → L3 d e K K' r r' pl pl' fn fn' G G' R R' todon' (c + 1) n clk M n1' h1 h2 s t (sameV (sameB d e) 0) := by
   intro todon' n1' h1 h2 hsub htodo hnx hle hle'
   refine ih (c + 1) todon' n1' h1 h2 (by omega) (hi.more hsub htodo fun a b hab x hx => ?_) (by omega) hle'
   have hx : x < if a = s ∧ b = t then c + 1 else 256 := hx
   show x < (if a = s ∧ b = t then c else 256) ∨ _
   split at hx
   ·rename_i hab
    rw [if_pos hab]
    by_cases hxc : x = c
    ·right; rw [hab.1, hab.2, hxc]; exact hnx
    ·left; omega
   ·rename_i hab
    rw [if_neg hab]; exact .inl hx
  have dead : (Live d (goS d s c) ↔ ¬ Live e (goS e t c)) → Sub (sameV false 0) (sameV (sameB d e) 0) := by
   intro h
   rw [sameB_false fun hA => ?_]
   ·exact Sub.refl _
   ·have h1 := (hal hA).go hc'
    by_cases hl : Live d (goS d s c)
    ·exact h.1 hl (h1.live hl)
    ·exact hl (h1.symm.live (Classical.not_not.1 fun h2 => hl (h.2 h2)))
  rcases g1 with ⟨l1, g1⟩ | ⟨l1, g1⟩ <;> rcases g2 with ⟨l2, g2⟩ | ⟨l2, g2⟩ <;> rw [g1, g2]
  ·have q1 := l1.pos
   have q2 := l2.pos
   have u1 := goS_lt hd (s := (s : Int)) (by omega) hc'
   have u2 := goS_lt he (s := (t : Int)) (by omega) hc'
   obtain ⟨s', es⟩ : ∃ s' : Nat, goS d s c = s' := ⟨(goS d s c).toNat, by omega⟩
   obtain ⟨t', et⟩ : ∃ t' : Nat, goS e t c = t' := ⟨(goS e t c).toNat, by omega⟩
   rw [es] at u1
   rw [et] at u2
   rw [es, et]
   have ed : decide ((s' : Int) < 0) = false := decide_eq_false (by omega)
   have ed' : decide ((t' : Int) < 0) = false := decide_eq_false (by omega)
   rw [ed, ed']
   refine ⟨fun h => (by cases h), fun _ => ⟨fun _ => ⟨⟨hn, by omega, by unfold maxLen; omega⟩, ?_⟩, fun h => by have := of_decide_eq_false h; omega⟩⟩
   apply r24_4
   rw [wrapSucc (by omega)]
   refine next _ _ _ _ (fun a b h => inP_push.2 (.inl h)) (fun i hi' => ?_) (.inr ⟨s', t', es, et, .inr (inP_push.2 (.inr ⟨rfl, rfl⟩))⟩) (Nat.le_refl _) (Nat.le_refl _)
   by_cases hit : i < todon
   ·obtain ⟨a, b, h1, h2, h3⟩ := hi.todo i hit
    exact ⟨a, b, by show (bif i.blt todon then f1 i else (s' : Int)) = a; rw [bif_blt, if_pos hit]; exact h1, by show (bif i.blt todon then f2 i else (t' : Int)) = b; rw [bif_blt, if_pos hit]; exact h2, h3⟩
   ·exact ⟨s', t', by show (bif i.blt todon then f1 i else (s' : Int)) = s'; rw [bif_blt, if_neg hit], by show (bif i.blt todon then f2 i else (t' : Int)) = t'; rw [bif_blt, if_neg hit], by omega, by omega, fun hA => by have := (hal hA).go hc'; rw [es, et] at this; exact this⟩
  ·have q1 := l1.pos
   have ed : decide (goS d s c < 0) = false := decide_eq_false (by omega)
   rw [ed]
   exact ⟨fun _ => dead ⟨fun _ => l2, fun _ => l1⟩, fun h => (by cases h)⟩
  ·have q2 := l2.pos
   have ed : decide (goS e t c < 0) = false := decide_eq_false (by omega)
   rw [ed]
   exact ⟨fun _ => dead ⟨fun h => absurd h l1, fun h => absurd l2 h⟩, fun h => (by cases h)⟩
  ·refine ⟨fun h => (by cases h), fun _ => ⟨fun h => (by cases h), fun _ => ?_⟩⟩
   apply r24_4
   rw [wrapSucc (by omega)]
   exact next _ _ _ _ (fun a b h => h) hi.todo (.inl ⟨l1, l2⟩) (by omega) hn
omit hd he hx hy hfx hfy in
theorem SInv.pop {d e : Dfa} {met met' : Nat → Nat → Bool} {q s t : Nat} {f1 f2 : Nat → Int} {lim lim' : Nat → Nat → Nat} (h : SInv d e met (q + 1) f1 f2 lim) (e1 : f1 q = (s : Int)) (e2 : f2 q = (t : Int))
  (hsub : ∀ a b, met a b = true → met' a b = true) (hst : met' s t = true)
  (hnew : ∀ a b, met' a b = true → (met a b = true ∧ lim' a b ≤ lim a b) ∨ (a < d.nk ∧ b < e.nk ∧ ruleAt d a = ruleAt e b ∧ lim' a b = 0)) : SInv d e met' q f1 f2 lim' := by
 have key : ∀ a b, met a b = true ∨ inP (q + 1) f1 f2 a b → met' a b = true ∨ inP q f1 f2 a b := by
  intro a b hab
  rcases hab with hab | ⟨i, hi, h1, h2⟩
  ·exact .inl (hsub a b hab)
  ·by_cases hiq : i = q
   ·subst hiq
    obtain rfl : a = s := by omega
    obtain rfl : b = t := by omega
    exact .inl hst
   ·exact .inr ⟨i, by omega, h1, h2⟩
 refine ⟨fun i hi => h.todo i (by omega), ?_, fun a b hab => ?_⟩
 ·obtain ⟨a, b, h1, h2, h3⟩ := h.start
  exact ⟨a, b, h1, h2, key a b h3⟩
 ·rcases hnew a b hab with ⟨h1, h2⟩ | ⟨h1, h2, h3, h4⟩
  ·obtain ⟨g1, g2, g3, g4⟩ := h.met a b h1
   refine ⟨g1, g2, g3, fun c hc => ?_⟩
   rcases g4 c (by omega) with g5 | ⟨s', t', g5, g6, g7⟩
   ·exact .inl g5
   ·exact .inr ⟨s', t', g5, g6, key s' t' g7⟩
  ·exact ⟨h1, h2, h3, fun c hc => by omega⟩
omit hd he hx hy hfx hfy in
theorem pairs_arith (C x y q t m : Nat) (h : x + 1 = y) (h1 : y * C + (q + 1) ≤ m + 1) (h2 : t ≤ q + C) : x * C + t ≤ m := by
 subst h
 rw [Nat.succ_mul] at h1
 omega
include hd he hx hy hfx hfy in
theorem same_pairs {B : Nat} (hB : B ≤ 2000000000) : ∀ (m todon n1 : Nat) (f1 f2 : Nat → Int) (M : MapF) (n clk : Nat) (met : Nat → Nat → Bool), offP met e.nk d.nk * 257 + todon ≤ m → offP met e.nk d.nk * 256 + todon ≤ B → todon ≤ n1 →
  MetMap M clk met → SInv d e met todon f1 f2 (fun _ _ => 256) → L0 d e K K' r r' pl pl' fn fn' G G' R R' todon n clk M n1 f1 f2 (sameV (sameB d e) 0) := by
 have zero : ∀ (n1 : Nat) (f1 f2 : Nat → Int) (M : MapF) (n clk : Nat) (met : Nat → Nat → Bool), SInv d e met 0 f1 f2 (fun _ _ => 256) → L0 d e K K' r r' pl pl' fn fn' G G' R R' 0 n clk M n1 f1 f2 (sameV (sameB d e) 0) := by
  intro n1 f1 f2 M n clk met hi
  apply r24_0
  refine ⟨fun h => by have := of_decide_eq_true h; omega, fun _ => ?_⟩
  rw [sameB_true hi.fin]
  exact Sub.refl _
 intro m
 induction m with
 | zero =>
  intro todon n1 f1 f2 M n clk met hm hm' hn hM hi
  obtain rfl : todon = 0 := by omega
  exact zero _ _ _ _ _ _ met hi
 | succ m ih =>
  intro todon n1 f1 f2 M n clk met hm hm' hn hM hi
  by_cases h0 : todon = 0
  ·subst h0; exact zero _ _ _ _ _ _ met hi
  obtain ⟨q, rfl⟩ : ∃ q, todon = q + 1 := ⟨todon - 1, by omega⟩
  obtain ⟨s, t, e1, e2, hs, ht, hal⟩ := hi.todo q (by omega)
  have ew : IntKind.i64.wrap (((q + 1 : Nat) : Int) - 1) = (q : Int) := by rw [wrap_i64 (by omega) (by omega)]; omega
  apply r24_0
  rw [ew, show (q : Int).toNat = q from rfl, e1, e2, show ((q : Int) - 0).toNat = q by omega]
  refine ⟨fun _ => ⟨⟨by omega, by omega⟩, by omega, ⟨by omega, by omega, by omega, by simp⟩, fun hc => ?_, fun hc => ?_⟩, fun h => by have := of_decide_eq_false h; omega⟩
  ·have hmet : met s t = true := by
    cases hq : met s t with
    | true => rfl
    | false =>
     have hc : decide ((Option.map (fun x => x.1) (M (pairK s t))).getD 0 > (0 : Int)) = true := hc
     rw [hM.no s t hq] at hc
     exact absurd (of_decide_eq_true hc) (by decide)
   refine ih q n1 f1 f2 M n clk met (Nat.le_of_succ_le_succ hm) (Nat.le_of_succ_le hm') (by omega) hM (hi.pop e1 e2 (fun _ _ h => h) hmet fun a b h => .inl ⟨h, Nat.le_refl _⟩)
  ·have hmet : met s t = false := by
    cases hq : met s t with
    | false => rfl
    | true =>
     obtain ⟨c, hq⟩ := hM.has s t hq
     have hc : decide ((Option.map (fun x => x.1) (M (pairK s t))).getD 0 > (0 : Int)) = false := hc
     rw [hq] at hc
     exact absurd (show (1 : Int) > 0 by decide) (of_decide_eq_false hc)
   have hno : M (Value.agg #[Value.int IntKind.i64 (s : Int), Value.int IntKind.i64 (t : Int)]) = none := hM.no s t hmet
   have hput : putM M clk (Value.agg #[Value.int IntKind.i64 (s : Int), Value.int IntKind.i64 (t : Int)]) 0 (Value.agg #[Value.int IntKind.i64 (s : Int), Value.int IntKind.i64 (t : Int)]) = some (0, clk) := by
    unfold putM
    rw [cdec_true.2 rfl, cond_true, hno]; rfl
   have hM' := met_put hM hmet
   have hmark := offP_mark ht hmet hs
   have w1 : IntKind.i64.wrap (0 + 1) = 1 := by rw [wrap_i64 (by omega) (by omega)]; rfl
   have main : L2 d e K K' r r' pl pl' fn fn' G G' R R' q (n + 1) (clk + 1) (setM (putM M clk (pairK s t) 0) (clk : Int) 1) n1 f1 f2 s t (sameV (sameB d e) 0) := by
    apply r24_2
    rw [show (s : Int).toNat = s from rfl, show (t : Int).toNat = t from rfl, hx.ru s hs, hy.ru t ht]
    refine ⟨⟨by omega, by omega⟩, ⟨by omega, by omega⟩, fun h => ?_, fun h => ?_⟩
    ·rw [sameB_false fun hA => ?_]
     ·exact Sub.refl _
     ·have h1 : ruleAt d s = ruleAt e t := hal hA [] isB.nil
      rw [h1] at h
      simp at h
    ·have hru : ruleAt d s = ruleAt e t := by simpa using h
     refine same_bytes hd he hx hfx hy hfy hs ht hal (B := q + 256) (by omega) (met := fun a b => if a = s ∧ b = t then true else met a b) (fun todon' n1' g1 g2 hi' hle hle' => ?_) 256 0 q n1 f1 f2 rfl
      (hi.pop e1 e2 (fun a b h => ?_) ?_ fun a b h => ?_) ?_ (by omega)
     ·exact ih todon' n1' g1 g2 _ _ _ _ (pairs_arith 257 _ _ _ _ _ hmark hm (by omega)) (pairs_arith 256 _ _ _ _ _ hmark (Nat.le_succ_of_le hm') hle) hle' hM' hi'
     ·show (if a = s ∧ b = t then true else met a b) = true
      split
      ·rfl
      ·exact h
     ·show (if s = s ∧ t = t then true else met s t) = true
      rw [if_pos ⟨rfl, rfl⟩]
     ·have h : (if a = s ∧ b = t then true else met a b) = true := h
      split at h
      ·rename_i hab
       obtain ⟨rfl, rfl⟩ := hab
       exact .inr ⟨hs, ht, hru, if_pos ⟨rfl, rfl⟩⟩
      ·rename_i hab
       exact .inl ⟨h, by show (if a = s ∧ b = t then 0 else 256) ≤ 256; rw [if_neg hab]; exact Nat.le_refl _⟩
     ·omega
   apply r24_1
   simp only [hno, Option.map_none, Option.getD_none, Option.isSome_none, cond_false, hput, Option.map_some, Option.getD_some, w1]
   exact ⟨⟨⟨_, _, _, hput, rfl⟩, main⟩, ⟨_, _, _, hput, rfl⟩, MapEq.refl _, main⟩
end
theorem sameV_new (b : Bool) (e : Int) : newOnly (sameV b e) := ⟨trivial, trivial, trivial⟩
open Classical in
noncomputable def sameR (d e : Dfa) : Bool × Int := if d.err ≠ 0 then (false, d.err) else if e.err ≠ 0 then (false, e.err) else (sameB d e, 0)
theorem same_all (d e : Dfa) (h8 : ∀ b, d.cl b < 256) (h8' : ∀ b, e.cl b < 256) : Ok Proofs.Try.prog 24 [dfaA d, dfaA e] [] (sameV (sameR d e).1 (sameR d e).2) [] := by
 refine o24 _ _ _ _ _ _ _ _ _ _ _ _ _ _ _ (sameV_new _ _) (r24_e _ _ _ _ _ _ _ _ _ _ _ _ _ _ _ ?_)
 refine ⟨d.err, check_ok d h8, fun h => ?_, fun h => ⟨e.err, check_ok e h8', fun h' => ?_, fun h' => ?_⟩⟩
 ·have h : d.err ≠ 0 := by simpa using h
  unfold sameR
  rw [if_pos h]
  exact Sub.refl _
 ·have h : d.err = 0 := by simpa using h
  have h' : e.err ≠ 0 := by simpa using h'
  unfold sameR
  rw [if_neg (by rw [h]; decide), if_pos h']
  exact Sub.refl _
 ·have h : d.err = 0 := by simpa using h
  have h' : e.err = 0 := by simpa using h'
  have hd : d.valid := err_zero.1 h
  have he : e.valid := err_zero.1 h'
  have hR : sameR d e = (sameB d e, 0) := by
   unfold sameR
   rw [if_neg (by rw [h]; decide), if_neg (by rw [h']; decide)]
  rw [hR]
  obtain ⟨K, r, pl, fn, G, R, hx, hfx, hO⟩ := tabled_ok d hd
  obtain ⟨K', r', pl', fn', G', R', hy, hfy, hO'⟩ := tabled_ok e he
  have hle := offP_le (fun _ _ => false) e.nk d.nk
  have hk := hd.1
  have hk' := he.1
  have hB : d.nk * e.nk ≤ 2048 * 2048 := Nat.mul_le_mul hk hk'
  have hst := hd.2.2.2
  have hst' := he.2.2.2
  obtain ⟨s, hs⟩ : ∃ s : Nat, d.st = s := ⟨d.st.toNat, by omega⟩
  obtain ⟨t, ht⟩ : ∃ t : Nat, e.st = t := ⟨e.st.toNat, by omega⟩
  refine ⟨(K, (fun i => (r i : Int)), pl, d.nk, fn, G, d.nk, R, d.st), hO, (K', (fun i => (r' i : Int)), pl', e.nk, fn', G', e.nk, R', e.st), hO', ?_⟩
  refine same_pairs hd he hx hfx hy hfy (B := offP (fun _ _ => false) e.nk d.nk * 256 + 1) (by omega) _ 1 1 _ _ _ 0 0 (fun _ _ => false) (Nat.le_refl _) (Nat.le_refl _) (Nat.le_refl _) MetMap.empty ?_
  exact ⟨fun i hi => ⟨s, t, hs, ht, by omega, by omega, fun h => by rw [hs, ht] at h; exact h⟩, ⟨s, t, hs, ht, .inr ⟨0, by omega, hs, ht⟩⟩, fun _ _ h => by cases h⟩
end Go.Am.Seat
end

section
/-! Rows and automata from outside. -/
namespace Go.Am.Seat
open Go Go.Am
set_option linter.unusedVariables false

section
variable {cu : Nat → Bool}
theorem shp_int {n : Nat} {x : AV} (hx : ShpC (lookO tab) cu (n + 1) 3 x) : ∃ m : Int, x = .sc (.int .i64 m) ∧ -9223372036854775808 ≤ m ∧ m ≤ 9223372036854775807 := by
 obtain ⟨m, rfl, h2⟩ : ∃ m, x = .sc (.int .i64 m) ∧ (Lit.int .i64 m).wf = true := hx
 have h3 : -9223372036854775808 ≤ m ∧ m ≤ 9223372036854775807 := by simpa [Lit.wf, IntKind.min, IntKind.max, IntKind.signed, IntKind.bits] using h2
 exact ⟨m, rfl, h3⟩
theorem shp_row {n : Nat} {x : AV} (hc : cu 3 = false) (hx : ShpC (lookO tab) cu (n + 2) 24 x) : ∃ (k : Nat) (f : Nat → Int), RSub x (rowA k f) ∧ k * 8 ≤ 140737488355328 ∧ isAg x = false ∧ plainAV x := by
 have hx : bif cu 3 then x = .undef else ∃ (len : Nat) (f : Nat → AV), x = .vec true 1 len len f ∧ len * 8 ≤ reachBytes ∧ ∀ i, i < len → ShpC (lookO tab) cu (n + 1) 3 (f i) := hx
 rw [hc, cond_false] at hx
 obtain ⟨len, f, rfl, hlen, hf⟩ := hx
 have hg : ∀ i, ∃ m : Int, i < len → f i = .sc (.int .i64 m) := by
  intro i
  by_cases hi : i < len
  ·obtain ⟨m, h, _⟩ := shp_int (hf i hi)
   exact ⟨m, fun _ => h⟩
  ·exact ⟨0, fun h => absurd h hi⟩
 obtain ⟨g, hg⟩ := Classical.axiomOfChoice hg
 have hr : reachBytes ≤ 140737488355328 := by decide
 exact ⟨len, g, RSub.vec id (Nat.le_refl _) (Nat.le_refl _) fun i hi => RSub.of_eq (hg i hi), by omega, rfl, trivial⟩
theorem shp_dfa {n : Nat} {x : AV} (hc3 : cu 3 = false) (hc24 : cu 24 = false) (hx : ShpC (lookO tab) cu (n + 4) 26 x) : ∃ d : Dfa, RSub x (dfaA d) ∧ (∀ b, d.cl b < 256) ∧ isAg x = true ∧ plainAV x := by
 obtain ⟨a, r1, rfl, h1, b, r2, rfl, h2, c, r3, rfl, h3, e, r4, rfl, h4, rfl⟩ : ∃ a r1, x = .cons 1 a r1 ∧ ShpC (lookO tab) cu (n + 3) 3 a ∧ ∃ b r2, r1 = .cons 256 b r2 ∧ ShpC (lookO tab) cu (n + 3) 22 b ∧
   ∃ c r3, r2 = .cons 1 c r3 ∧ ShpC (lookO tab) cu (n + 3) 23 c ∧ ∃ e r4, r3 = .cons 1 e r4 ∧ ShpC (lookO tab) cu (n + 3) 24 e ∧ r4 = .nil := hx
 obtain ⟨st, rfl, _⟩ := shp_int h1
 obtain ⟨f, rfl, hf⟩ : ∃ f : Nat → AV, b = .ar 256 1 f ∧ ∀ i, i < 256 → ShpC (lookO tab) cu (n + 2) 5 (f i) := h2
 have hg : ∀ i, ∃ m : Nat, m < 256 ∧ (i < 256 → f i = .sc (.int .u8 (m : Int))) := by
  intro i
  by_cases hi : i < 256
  ·obtain ⟨m, h1, h2⟩ : ∃ m, f i = .sc (.int .u8 m) ∧ (Lit.int .u8 m).wf = true := hf i hi
   have h3 : 0 ≤ m ∧ m ≤ 255 := by simpa [Lit.wf, IntKind.min, IntKind.max, IntKind.signed, IntKind.bits] using h2
   exact ⟨m.toNat, by omega, fun _ => by rw [Int.toNat_of_nonneg h3.1]; exact h1⟩
  ·exact ⟨0, by omega, fun h => absurd h hi⟩
 obtain ⟨cl, hcl⟩ := Classical.axiomOfChoice hg
 have h3 : bif cu 24 then c = .undef else ∃ (len : Nat) (f : Nat → AV), c = .vec true 1 len len f ∧ len * 24 ≤ reachBytes ∧ ∀ i, i < len → ShpC (lookO tab) cu (n + 2) 24 (f i) := h3
 rw [hc24, cond_false] at h3
 obtain ⟨nk, rows, rfl, hnk, hrows⟩ := h3
 have hrow : ∀ i, ∃ q : Nat × (Nat → Int), i < nk → RSub (rows i) (rowA q.1 q.2) := by
  intro i
  by_cases hi : i < nk
  ·obtain ⟨k, f, h, _⟩ := shp_row hc3 (hrows i hi)
   exact ⟨(k, f), fun _ => h⟩
  ·exact ⟨(0, fun _ => 0), fun h => absurd h hi⟩
 obtain ⟨q, hq⟩ := Classical.axiomOfChoice hrow
 obtain ⟨rk, ru, hru, _⟩ := shp_row hc3 h4
 refine ⟨{ st := st, cl := cl, nk := nk, ml := fun i => (q i).1, nx := fun i => (q i).2, rk := rk, ru := ru }, ?_, fun b => (hcl b).1, rfl, trivial⟩
 exact RSub.cons (RSub.refl _) (RSub.cons (RSub.ar fun i hi => RSub.of_eq ((hcl i).2 hi)) (RSub.cons (RSub.vec id (Nat.le_refl _) (Nat.le_refl _) fun i hi => hq i hi) (RSub.cons hru (RSub.refl _))))
end
end Go.Am.Seat
end

section
/-! Machine: what the laws lay beside what they hand over: twins, and whether they are left. -/
namespace Go.Am.Seat
open Go Go.Am
set_option linter.unusedVariables false

theorem sameInts_loop (n : Nat) (hn : n ≤ 9223372036854775807) (f g : Nat → Int) (h : ∀ i, i < n → f i = g i) : ∀ m i, i + m = n → L51_0 n f n g (i : Int) (.sc (.bool true)) := by
 intro m
 induction m with
 | zero =>
  intro i hi
  apply r51_0
  exact ⟨fun h => by have := of_decide_eq_true h; omega, fun _ => Sub.refl _⟩
 | succ m ih =>
  intro i hi
  apply r51_0
  rw [wrapSucc (by omega)]
  simp only [Int.toNat_natCast]
  refine ⟨fun _ => ⟨⟨by omega, by omega⟩, ⟨by omega, by omega⟩, fun hc => ?_, fun _ => ih (i + 1) (by omega)⟩, fun h => by have := of_decide_eq_false h; omega⟩
  exfalso
  rw [h i (by omega)] at hc
  simp at hc
theorem sameInts_true (n : Nat) (f g : Nat → Int) (h : ∀ i, i < n → f i = g i) : Ok Proofs.Try.prog 51 [rowA n f, rowA n g] [] (.sc (.bool true)) [] := by
 refine o51 _ _ _ _ _ trivial ?_
 apply a51_e
 intro hf
 have hn : n ≤ 9223372036854775807 := (hf 0).1
 apply r51_e
 exact ⟨fun h => by simp at h, fun _ => sameInts_loop n hn f g h n 0 (by omega)⟩
def twF (n : Nat) (f : Nat → Int) : Nat → Int := fun j => if j < n then f j else -7000 - ((j - n : Nat) : Int)
abbrev twA (g : Bool) (n : Nat) (f : Nat → Int) : AV := .vec g 1 n (n + 3) (fun j => .sc (.int .i64 (twF n f j)))
theorem twF_lt {n j : Nat} {f : Nat → Int} (h : j < n) : twF n f j = f j := by unfold twF; rw [if_pos h]
theorem wrap7 {i : Nat} (h : i < 3) : IntKind.i64.wrap (-7000 - (i : Int)) = -7000 - (i : Int) := wrap_i64 (by omega) (by omega)
theorem row_bltI' {α : Type} {f : Nat → α} {n i : Nat} {x : α} (h : i < n) : (bif Nat.blt i n then f i else x) = f i := by
 have : Nat.blt i n = true := by simpa using h
 rw [this]; rfl
theorem row_endI' {α : Type} {f : Nat → α} {n i : Nat} {x : α} (h : ¬ i < n) : (bif Nat.blt i n then f i else x) = x := by
 have : Nat.blt i n = false := by
  cases hb : Nat.blt i n with
  | false => rfl
  | true => exact absurd (by simpa using hb) h
 rw [this]; rfl
theorem twin_loop (n : Nat) (f : Nat → Int) (hn : n ≤ 1000000) : ∀ (m i bn : Nat) (g : Nat → Int), i + m = 3 → n + i ≤ bn → (∀ j, j < n + i → g j = twF n f j) →
  L41_0 n f (n + i) (i : Int) bn g (twA false n f) := by
 have hmx : 140737488355328 ≤ maxLen := by decide
 intro m
 induction m with
 | zero =>
  intro i bn g hi hb hg
  obtain rfl : i = 3 := by omega
  apply r41_0
  refine ⟨fun h => by have := of_decide_eq_true h; omega, fun _ => ⟨⟨by omega, by omega, by rw [Int.toNat_natCast]; omega, .inl rfl⟩, by omega, ?_⟩⟩
  have e : ((n : Int) - 0).toNat = n := by omega
  rw [e]
  refine Sub.vec (by omega) (by omega) fun j hj => ?_
  rw [hg j (by omega)]
 | succ m ih =>
  intro i bn g hi hb hg
  apply r41_0
  rw [wrapSucc (by omega), wrap7 (by omega)]
  refine ⟨fun _ => ⟨⟨hb, by omega, by omega⟩, ih (i + 1) (n + i + 1) _ (by omega) (by omega) fun j hj => ?_⟩, fun h => by have := of_decide_eq_false h; omega⟩
  by_cases he : j < n + i
  ·rw [row_bltI' he, hg j he]
  ·rw [row_endI' he]
   obtain rfl : j = n + i := by omega
   unfold twF
   rw [if_neg (by omega)]
   congr 1
   omega
theorem twinInts_ok (n : Nat) (f : Nat → Int) (hn : n ≤ 1000000) : Ok Proofs.Try.prog 41 [rowA n f] [] (twA false n f) [] := by
 refine o41 _ _ _ ⟨rfl, fun _ _ => trivial⟩ ?_
 apply r41_e
 have hmx : 140737488355328 ≤ maxLen := by decide
 refine ⟨⟨by omega, by omega⟩, ?_⟩
 have := twin_loop n f hn 3 0 n (fun i => f (i - 0)) (by omega) (by omega) (fun j hj => by rw [twF_lt (show j < n by omega)]; rfl)
 rw [Nat.zero_add]
 exact this
theorem left_loop (n : Nat) (f : Nat → Int) (hn : n ≤ 1000000) : ∀ (m i : Nat), i + m = 3 → L52_0 n f (n + 3) (twF n f) (i : Int) (.sc (.bool true)) := by
 intro m
 induction m with
 | zero =>
  intro i hi
  apply r52_0
  exact ⟨fun h => by have := of_decide_eq_true h; omega, fun _ => Sub.refl _⟩
 | succ m ih =>
  intro i hi
  apply r52_0
  have e : twF n f (n + i) = -7000 - (i : Int) := by
   unfold twF
   rw [if_neg (by omega)]
   congr 1
   omega
  rw [wrapSucc (n := i) (by omega), wrap7 (by omega), wrapAdd (by omega)]
  simp only [Int.toNat_natCast, e]
  refine ⟨fun _ => ⟨⟨by omega, by omega⟩, fun h => ?_, fun _ => ih (i + 1) (by omega)⟩, fun h => by have := of_decide_eq_false h; omega⟩
  exfalso
  simp at h
theorem leftInts_ok (n : Nat) (f : Nat → Int) (hn : n ≤ 1000000) : Ok Proofs.Try.prog 52 [twA true n f, rowA n f] [] (.sc (.bool true)) [] := by
 refine o52 _ _ _ _ _ _ trivial ?_
 apply r52_e
 have hs := sameInts_true n (twF n f) f (fun i hi => twF_lt hi)
 have ew : IntKind.i64.wrap ((n : Int) + 3) = ((n + 3 : Nat) : Int) := by rw [wrap_i64 (by omega) (by omega)]; rfl
 simp only [ew]
 have e : (((n + 3 : Nat) : Int) - 0).toNat = n + 3 := by omega
 rw [e]
 refine ⟨true, Ok.args (ys := [rowA n (twF n f), rowA n f]) ⟨Sub.vec (Nat.le_refl _) (by omega) (fun _ _ => rfl), Sub.refl _, trivial⟩ hs, fun _ => ⟨by omega, ⟨by omega, by omega⟩, ?_, ?_⟩, fun h => by cases h⟩
 ·refine Sub.vec (Nat.le_refl _) (by omega) fun j hj => ?_
  rfl
 ·exact left_loop n f hn 3 0 (by omega)
def tnF (d : Dfa) (i : Nat) : Nat := if i < d.nk then d.ml i else 1
def tmF (d : Dfa) (i : Nat) : Nat := if i < d.nk then d.ml i + 3 else 1
def tfF (d : Dfa) (i : Nat) : Nat → Int := if i < d.nk then twF (d.ml i) (d.nx i) else fun _ => -7000 - ((i - d.nk : Nat) : Int)
abbrev twD (g : Bool) (d : Dfa) : AV := .cons 1 (.sc (.int .i64 d.st)) (.cons 256 (.ar 256 1 (fun b => .sc (.int .u8 (d.cl b : Int)))) (.cons 1 (.vec g 1 d.nk (d.nk + 3) (fun i => .vec g 1 (tnF d i) (tmF d i) (fun c => .sc (.int .i64 (tfF d i c))))) (.cons 1 (twA g d.rk d.ru) .nil)))
def smallD (d : Dfa) : Prop := d.nk ≤ 1000000 ∧ d.rk ≤ 1000000 ∧ ∀ i, i < d.nk → d.ml i ≤ 1000000
theorem tw_loop2 (d : Dfa) (hd : smallD d) (a : Int) (ca : Nat → Int) : ∀ (m i bn : Nat) (fn fm : Nat → Nat) (ff : Nat → Nat → Int), i + m = 3 → d.nk + i ≤ bn → (∀ j, j < d.nk + i → fn j = tnF d j ∧ fm j = tmF d j ∧ ff j = tfF d j) →
  L16_1 (d.nk + i) (i : Int) d.st (fun b => (d.cl b : Int)) d.nk d.ml d.nx d.rk d.ru a ca bn fn fm ff (twD false d) := by
 have hmx : 140737488355328 ≤ maxLen := by decide
 intro m
 induction m with
 | zero =>
  intro i bn fn fm ff hi hb hg
  obtain rfl : i = 3 := by omega
  apply r16_1
  have h1 := hd.1
  have e : ((d.nk : Int) - 0).toNat = d.nk := by omega
  simp only [e, Int.toNat_natCast]
  refine ⟨fun h => by have := of_decide_eq_true h; omega, fun _ => ⟨⟨by omega, by omega, by omega, .inl trivial⟩, (d.rk, d.rk + 3, twF d.rk d.ru), twinInts_ok d.rk d.ru hd.2.1, by omega, ?_⟩⟩
  refine Sub.of_R (RSub.cons (RSub.refl _) (RSub.cons (RSub.refl _) (RSub.cons (RSub.vec id (by omega) (by omega) fun j hj => RSub.of_eq ?_) (RSub.refl _)))) rfl trivial trivial
  obtain ⟨g1, g2, g3⟩ := hg j (by omega)
  have e3 : plus 0 j = j := rfl
  simp only [g1, g2, g3]
 | succ m ih =>
  intro i bn fn fm ff hi hb hg
  have h1 := hd.1
  apply r16_1
  rw [wrapSucc (n := i) (by omega)]
  simp only [wrap7 (show i < 3 by omega)]
  refine ⟨fun _ => ⟨⟨hb, by omega, by omega⟩, SubB.refl _, ?_⟩, fun h => by have := of_decide_eq_false h; omega⟩
  have := ih (i + 1) (d.nk + i + 1) (fun j => bif Nat.blt j (d.nk + i) then fn j else 1) (fun j => bif Nat.blt j (d.nk + i) then fm j else 1) (fun j c => bif Nat.blt j (d.nk + i) then ff j c else -7000 - (i : Int)) (by omega) (by omega) (fun j hj => ?_)
  ·exact this
  ·by_cases he : j < d.nk + i
   ·obtain ⟨g1, g2, g3⟩ := hg j he
    refine ⟨by rw [row_bltI' he, g1], by rw [row_bltI' he, g2], ?_⟩
    funext c
    rw [row_bltI' (f := fun j => ff j c) he, ← g3]
   ·obtain rfl : j = d.nk + i := by omega
    refine ⟨by rw [row_endI' he]; unfold tnF; rw [if_neg (by omega)], by rw [row_endI' he]; unfold tmF; rw [if_neg (by omega)], ?_⟩
    funext c
    rw [row_endI' (f := fun j => ff j c) he]
    unfold tfF
    rw [if_neg (by omega)]
    congr 1
    omega
theorem tw_loop1 (d : Dfa) (hd : smallD d) (a : Int) (ca : Nat → Int) : ∀ (m i bn : Nat) (fn fm : Nat → Nat) (ff : Nat → Nat → Int), i + m = d.nk → i ≤ bn → (∀ j, j < i → fn j = tnF d j ∧ fm j = tmF d j ∧ ff j = tfF d j) →
  L16_0 i (i : Int) d.st (fun b => (d.cl b : Int)) d.nk d.ml d.nx d.rk d.ru a ca bn fn fm ff (twD false d) := by
 have hmx : 140737488355328 ≤ maxLen := by decide
 intro m
 induction m with
 | zero =>
  intro i bn fn fm ff hi hb hg
  obtain rfl : i = d.nk := by omega
  apply r16_0
  exact ⟨fun h => by have := of_decide_eq_true h; omega, fun _ => tw_loop2 d hd a ca 3 0 bn fn fm ff (by omega) hb hg⟩
 | succ m ih =>
  intro i bn fn fm ff hi hb hg
  have h1 := hd.1
  apply r16_0
  rw [wrapSucc (n := i) (by omega)]
  simp only [Int.toNat_natCast]
  refine ⟨fun _ => ⟨⟨by omega, by omega⟩, (d.ml i, d.ml i + 3, twF (d.ml i) (d.nx i)), twinInts_ok (d.ml i) (d.nx i) (hd.2.2 i (by omega)), ⟨hb, by omega, by omega⟩, ?_⟩, fun h => by have := of_decide_eq_false h; omega⟩
  refine ih (i + 1) (i + 1) _ _ _ (by omega) (by omega) fun j hj => ?_
  by_cases he : j < i
  ·obtain ⟨g1, g2, g3⟩ := hg j he
   refine ⟨by rw [row_bltI' he, g1], by rw [row_bltI' he, g2], ?_⟩
   funext c
   dsimp only
   rw [row_bltI' (f := fun j => ff j c) he, ← g3]
  ·obtain rfl : j = i := by omega
   refine ⟨by rw [row_endI' he]; unfold tnF; rw [if_pos (by omega)], by rw [row_endI' he]; unfold tmF; rw [if_pos (by omega)], ?_⟩
   funext c
   dsimp only
   rw [row_endI' (f := fun j => ff j c) he]
   unfold tfF
   rw [if_pos (by omega)]
theorem twinDfa_ok (d : Dfa) (hd : smallD d) : Ok Proofs.Try.prog 16 [dfaA d] [] (twD false d) [] := by
 refine o16 _ _ _ _ _ _ _ _ ⟨trivial, fun _ _ => trivial, ⟨rfl, fun _ _ => ⟨rfl, fun _ _ => trivial⟩⟩, ⟨rfl, fun _ _ => trivial⟩, trivial⟩ ?_
 apply r16_e
 exact tw_loop1 d hd 0 (fun _ => 0) d.nk 0 0 _ _ _ (by omega) (by omega) (fun j hj => by omega)
theorem twD_sub (d : Dfa) : Sub (twD true d) (dfaA d) := by
 refine Sub.of_R (RSub.cons (RSub.refl _) (RSub.cons (RSub.refl _) (RSub.cons (RSub.vec id (Nat.le_refl _) (by omega) fun i hi => ?_) (RSub.cons (RSub.vec id (Nat.le_refl _) (by omega) fun j hj => RSub.of_eq ?_) (RSub.refl _))))) rfl trivial trivial
 ·unfold tnF tmF tfF
  rw [if_pos hi, if_pos hi, if_pos hi]
  exact RSub.vec id (Nat.le_refl _) (by omega) fun j hj => RSub.of_eq (by rw [twF_lt hj])
 ·rw [twF_lt hj]
theorem sameDfa_loop (d : Dfa) (hn : d.nk ≤ 9223372036854775807) : ∀ m i, i + m = d.nk →
  L19_0 (i : Int) d.st (fun b => (d.cl b : Int)) d.nk d.ml d.nx d.rk d.ru d.st (fun b => (d.cl b : Int)) d.nk d.ml d.nx d.rk d.ru (.sc (.bool true)) := by
 intro m
 induction m with
 | zero =>
  intro i hi
  apply r19_0
  exact ⟨fun h => by have := of_decide_eq_true h; omega, fun _ => Sub.refl _⟩
 | succ m ih =>
  intro i hi
  apply r19_0
  rw [wrapSucc (by omega)]
  simp only [Int.toNat_natCast]
  exact ⟨fun _ => ⟨⟨by omega, by omega⟩, ⟨by omega, by omega⟩, true, sameInts_true _ _ _ (fun _ _ => rfl), fun h => (by cases h), fun _ => ih (i + 1) (by omega)⟩, fun h => by have := of_decide_eq_false h; omega⟩
theorem sameDfa_true (d : Dfa) : Ok Proofs.Try.prog 19 [dfaA d, dfaA d] [] (.sc (.bool true)) [] := by
 refine o19 _ _ _ _ _ _ _ _ _ _ _ _ _ _ _ trivial ?_
 apply a19_e
 intro hf
 have hn : d.nk ≤ 9223372036854775807 := (hf 0).2.2.1.1
 apply r19_e
 refine ⟨fun _ => ⟨fun _ _ => ⟨rfl, rfl⟩, fun _ => ⟨fun _ => ⟨true, sameInts_true _ _ _ (fun _ _ => rfl), fun h => (by cases h), fun _ => sameDfa_loop d hn d.nk 0 (by omega)⟩, fun h => ?_⟩, fun h => ?_⟩, fun h => ?_⟩
 ·exfalso; simp at h
 ·exfalso
  have h : cdec (∀ i, i < 256 → ((d.cl i : Nat) : Int) = ((d.cl i : Nat) : Int)) = false := by simpa using h
  exact cdec_false.1 h fun i hi => rfl
 ·exfalso; simp at h
theorem leftD_loop1 (d : Dfa) (hd : smallD d) : ∀ (m i : Nat), i + m = d.nk →
  L20_1 (i : Int) d.st (fun b => (d.cl b : Int)) d.nk (d.nk + 3) (tnF d) (tmF d) (tfF d) d.rk (d.rk + 3) (twF d.rk d.ru) d.st (fun b => (d.cl b : Int)) d.nk d.ml d.nx d.rk d.ru (.sc (.bool true)) := by
 have h1 := hd.1
 intro m
 induction m with
 | zero =>
  intro i hi
  apply r20_1
  exact ⟨fun h => by have := of_decide_eq_true h; omega, fun _ => Sub.refl _⟩
 | succ m ih =>
  intro i hi
  apply r20_1
  rw [wrapSucc (n := i) (by omega)]
  simp only [Int.toNat_natCast]
  have e1 : tnF d i = d.ml i := by unfold tnF; rw [if_pos (by omega)]
  have e2 : tmF d i = d.ml i + 3 := by unfold tmF; rw [if_pos (by omega)]
  have e3 : tfF d i = twF (d.ml i) (d.nx i) := by unfold tfF; rw [if_pos (by omega)]
  simp only [e1, e2, e3]
  exact ⟨fun _ => ⟨⟨by omega, by omega⟩, ⟨by omega, by omega⟩, true, leftInts_ok _ _ (hd.2.2 i (by omega)), fun h => (by cases h), fun _ => ih (i + 1) (by omega)⟩, fun h => by have := of_decide_eq_false h; omega⟩
theorem leftD_loop0 (d : Dfa) (hd : smallD d) : ∀ (m i : Nat), i + m = 3 →
  L20_0 (d.nk + 3) (d.nk + 3) (tnF d) (tmF d) (tfF d) (i : Int) d.st (fun b => (d.cl b : Int)) d.nk (d.nk + 3) (tnF d) (tmF d) (tfF d) d.rk (d.rk + 3) (twF d.rk d.ru) d.st (fun b => (d.cl b : Int)) d.nk d.ml d.nx d.rk d.ru (.sc (.bool true)) := by
 have h1 := hd.1
 intro m
 induction m with
 | zero =>
  intro i hi
  apply r20_0
  exact ⟨fun h => by have := of_decide_eq_true h; omega, fun _ => leftD_loop1 d hd d.nk 0 (by omega)⟩
 | succ m ih =>
  intro i hi
  apply r20_0
  rw [wrapSucc (n := i) (by omega)]
  simp only [wrap7 (show i < 3 by omega), wrapAdd (show d.nk + i ≤ 9223372036854775807 by omega), Int.toNat_natCast]
  have e1 : tnF d (d.nk + i) = 1 := by unfold tnF; rw [if_neg (by omega)]
  have e2 : tmF d (d.nk + i) = 1 := by unfold tmF; rw [if_neg (by omega)]
  have e3 : tfF d (d.nk + i) = fun _ => -7000 - (i : Int) := by
   unfold tfF; rw [if_neg (by omega)]; funext c; congr 1; omega
  simp only [e1, e2, e3]
  exact ⟨fun _ => ⟨⟨by omega, by omega⟩, true, sameInts_true 1 (fun _ => -7000 - (i : Int)) (fun _ => -7000 - (i : Int)) (fun _ _ => rfl), fun h => (by cases h), fun _ => ih (i + 1) (by omega)⟩, fun h => by have := of_decide_eq_false h; omega⟩
theorem leftDfa_ok (d : Dfa) (hd : smallD d) : Ok Proofs.Try.prog 20 [twD true d, dfaA d] [] (.sc (.bool true)) [] := by
 have h1 := hd.1
 refine o20 _ _ _ _ _ _ _ _ _ _ _ _ _ _ _ _ _ _ trivial ?_
 apply r20_e
 have ew : IntKind.i64.wrap ((d.nk : Int) + 3) = ((d.nk + 3 : Nat) : Int) := by rw [wrap_i64 (by omega) (by omega)]; rfl
 have e : (((d.nk + 3 : Nat) : Int) - 0).toNat = d.nk + 3 := by omega
 simp only [ew, e]
 refine ⟨true, Ok.args (ys := [dfaA d, dfaA d]) ⟨twD_sub d, Sub.refl _, trivial⟩ (sameDfa_true d), fun _ => ⟨by omega, true, leftInts_ok d.rk d.ru hd.2.1, fun h => (by cases h), fun _ => ⟨⟨by omega, by omega⟩, ?_⟩⟩, fun h => by cases h⟩
 exact leftD_loop0 d hd 3 0 (by omega)
end Go.Am.Seat
end

section
/-! MunchTells. -/
namespace Go.Am.Seat
open Go Go.Am
set_option linter.unusedVariables false

theorem bigL_false {ml : Nat → Nat} {most : Nat} : ∀ {m i k : Nat}, bigL ml most m i k = false → k ≤ most ∧ ∀ j, i ≤ j → j < i + m → ml j ≤ most
 | 0, i, k, h => by
  unfold bigL at h
  have := of_decide_eq_false h
  exact ⟨by omega, fun j h1 h2 => by omega⟩
 | m + 1, i, k, h => by
  unfold bigL at h
  split at h
  ·rename_i hk
   obtain ⟨h1, h2⟩ := bigL_false h
   refine ⟨hk, fun j h3 h4 => ?_⟩
   by_cases he : j = i
   ·subst he; omega
   ·exact h2 j (by omega) (by omega)
  ·have := of_decide_eq_false h
   omega
theorem big_small {d : Dfa} {most : Nat} (hm : most ≤ 1000000) (h : bigS d most = false) : smallD d := by
 unfold bigS at h
 obtain ⟨h1, h2⟩ := bigL_false h
 refine ⟨by omega, by omega, fun i hi => ?_⟩
 have := h2 i (by omega) (by omega)
 omega
end Go.Am.Seat
end

section
/-! Am, part Z6: what is handed back as own is fixed, for whoever asks for no more. -/
set_option linter.unusedVariables false
namespace Go.Am
open Go
theorem Ok.fixed {P : Program} {f : FuncId} {args : List AV} {res res' : AV} {out : List (Nat × Nat × AV)} {p : Prop} (h : Ok P f args [] res out)
  (hw : wk [] (St.of [(0, res)] out) [(0, res')] [] [] = some p) (hp : p) (hn : newOnly res') : Ok P f args [] res' [] := by
 refine ⟨h.fn, ⟨hn, fun q hq => by cases hq⟩, fun w E vals hce => Calls.mono (h.run w E vals hce) ?_⟩
 rintro e w' ⟨v, E', he, hx, hr⟩
 obtain ⟨E'', hx', hr'⟩ := wk_ok (kp := []) (hx.kp.trans hce.kp) hr hw hp
 exact ⟨v, E'', he, hx.trans hx', hr'⟩
end Go.Am
end

section
/-! MunchLess: the least automaton finds what the other one finds. -/
namespace Go.Am.Seat
open Go Go.Am
set_option linter.unusedVariables false
theorem _root_.Go.Am.isB.take {w : List Nat} (h : isB w) (n : Nat) : isB (w.take n) := fun x hx => h x (List.mem_of_mem_take hx)
theorem _root_.Go.Am.isB.drop {w : List Nat} (h : isB w) (n : Nat) : isB (w.drop n) := fun x hx => h x (List.mem_of_mem_drop hx)
section
variable {d x : Dfa} (hc : Canon x) (hal : Alike x 0 d d.st) {left : List Nat} (hl : isB left)
include hc
variable (hv : d.valid)
include hal hl
include hv in
end
end Go.Am.Seat
end

section
/-! MunchLess: the law. -/
namespace Go.Am.Seat
open Go Go.Am
set_option linter.unusedVariables false
theorem IsLeast.valid {d x : Dfa} (hv : d.valid) (h : IsLeast d x) : x.valid := by
 have hc := h.canon
 have hp := hc.pos
 have h0 := hc.cl 0 (by omega)
 have hml : x.ml 0 ≤ 256 := by
  have hf : ∃ f : Nat → Nat, ∀ c, c < x.ml 0 → f c < 256 ∧ x.cl (f c) = c := ⟨fun c => if hc' : c < x.ml 0 then Classical.choose (hc.cls c hc') else 0, fun c hc' => by
   simp only [dif_pos hc']
   have := Classical.choose_spec (hc.cls c hc')
   exact ⟨this.1, this.2.1⟩⟩
  obtain ⟨f, hf⟩ := hf
  exact pigeon 256 (x.ml 0) f (fun c h => (hf c h).1) fun a b ha hb he => by
   have h1 := (hf a ha).2
   rw [he, (hf b hb).2] at h1; exact h1.symm
 have hk := hv.1
 have hle := h.le
 refine ⟨by omega, hc.rk, hp, by rw [hc.st]; omega, by rw [hc.st]; omega, by omega, hml, hc.cl, fun i hi => ⟨hc.ml i hi, fun c hcm => (hc.nx i c hi hcm).2, h.ru i hi⟩⟩
abbrev zeroD : Dfa := ⟨0, fun _ => 0, 0, fun _ => 0, fun _ _ => 0, 0, fun _ => 0⟩
abbrev leastF (x : Dfa) (e : Int) : AV := (.cons 1 (dfaF x) (.cons 1 (.sc (.int .i64 e)) .nil) : AV).tup
theorem leastF_new (x : Dfa) (e : Int) : newOnly (leastF x e) :=
 ⟨⟨trivial, fun _ _ => trivial, ⟨rfl, fun _ _ => ⟨rfl, fun _ _ => trivial⟩⟩, ⟨rfl, fun _ _ => trivial⟩, trivial⟩, trivial, trivial⟩
theorem least_fix {P : Program} {f : FuncId} {args : List AV} {x : Dfa} {e : Int} (h : Ok P f args [] (leastV x e) (leastO x)) : Ok P f args [] (leastF x e) [] := by
 refine Ok.fixed h rfl ?_ (leastF_new x e)
 refine ⟨⟨⟨⟨trivial, trivial, by omega, by omega, trivial⟩, trivial, trivial⟩, Sub.refl _, trivial⟩, trivial⟩
abbrev dfaR (d : Dfa) (e : Int) : Int × (Nat → Int) × Nat × (Nat → Nat) × (Nat → Nat → Int) × Nat × (Nat → Int) × Int := (d.st, (fun b => (d.cl b : Int)), d.nk, d.ml, d.nx, d.rk, d.ru, e)
end Go.Am.Seat
end

section
/-! Machine: the chapter's examples. -/
namespace Go.Am.Seat
open Go Go.Am
set_option linter.unusedVariables false
def kD : Dfa := { st := 0, cl := fun b => if b = 97 then 1 else 0, nk := 5, ml := fun _ => 2, nx := fun i c => (([[-1, 1], [-1, 2], [3, 1], [-1, 3], [-1, 0]] : List (List Int)).getD i []).getD c 0, rk := 5, ru := fun i => ([-1, 7, 7, -1, -1] : List Int).getD i 0 }
def cD : Dfa := { st := 0, cl := fun b => if b = 97 then 1 else 0, nk := 2, ml := fun _ => 2, nx := fun _ c => if c = 1 then 1 else -1, rk := 2, ru := fun i => if i = 1 then 7 else -1 }
abbrev kD4 : Dfa := { kD with st := 4 }
theorem kD_8 : ∀ b, kD.cl b < 256 := by
 intro b
 show (if b = 97 then 1 else 0 : Nat) < 256
 split <;> omega
theorem known8_ok : Ok Proofs.Try.prog 53 [] [] (dfaF kD) [] := by
 refine o53 _ ⟨trivial, fun _ _ => trivial, ⟨rfl, fun _ _ => ⟨rfl, fun _ _ => trivial⟩⟩, ⟨rfl, fun _ _ => trivial⟩, trivial⟩ ?_
 apply r53_e
 refine ⟨⟨by omega, by omega⟩, by decide, ?_⟩
 have hrow : ∀ i, i < 5 → ∀ f : Nat → Int, f 0 = kD.nx i 0 → f 1 = kD.nx i 1 → RSub (.vec false 1 2 2 (fun c => .sc (.int .i64 (f c)))) (.vec false 1 2 2 (fun c => .sc (.int .i64 (kD.nx i c)))) := by
  intro i hi f h0 h1
  refine RSub.vec id (Nat.le_refl _) (Nat.le_refl _) fun c hc => RSub.of_eq ?_
  rcases (show c = 0 ∨ c = 1 by omega) with rfl | rfl
  ·rw [h0]
  ·rw [h1]
 refine Sub.of_R (RSub.cons (RSub.of_eq rfl) (RSub.cons (RSub.ar fun i hi => RSub.of_eq ?_) (RSub.cons (RSub.vec id (Nat.le_refl _) (Nat.le_refl _) fun i hi => ?_) (RSub.cons (RSub.vec id (Nat.le_refl _) (Nat.le_refl _) fun i hi => RSub.of_eq ?_) (RSub.refl _))))) rfl trivial trivial
 ·show AV.sc (.int .u8 _) = .sc (.int .u8 ((if i = 97 then 1 else 0 : Nat) : Int))
  congr 2
  by_cases h' : i = 97
  ·subst h'; rfl
  ·rw [if_neg h']
   have e2 : Nat.beq i 97 = false := beqF h'
   rw [e2]; rfl
 ·have hi : i < 5 := hi
  rcases (show i = 0 ∨ i = 1 ∨ i = 2 ∨ i = 3 ∨ i = 4 by omega) with rfl | rfl | rfl | rfl | rfl
  ·exact hrow 0 (by omega) _ rfl rfl
  ·exact hrow 1 (by omega) _ rfl rfl
  ·exact hrow 2 (by omega) _ rfl rfl
  ·exact hrow 3 (by omega) _ rfl rfl
  ·exact hrow 4 (by omega) _ rfl rfl
 ·have hi : i < 5 := hi
  rcases (show i = 0 ∨ i = 1 ∨ i = 2 ∨ i = 3 ∨ i = 4 by omega) with rfl | rfl | rfl | rfl | rfl <;> rfl
theorem kD_valid : kD.valid := by
 refine ⟨by decide, rfl, by decide, by decide, by decide, by decide, by decide, fun b _ => ?_, fun i hi => ?_⟩
 ·show (if b = 97 then 1 else 0 : Nat) < 2
  split <;> omega
 ·have hi : i < 5 := hi
  rcases (show i = 0 ∨ i = 1 ∨ i = 2 ∨ i = 3 ∨ i = 4 by omega) with rfl | rfl | rfl | rfl | rfl
  all_goals
   refine ⟨rfl, fun c hc => ?_, by decide⟩
   have hc : c < 2 := hc
   rcases (show c = 0 ∨ c = 1 by omega) with rfl | rfl <;> decide
theorem kD4_valid : kD4.valid := by
 have h := kD_valid
 exact ⟨h.1, h.2.1, h.2.2.1, by decide, by decide, h.2.2.2.2.2⟩
theorem goS_cD (s : Nat) (b : Nat) : goS cD s b = if b = 97 then 1 else -1 := by
 unfold goS
 rw [if_neg (by omega)]
 by_cases h : b = 97
 ·subst h; rfl
 ·have e : cD.cl b = 0 := if_neg h
  rw [if_neg h, e]; rfl
theorem goS_kD (s : Nat) (b : Nat) : goS kD s b = if b = 97 then (if kD.nx s 1 < 0 then -1 else kD.nx s 1) else (if kD.nx s 0 < 0 then -1 else kD.nx s 0) := by
 unfold goS
 rw [if_neg (by omega), Int.toNat_natCast]
 by_cases h : b = 97
 ·have e : kD.cl b = 1 := if_pos h
  rw [if_pos h, e]
 ·have e : kD.cl b = 0 := if_neg h
  rw [if_neg h, e]
theorem cD_canon : Canon cD where
 st := rfl
 pos := by decide
 rk := rfl
 ml := fun _ _ => rfl
 ru := fun i _ => by show -1 ≤ (if i = 1 then 7 else -1 : Int); split <;> omega
 nx := fun i c _ _ => by show -1 ≤ (if c = 1 then 1 else -1 : Int) ∧ (if c = 1 then 1 else -1 : Int) < 2; split <;> omega
 cl := fun b _ => by show (if b = 97 then 1 else 0 : Nat) < 2; split <;> omega
 live := fun i b _ _ h => by
  rw [goS_cD] at h ⊢
  split at h
  ·rename_i h'; rw [if_pos h']; exact ⟨[], isB.nil, by decide⟩
  ·omega
 red := fun i j hi hj h => by
  have hi : i < 2 := hi
  have hj : j < 2 := hj
  have h1 : ruleAt cD i = ruleAt cD j := h [] isB.nil
  rcases (show i = 0 ∨ i = 1 by omega) with rfl | rfl <;> rcases (show j = 0 ∨ j = 1 by omega) with rfl | rfl
  ·rfl
  ·revert h1; decide
  ·revert h1; decide
  ·rfl
 bfs := fun m h0 hm => by
  have hm : m < 2 := hm
  obtain rfl : m = 1 := by omega
  refine ⟨0, 97, by omega, by omega, rfl, fun n' b' hb' hB => ?_⟩
  unfold Before at hB
  rw [goS_cD, if_neg (by omega)]
  decide
 col := fun b b' _ _ h => by
  have h := h 0 (by decide)
  rw [goS_cD, goS_cD] at h
  show (if b = 97 then 1 else 0 : Nat) = if b' = 97 then 1 else 0
  by_cases h1 : b = 97 <;> by_cases h2 : b' = 97
  ·rw [if_pos h1, if_pos h2]
  ·rw [if_pos h1, if_neg h2] at h; omega
  ·rw [if_neg h1, if_pos h2] at h; omega
  ·rw [if_neg h1, if_neg h2]
 cls := fun c hc => by
  have hc : c < 2 := hc
  rcases (show c = 0 ∨ c = 1 by omega) with rfl | rfl
  ·exact ⟨0, by omega, rfl, fun b' hb' => by omega⟩
  ·refine ⟨97, by omega, rfl, fun b' hb' => ?_⟩
   show (if b' = 97 then 1 else 0 : Nat) < 1
   rw [if_neg (by omega)]; omega
theorem cD_alike : Alike cD 0 kD 0 := by
 have key : ∀ (w : List Nat) (s t : Int), ((s = 0 ∧ t = 0) ∨ (s = 1 ∧ (t = 1 ∨ t = 2)) ∨ (s = -1 ∧ (t = -1 ∨ t = 3))) → tellsF cD s w = tellsF kD t w := by
  intro w
  induction w with
  | nil =>
   intro s t h
   rcases h with ⟨rfl, rfl⟩ | ⟨rfl, rfl | rfl⟩ | ⟨rfl, rfl | rfl⟩ <;> decide
  | cons b w ih =>
   intro s t h
   rw [tellsF_cons, tellsF_cons]
   refine ih _ _ ?_
   have c0 := goS_cD 0 b
   have c1 := goS_cD 1 b
   have cn : goS cD (-1) b = -1 := goS_neg (by omega) b
   have kn : goS kD (-1) b = -1 := goS_neg (by omega) b
   have k0 : goS kD 0 b = if b = 97 then 1 else -1 := goS_kD 0 b
   have k1 : goS kD 1 b = if b = 97 then 2 else -1 := goS_kD 1 b
   have k2 : goS kD 2 b = if b = 97 then 1 else 3 := goS_kD 2 b
   have k3 : goS kD 3 b = if b = 97 then 3 else -1 := goS_kD 3 b
   have c0 : goS cD 0 b = if b = 97 then 1 else -1 := c0
   have c1 : goS cD 1 b = if b = 97 then 1 else -1 := c1
   by_cases hb : b = 97
   ·simp only [if_pos hb] at c0 c1 k0 k1 k2 k3
    rcases h with ⟨rfl, rfl⟩ | ⟨rfl, rfl | rfl⟩ | ⟨rfl, rfl | rfl⟩ <;> omega
   ·simp only [if_neg hb] at c0 c1 k0 k1 k2 k3
    rcases h with ⟨rfl, rfl⟩ | ⟨rfl, rfl | rfl⟩ | ⟨rfl, rfl | rfl⟩ <;> omega
 exact fun w _ => key w 0 0 (.inl ⟨rfl, rfl⟩)
theorem kD4_apart : ¬ Alike kD kD.st kD4 kD4.st := by
 intro h
 have h1 := h [97] (isB.cons (by omega) isB.nil)
 revert h1
 decide
theorem sameR_ok {d e : Dfa} (hd : d.valid) (he : e.valid) : sameR d e = (sameB d e, 0) := by
 unfold sameR
 rw [if_neg (by rw [err_ok hd]; simp), if_neg (by rw [err_ok he]; simp)]
theorem zeroD_err : zeroD.err = 2 := by
 unfold Dfa.err
 rw [if_neg (by simp), if_neg fun h => by have := h.2.2.1; simp at this]
theorem alive8_ok : Ok Proofs.Try.prog 23 [] [] (.sc (.bool true)) [] := by
 refine o23 _ trivial ?_
 apply r23_e
 have k := known8_ok
 obtain ⟨x, hx, hO⟩ := least_ok kD kD_8 kD_valid
 have hxv := hx.valid kD_valid
 have heq := Canon.uniq hx.canon cD_canon (hx.alike.trans cD_alike.symm)
 have hnk : x.nk = 2 := heq.nk
 have hrk : x.rk = 2 := heq.rk
 have hml : x.ml 1 = 2 := heq.ml 1 (by omega)
 have hs1 := same_all kD x kD_8 hx.cl8
 have hs2 := same_all kD kD4 kD_8 kD_8
 have e1 : sameR kD x = (true, 0) := by
  rw [sameR_ok kD_valid hxv, sameB_true (by rw [hx.canon.st]; exact hx.alike.symm)]
 have e2 : sameR kD kD4 = (false, 0) := by
  rw [sameR_ok kD_valid kD4_valid, sameB_false kD4_apart]
 rw [e1] at hs1
 rw [e2] at hs2
 let R : Int × (Nat → Int) × Nat × (Nat → Nat) × (Nat → Nat → Int) × Nat × (Nat → Int) := (kD.st, (fun b => (kD.cl b : Int)), kD.nk, kD.ml, kD.nx, kD.rk, kD.ru)
 have hz : Ok Proofs.Try.prog 17 [.cons 1 (.sc (.int .i64 0)) (.cons 256 (.ar 256 1 fun i => .sc (.int .u8 0)) (.cons 1 (.sc (.slice none 0 0)) (.cons 1 (.sc (.slice none 0 0)) .nil)))] [] (leastF zeroD zeroD.err) [] := by
  refine Ok.args (ys := [dfaA zeroD]) ⟨Sub.of_R (RSub.cons (RSub.refl _) (RSub.cons (RSub.refl _) (RSub.cons RSub.nilvec (RSub.cons RSub.nilvec (RSub.refl _))))) rfl trivial trivial, trivial⟩ (least_fix (least_err zeroD (fun _ => (by decide : 0 < 256)) fun h => by have := h.2.2.1; simp at this))
 refine ⟨R, k, dfaR x 0, least_fix hO, R, k, R, k, (true, 0), hs1, R, k, (false, 0), hs2, dfaR zeroD zeroD.err, hz, fun _ => ⟨fun _ => ⟨true, ?_, fun _ => ⟨?_, true, ?_, fun _ => ⟨fun _ => ⟨fun _ => ⟨fun _ => ⟨fun _ => ?_, fun h => ?_⟩, fun h => ?_⟩, fun h => ?_⟩, fun h => ?_⟩, fun h => ?_⟩, fun h => ?_⟩, fun h => ?_⟩, fun h => ?_⟩
 ·show Ok Proofs.Try.prog 51 [rowA x.rk x.ru, rowA 2 _] [] _ []
  rw [hrk]
  refine sameInts_true 2 _ _ fun i hi => ?_
  rw [heq.ru i (by rw [hrk]; exact hi)]
  rcases (show i = 0 ∨ i = 1 by omega) with rfl | rfl <;> rfl
 ·show (0 : Int) ≤ 1 ∧ 1 < (x.nk : Int)
  omega
 ·show Ok Proofs.Try.prog 51 [rowA (x.ml 1) (x.nx 1), rowA 2 _] [] _ []
  rw [hml]
  refine sameInts_true 2 _ _ fun i hi => ?_
  rw [heq.nx 1 i (by omega) (by rw [hml]; exact hi)]
  rcases (show i = 0 ∨ i = 1 by omega) with rfl | rfl <;> rfl
 ·show Sub (AV.sc (Value.bool (zeroD.err == 2))) _
  rw [zeroD_err]; exact Sub.refl _
 ·exact absurd h (by decide)
 ·exact absurd h (by decide)
 ·exact absurd h (by decide)
 ·exact absurd h (by decide)
 ·exact absurd h (by decide)
 ·exact absurd h (by decide)
 ·have h : ((x.nk : Int) == 2) = !true := h
  rw [hnk] at h
  exact absurd h (by decide)
 ·have h : ((0 : Int) == 0) = !true := h
  exact absurd h (by decide)
end Go.Am.Seat
end

section
/-! Machine: what is told of a text. -/
namespace Go.Am.Seat
open Go Go.Am
set_option linter.unusedVariables false
end Go.Am.Seat
end

section
/-! MiniTells: the law. -/
namespace Go.Am.Seat
open Go Go.Am
set_option linter.unusedVariables false
theorem live8 : ∃ r, Ok Proofs.Try.prog 23 [] [] (.sc (.bool r)) [] ∧ Sub (.sc (.bool r)) (.sc (.bool true)) := ⟨true, alive8_ok, Sub.refl _⟩
end Go.Am.Seat
end

section
/-! MiniOnce: the law. -/
namespace Go.Am.Seat
open Go Go.Am
set_option linter.unusedVariables false
theorem EqDfa.rsub {x y : Dfa} (h : EqDfa x y) : RSub (dfaA y) (dfaA x) := by
 have e1 := h.st
 have e2 := h.nk
 have e3 := h.rk
 unfold dfaA
 rw [← e1, ← e2, ← e3]
 refine RSub.cons (RSub.refl _) (RSub.cons (RSub.ar fun i hi => RSub.of_eq ?_) (RSub.cons (RSub.vec id (Nat.le_refl _) (Nat.le_refl _) fun i hi => ?_) (RSub.cons (RSub.vec id (Nat.le_refl _) (Nat.le_refl _) fun i hi => RSub.of_eq ?_) (RSub.refl _))))
 ·show AV.sc (.int .u8 (y.cl i : Int)) = .sc (.int .u8 (x.cl i : Int))
  rw [h.cl i hi]
 ·have e4 := h.ml i hi
  show RSub (rowA (y.ml i) (y.nx i)) (rowA (x.ml i) (x.nx i))
  rw [← e4]
  refine RSub.vec id (Nat.le_refl _) (Nat.le_refl _) fun c hc => RSub.of_eq ?_
  show AV.sc (.int .i64 (y.nx i c)) = .sc (.int .i64 (x.nx i c))
  rw [h.nx i c hi hc]
 ·show AV.sc (.int .i64 (y.ru i)) = .sc (.int .i64 (x.ru i))
  rw [h.ru i hi]
theorem sameDfa_eq {x y : Dfa} (h : EqDfa x y) : Ok Proofs.Try.prog 19 [dfaA x, dfaA y] [] (.sc (.bool true)) [] :=
 Ok.args (ys := [dfaA x, dfaA x]) ⟨Sub.refl _, Sub.of_R (EqDfa.rsub h) rfl trivial trivial, trivial⟩ (sameDfa_true x)
theorem IsLeast.eq {d e x y : Dfa} (hx : IsLeast d x) (hy : IsLeast e y) (h : Alike d d.st e e.st) : EqDfa x y :=
 Canon.uniq hx.canon hy.canon (hx.alike.trans (h.trans hy.alike.symm))
theorem notT {p : Prop} {b : Bool} (hb : b = true) (h : b = !true) : p := by rw [hb] at h; exact absurd h (by decide)
end Go.Am.Seat
end

section
/-! MiniApart: the law. -/
namespace Go.Am.Seat
open Go Go.Am
set_option linter.unusedVariables false
theorem beqId1 {α : Type} (i j : Nat) (f : Nat → α) : (bif i.beq j then f j else f i) = f i := by
 rw [bif_beq]; split
 ·rename_i h; rw [h]
 ·rfl
theorem beqId2 {α : Type} (i j t : Nat) (f : Nat → Nat → α) : (bif i.beq j then f j t else f i t) = f i t := by
 rw [bif_beq]; split
 ·rename_i h; rw [h]
 ·rfl
def RuleInv (x : Dfa) (A : Nat → Nat → Bool) : Prop := ∀ a b, a < x.nk → b < x.nk → A a b = false → x.ru a = x.ru b
section
variable {x : Dfa} (hv : x.valid)
include hv
variable (hx : ∀ i j : Nat, i < x.nk → j < x.nk → Alike x i x j → i = j) {fn : Nat → Nat} (hfn : ∀ i, i < x.nk → fn i = x.nk)
include hx hfn
end
structure PassI (x : Dfa) (A0 A : Nat → Nat → Bool) (more : Bool) (cl : Prop) : Prop where
 no : more = false → A = A0 ∧ cl
 yes : more = true → offP A x.nk x.nk < offP A0 x.nk x.nk
 inv : RuleInv x A
theorem mark_eq (A : Nat → Nat → Bool) (a b : Nat) : (fun i j : Nat => bif i.beq a then bif j.beq b then true else A a j else A i j) = fun i j => if i = a ∧ j = b then true else A i j := by
 funext i j
 rw [bif_beq, bif_beq]
 by_cases h1 : i = a
 ·subst h1
  by_cases h2 : j = b
  ·simp [h2]
  ·simp [h2]
 ·simp [h1]
theorem PassI.mark {x : Dfa} {A0 A : Nat → Nat → Bool} {more : Bool} {cl : Prop} (h : PassI x A0 A more cl) {a b : Nat} (ha : a < x.nk) (hb : b < x.nk) (hm : A a b = false) (cl' : Prop) :
  PassI x A0 (fun i j => if i = a ∧ j = b then true else A i j) true cl' := by
 have h1 := offP_mark (met := A) (m := x.nk) hb hm ha
 refine ⟨fun h => (by cases h), fun _ => ?_, fun i j hi hj hij => ?_⟩
 ·cases hq : more with
  | true =>
   have := h.yes hq
   omega
  | false =>
   obtain ⟨rfl, _⟩ := h.no hq
   omega
 ·have hij : (if i = a ∧ j = b then true else A i j) = false := hij
  split at hij
  ·cases hij
  ·exact h.inv i j hi hj hij
theorem PassI.mono {x : Dfa} {A0 A : Nat → Nat → Bool} {more : Bool} {cl cl' : Prop} (h : PassI x A0 A more cl) (hc : more = false → A = A0 → cl → cl') : PassI x A0 A more cl' :=
 ⟨fun hm => ⟨(h.no hm).1, hc hm (h.no hm).1 (h.no hm).2⟩, h.yes, h.inv⟩
section
variable {x : Dfa} (hv : x.valid) (hx : ∀ i j : Nat, i < x.nk → j < x.nk → Alike x i x j → i = j) {fn : Nat → Nat} (hfn : ∀ i, i < x.nk → fn i = x.nk)
include hv hx hfn
end
end Go.Am.Seat
end

section
/-! Machine: the document's answer of chapter 8: which classes are used, where each byte leads, who is alive. -/
namespace Go.Am.Seat
open Go Go.Am
set_option linter.unusedVariables false
abbrev boolF (n : Nat) (f : Nat → Bool) : AV := .vec false 1 n n (fun i => .sc (.bool (f i)))
abbrev boolA (n : Nat) (f : Nat → Bool) : AV := .vec true 1 n n (fun i => .sc (.bool (f i)))
def UsedB (d : Dfa) (u : Nat → Bool) : Prop := ∀ c, u c = true ↔ ∃ b, b < 256 ∧ d.cl b = c
section
variable (d : Dfa) (hv : d.valid)
include hv
theorem used_loop : ∀ (m b : Nat) (u : Nat → Bool), b + m = 256 → (∀ c, u c = true ↔ ∃ b', b' < b ∧ d.cl b' = c) →
  ∃ u', UsedB d u' ∧ L79_0 (d.ml 0) (b : Int) d.st (fun b => (d.cl b : Int)) d.nk d.ml d.nx d.rk d.ru (d.ml 0) u (boolF (d.ml 0) u') := by
 intro m
 induction m with
 | zero =>
  intro b u hb hu
  obtain rfl : b = 256 := by omega
  refine ⟨u, hu, ?_⟩
  apply r79_0
  exact ⟨fun h => by have := of_decide_eq_true h; omega, fun _ => ⟨⟨by omega, Sub.refl _⟩, Sub.refl _⟩⟩
 | succ m ih =>
  intro b u hb hu
  have hcl := hv.2.2.2.2.2.2.2.1 b (by omega)
  obtain ⟨u', h1, h2⟩ := ih (b + 1) (fun i => bif i.beq (d.cl b) then true else u i) (by omega) (fun c => by
   show (bif c.beq (d.cl b) then true else u c) = true ↔ _
   rw [bif_beq]
   split
   ·rename_i he
    exact ⟨fun _ => ⟨b, by omega, he.symm⟩, fun _ => rfl⟩
   ·rename_i he
    rw [hu c]
    constructor
    ·rintro ⟨b', h1, h2⟩; exact ⟨b', by omega, h2⟩
    ·rintro ⟨b', h1, h2⟩
     by_cases hbb : b' = b
     ·subst hbb; exact absurd h2.symm he
     ·exact ⟨b', by omega, h2⟩)
  refine ⟨u', h1, ?_⟩
  apply r79_0
  simp only [Int.toNat_natCast]
  rw [wrapSucc (by omega)]
  exact ⟨fun _ => ⟨⟨by omega, by omega⟩, by omega, ⟨by omega, by omega⟩, hcl, h2⟩, fun h => by have := of_decide_eq_false h; omega⟩
theorem used_ok : ∃ u, UsedB d u ∧ Ok Proofs.Try.prog 79 [dfaA d] [] (boolF (d.ml 0) u) [] := by
 obtain ⟨u, h1, h2⟩ := used_loop d hv 256 0 (fun _ => false) rfl (fun c => ⟨fun h => (by cases h), fun ⟨b, h, _⟩ => by omega⟩)
 have hml := hv.2.2.2.2.2.2.1
 have hpos := hv.2.2.1
 refine ⟨u, h1, o79 _ _ _ _ _ _ _ _ ⟨rfl, fun _ _ => trivial⟩ (r79_e _ _ _ _ _ _ _ _ ?_)⟩
 simp only [Int.toNat_natCast]
 exact ⟨⟨by omega, by omega⟩, ⟨by omega, by omega, by omega, by omega⟩, h2⟩
abbrev rowsF (n : Nat) (G : Nat → Nat → Int) : AV := .vec false 256 n n (fun i => .ar 256 1 (fun j => .sc (.int .i64 (G i j))))
theorem rows_loop (h8 : ∀ b, d.cl b < 256) : ∀ (m s : Nat) (G : Nat → Nat → Int), s + m = d.nk → (∀ i b, i < s → b < 256 → G i b = goS d i b) →
  ∃ G', (∀ i b, i < d.nk → b < 256 → G' i b = goS d i b) ∧ L48_0 s (s : Int) d.st (fun b => (d.cl b : Int)) d.nk d.ml d.nx d.rk d.ru s G (rowsF d.nk G') := by
 have hk := hv.1
 intro m
 induction m with
 | zero =>
  intro s G hs hG
  obtain rfl : s = d.nk := by omega
  refine ⟨G, hG, ?_⟩
  apply r48_0
  exact ⟨fun h => by have := of_decide_eq_true h; omega, fun _ => ⟨⟨by omega, Sub.refl _⟩, Sub.refl _⟩⟩
 | succ m ih =>
  intro s G hs hG
  have row : ∀ (q b : Nat) (f : Nat → Int), b + q = 256 → (∀ j, j < b → f j = goS d s j) →
    ∃ G', (∀ i b, i < d.nk → b < 256 → G' i b = goS d i b) ∧ L48_1 s (s : Int) (b : Int) d.st (fun b => (d.cl b : Int)) d.nk d.ml d.nx d.rk d.ru f s G (rowsF d.nk G') := by
   intro q
   induction q with
   | zero =>
    intro b f hb hf
    obtain rfl : b = 256 := by omega
    obtain ⟨G', h1, h2⟩ := ih (s + 1) (fun i i_1 => bif i.blt s then G i i_1 else f i_1) (by omega) (fun i b hi hb => by
     show (bif i.blt s then G i b else f b) = _
     rw [bif_blt]
     split
     ·rename_i h; exact hG i b h hb
     ·rw [show i = s by omega]; exact hf b hb)
    refine ⟨G', h1, ?_⟩
    apply r48_1
    rw [wrapSucc (n := s) (by omega)]
    exact ⟨fun h => by have := of_decide_eq_true h; omega, fun _ => ⟨⟨Nat.le_refl _, by omega, by unfold maxLen; omega⟩, h2⟩⟩
   | succ q ihq =>
    intro b f hb hf
    obtain ⟨G', h1, h2⟩ := ihq (b + 1) (fun i => bif i.beq b then goS d s b else f i) (by omega) (fun j hj => by
     show (bif j.beq b then goS d s b else f j) = _
     rw [bif_beq]
     split
     ·rename_i h; rw [h]
     ·exact hf j (by omega))
    refine ⟨G', h1, ?_⟩
    apply r48_1
    rw [wrapSucc (n := b) (by omega), wrap_u8 (by omega) (by omega)]
    simp only [Int.toNat_natCast]
    exact ⟨fun _ => ⟨goS d s b, go_ok d hv s (by omega) b (by omega), ⟨by omega, by omega⟩, by omega, h2⟩, fun h => by have := of_decide_eq_false h; omega⟩
  obtain ⟨G', h1, h2⟩ := row 256 0 (fun _ => 0) rfl fun j hj => by omega
  refine ⟨G', h1, ?_⟩
  apply r48_0
  exact ⟨fun _ => h2, fun h => by have := of_decide_eq_false h; omega⟩
theorem rows_ok (h8 : ∀ b, d.cl b < 256) : ∃ G, (∀ i b, i < d.nk → b < 256 → G i b = goS d i b) ∧ Ok Proofs.Try.prog 48 [dfaA d] [] (rowsF d.nk G) [] := by
 obtain ⟨G, h1, h2⟩ := rows_loop d hv h8 d.nk 0 (fun _ _ => Int.ofNat 0) (by omega) fun i b hi => by omega
 exact ⟨G, h1, o48 _ _ _ _ _ _ _ _ ⟨rfl, fun _ _ => fun _ _ => trivial⟩ (r48_e _ _ _ _ _ _ _ _ h2)⟩
end
end Go.Am.Seat
end

section
/-! Machine: the document's answer of chapter 8: who is alive. -/
namespace Go.Am.Seat
open Go Go.Am
set_option linter.unusedVariables false
def LiveSnd (d : Dfa) (f : Nat → Bool) : Prop := ∀ s, s < d.nk → f s = true → Live d s
def LiveCl (d : Dfa) (u f : Nat → Bool) (s : Nat) : Prop := f s = false → d.ru s < 0 ∧ ∀ c, c < d.ml 0 → ∀ t : Nat, d.nx s c = t → f t = true → u c = false
structure LivePass (d : Dfa) (f0 f : Nat → Bool) (more : Bool) (cl : Prop) : Prop where
 no : more = false → f = f0 ∧ cl
 yes : more = true → offN f d.nk < offN f0 d.nk
 snd : LiveSnd d f
theorem LivePass.mono {d : Dfa} {f0 f : Nat → Bool} {more : Bool} {cl cl' : Prop} (h : LivePass d f0 f more cl) (hc : more = false → f = f0 → cl → cl') : LivePass d f0 f more cl' :=
 ⟨fun hm => ⟨(h.no hm).1, hc hm (h.no hm).1 (h.no hm).2⟩, h.yes, h.snd⟩
theorem upd_same {f : Nat → Bool} {s : Nat} {b : Bool} (h : b = f s) : (fun i : Nat => bif i.beq s then b else f i) = f := by
 funext i
 rw [bif_beq]
 split
 ·rename_i he; rw [he, h]
 ·rfl
theorem upd_mark {f : Nat → Bool} {s : Nat} : (fun i : Nat => bif i.beq s then true else f i) = fun i => if i = s then true else f i := by
 funext i
 rw [bif_beq]
theorem LivePass.mark {d : Dfa} {f0 f : Nat → Bool} {more : Bool} {cl : Prop} (h : LivePass d f0 f more cl) {s : Nat} (hs : s < d.nk) (hf : f s = false) (hl : Live d s) (cl' : Prop) : LivePass d f0 (fun i => if i = s then true else f i) true cl' := by
 have h1 := offN_mark (n := d.nk) hs hf
 refine ⟨fun h => (by cases h), fun _ => ?_, fun i hi hfi => ?_⟩
 ·cases hq : more with
  | true => have := h.yes hq; omega
  | false => obtain ⟨rfl, _⟩ := h.no hq; omega
 ·have hfi : (if i = s then true else f i) = true := hfi
  split at hfi
  ·rename_i he; rw [he]; exact hl
  ·exact h.snd i hi hfi
section
variable {d : Dfa} (hv : d.valid) {u : Nat → Bool} (hu : UsedB d u)
include hv hu
theorem live_done {f : Nat → Bool} (hs : LiveSnd d f) (hc : ∀ s, s < d.nk → LiveCl d u f s) : ∀ s, s < d.nk → (f s = true ↔ Live d s) := by
 intro s hsk
 refine ⟨hs s hsk, fun ⟨w, hw, h0⟩ => ?_⟩
 have key : ∀ (w : List Nat) (s : Nat), s < d.nk → isB w → 0 ≤ tellsF d s w → f s = true := by
  intro w
  induction w with
  | nil =>
   intro s hsk _ h0
   have h0 : 0 ≤ ruleAt d s := h0
   cases hq : f s with
   | true => rfl
   | false =>
    have := (hc s hsk hq).1
    unfold ruleAt at h0
    rw [Int.toNat_natCast, if_pos (.inr this)] at h0
    omega
  | cons b w ih =>
   intro s hsk hw h0
   rw [tellsF_cons] at h0
   have hb := hw.head
   have hcl := hv.2.2.2.2.2.2.2.1 b hb
   have hlt := goS_lt hv (s := (s : Int)) (by omega) hb
   by_cases hneg : goS d s b < 0
   ·rw [tellsF_neg hneg] at h0; omega
   ·obtain ⟨t, ht⟩ : ∃ t : Nat, goS d s b = t := ⟨(goS d s b).toNat, by omega⟩
    have h1 := ih t (by omega) hw.tail (by rw [← ht]; exact h0)
    cases hq : f s with
    | true => rfl
    | false =>
     have hnx : d.nx s (d.cl b) = t := by
      unfold goS at ht
      rw [if_neg (by omega), Int.toNat_natCast] at ht
      split at ht <;> omega
     have := (hc s hsk hq).2 _ hcl t hnx h1
     rw [(hu (d.cl b)).2 ⟨b, hb, rfl⟩] at this
     cases this
 exact key w s hsk hw h0
theorem live_pass : ∀ (M : Nat) (f0 : Nat → Bool), offN f0 d.nk ≤ M → LiveSnd d f0 →
  ∃ lv : Nat → Bool, (∀ s, s < d.nk → (lv s = true ↔ Live d s)) ∧ L46_0 (d.ml 0) u d.nk true d.st (fun b => (d.cl b : Int)) d.nk d.ml d.nx d.rk d.ru d.nk f0 (boolF d.nk lv) := by
 have hk := hv.1
 have hrk := hv.2.1
 have hml := hv.2.2.2.2.2.2.1
 intro M
 induction M using Nat.strongRecOn with
 | ind M ihM =>
 intro f0 hM h0
 have rows : ∀ (m s : Nat) (f : Nat → Bool) (more : Bool), s + m = d.nk → LivePass d f0 f more (∀ s', s' < s → LiveCl d u f0 s') →
   ∃ lv : Nat → Bool, (∀ s, s < d.nk → (lv s = true ↔ Live d s)) ∧ L46_1 (d.ml 0) u d.nk more (s : Int) d.st (fun b => (d.cl b : Int)) d.nk d.ml d.nx d.rk d.ru d.nk f (boolF d.nk lv) := by
  intro m
  induction m with
  | zero =>
   intro s f more hs hP
   have hend : ∃ lv : Nat → Bool, (∀ s, s < d.nk → (lv s = true ↔ Live d s)) ∧ L46_0 (d.ml 0) u d.nk more d.st (fun b => (d.cl b : Int)) d.nk d.ml d.nx d.rk d.ru d.nk f (boolF d.nk lv) := by
    cases more with
    | true =>
     have := hP.yes rfl
     exact ihM (offN f d.nk) (by omega) f (Nat.le_refl _) hP.snd
    | false =>
     obtain ⟨rfl, hcl⟩ := hP.no rfl
     refine ⟨f, live_done hv hu h0 (fun s hs => hcl s (by omega)), ?_⟩
     apply r46_0
     exact ⟨fun h => (by cases h), fun _ => ⟨⟨by omega, Sub.refl _⟩, Sub.refl _⟩⟩
   obtain ⟨lv, h1, h2⟩ := hend
   refine ⟨lv, h1, ?_⟩
   apply r46_1
   exact ⟨fun h => by have := of_decide_eq_true h; omega, fun _ => h2⟩
  | succ m ih =>
   intro s f more hs hP
   have hsk : s < d.nk := by omega
   have h9 := hv.2.2.2.2.2.2.2.2 s hsk
   have cols : ∀ (q c : Nat) (is : Bool), c + q = d.ml 0 → (f s = true → is = true) → (is = true → Live d s) → (is = false → d.ru s < 0 ∧ ∀ c', c' < c → ∀ t : Nat, d.nx s c' = t → f t = true → u c' = false) →
     ∃ lv : Nat → Bool, (∀ s, s < d.nk → (lv s = true ↔ Live d s)) ∧ L46_2 (d.ml 0) u d.nk more (s : Int) is (c : Int) d.st (fun b => (d.cl b : Int)) d.nk d.ml d.nx d.rk d.ru d.nk f (boolF d.nk lv) := by
    intro q
    induction q with
    | zero =>
     intro c is hc h1 h2 h3
     have hmlS : d.ml s = c := by omega
     by_cases he : is = f s
     ·obtain ⟨lv, g1, g2⟩ := ih (s + 1) f more (by omega) (hP.mono fun _ hff hcl s' hs' => by
       by_cases hss : s' = s
       ·subst hss
        intro hq
        rw [← hff, ← he] at hq
        obtain ⟨k1, k2⟩ := h3 hq
        exact ⟨k1, fun c' hc' t ht hft => k2 c' (by omega) t ht (by rw [hff]; exact hft)⟩
       ·exact hcl s' (by omega))
      refine ⟨lv, g1, ?_⟩
      have hne : (!(is == f s)) = false := by rw [← he]; cases is <;> rfl
      apply r46_2
      rw [wrapSucc (n := s) (by omega)]
      simp only [Int.toNat_natCast, upd_same he, hne]
      refine ⟨⟨by omega, by omega⟩, fun h => by have := of_decide_eq_true h; omega, fun _ => ⟨fun hm => ⟨⟨by omega, by omega⟩, hsk, ?_⟩, fun hm => ⟨⟨by omega, by omega⟩, hsk, ?_⟩⟩⟩
      ·rw [hm] at g2; exact g2
      ·have hm : more = true := hm
       rw [hm] at g2; exact g2
     ·have his : is = true := by
       cases is with
       | true => rfl
       | false =>
        cases hq : f s with
        | true => exact h1 hq
        | false => exact absurd hq.symm he
      have hfs : f s = false := by
       cases hq : f s with
       | true => exact absurd (his.trans hq.symm) he
       | false => rfl
      subst his
      obtain ⟨lv, g1, g2⟩ := ih (s + 1) _ true (by omega) (hP.mark hsk hfs (h2 rfl) _)
      refine ⟨lv, g1, ?_⟩
      apply r46_2
      rw [wrapSucc (n := s) (by omega)]
      simp only [Int.toNat_natCast, upd_mark, hfs]
      exact ⟨⟨by omega, by omega⟩, fun h => by have := of_decide_eq_true h; omega, fun _ => ⟨fun hm => ⟨⟨by omega, by omega⟩, hsk, g2⟩, fun hm => ⟨⟨by omega, by omega⟩, hsk, g2⟩⟩⟩
    | succ q ihq =>
     intro c is hc h1 h2 h3
     have hcm : c < d.ml 0 := by omega
     have hlt := h9.2.1 c hcm
     have hmlS := h9.1
     have next : ∀ is' : Bool, (is = true → is' = true) → (is' = true → Live d s) → (is' = false → ∀ t : Nat, d.nx s c = t → f t = true → u c = false) →
       ∃ lv : Nat → Bool, (∀ s, s < d.nk → (lv s = true ↔ Live d s)) ∧ L46_2 (d.ml 0) u d.nk more (s : Int) is' ((c + 1 : Nat) : Int) d.st (fun b => (d.cl b : Int)) d.nk d.ml d.nx d.rk d.ru d.nk f (boolF d.nk lv) := by
      intro is' k1 k2 k3
      refine ihq (c + 1) is' (by omega) (fun h => k1 (h1 h)) k2 fun hq => ?_
      have hisf : is = false := by
       cases hi : is with
       | false => rfl
       | true => rw [k1 hi] at hq; cases hq
      obtain ⟨j1, j2⟩ := h3 hisf
      refine ⟨j1, fun c' hc' t ht hft => ?_⟩
      by_cases hcc : c' = c
      ·subst hcc; exact k3 hq t ht hft
      ·exact j2 c' (by omega) t ht hft
     cases is with
     | true =>
      obtain ⟨lv, g1, g2⟩ := next true (fun h => h) (fun _ => h2 rfl) (fun h => by cases h)
      refine ⟨lv, g1, ?_⟩
      apply r46_2
      rw [wrapSucc (n := c) (by omega)]
      simp only [Int.toNat_natCast]
      exact ⟨⟨by omega, by omega⟩, fun _ => ⟨⟨by omega, by omega⟩, fun h => (by cases h), fun _ => g2⟩, fun h => by have := of_decide_eq_false h; omega⟩
     | false =>
      by_cases hneg : d.nx s c < 0
      ·obtain ⟨lv, g1, g2⟩ := next false (fun h => h) (fun h => by cases h) (fun _ t ht => by omega)
       refine ⟨lv, g1, ?_⟩
       apply r46_2
       rw [wrapSucc (n := c) (by omega)]
       simp only [Int.toNat_natCast]
       exact ⟨⟨by omega, by omega⟩, fun _ => ⟨⟨by omega, by omega⟩, fun _ => ⟨fun h => by have := of_decide_eq_true h; omega, fun _ => g2⟩, fun h => (by cases h)⟩, fun h => by have := of_decide_eq_false h; omega⟩
      ·obtain ⟨t, ht⟩ : ∃ t : Nat, d.nx s c = t := ⟨(d.nx s c).toNat, by omega⟩
       have htk : t < d.nk := by omega
       cases hft : f t with
       | true =>
        obtain ⟨lv, g1, g2⟩ := next (u c) (fun h => by cases h) (fun huc => by
          obtain ⟨b, hb, hbc⟩ := (hu c).1 huc
          obtain ⟨w, hw, hw0⟩ := hP.snd t htk hft
          refine ⟨b :: w, isB.cons hb hw, ?_⟩
          rw [tellsF_cons]
          have : goS d s b = t := by
           unfold goS
           rw [if_neg (by omega), Int.toNat_natCast, hbc, ht, if_neg (by omega)]
          rw [this]; exact hw0) (fun huc t' ht' hft' => huc)
        refine ⟨lv, g1, ?_⟩
        apply r46_2
        rw [wrapSucc (n := c) (by omega), show (s : Int).toNat = s from rfl, show (c : Int).toNat = c from rfl, ht, show (t : Int).toNat = t from rfl, hft]
        exact ⟨⟨by omega, by omega⟩, fun _ => ⟨⟨by omega, by omega⟩, fun _ => ⟨fun _ => ⟨⟨by omega, by omega⟩, htk, fun _ => ⟨⟨by omega, by omega⟩, g2⟩, fun h => (by cases h)⟩, fun h => by have := of_decide_eq_false h; omega⟩, fun h => (by cases h)⟩, fun h => by have := of_decide_eq_false h; omega⟩
       | false =>
        obtain ⟨lv, g1, g2⟩ := next false (fun h => h) (fun h => by cases h) (fun _ t' ht' hft' => by
         obtain rfl : t' = t := by omega
         rw [hft] at hft'; cases hft')
        refine ⟨lv, g1, ?_⟩
        apply r46_2
        rw [wrapSucc (n := c) (by omega), show (s : Int).toNat = s from rfl, show (c : Int).toNat = c from rfl, ht, show (t : Int).toNat = t from rfl, hft]
        exact ⟨⟨by omega, by omega⟩, fun _ => ⟨⟨by omega, by omega⟩, fun _ => ⟨fun _ => ⟨⟨by omega, by omega⟩, htk, fun h => (by cases h), fun _ => g2⟩, fun h => by have := of_decide_eq_false h; omega⟩, fun h => (by cases h)⟩, fun h => by have := of_decide_eq_false h; omega⟩
   cases hfs : f s with
   | true =>
    obtain ⟨lv, g1, g2⟩ := cols (d.ml 0) 0 true (by omega) (fun _ => rfl) (fun _ => hP.snd s hsk hfs) (fun h => by cases h)
    refine ⟨lv, g1, ?_⟩
    apply r46_1
    simp only [Int.toNat_natCast, hfs]
    exact ⟨fun _ => ⟨⟨by omega, by omega⟩, hsk, fun h => (by cases h), fun _ => g2⟩, fun h => by have := of_decide_eq_false h; omega⟩
   | false =>
    obtain ⟨lv, g1, g2⟩ := cols (d.ml 0) 0 (decide (d.ru s ≥ 0)) (by omega) (fun h => by rw [hfs] at h; cases h) (fun h => by
      have h := of_decide_eq_true h
      refine ⟨[], isB.nil, ?_⟩
      show 0 ≤ ruleAt d s
      unfold ruleAt
      rw [Int.toNat_natCast, if_neg (by rintro (h1 | h1) <;> omega)]
      exact h) (fun h => ⟨by have := of_decide_eq_false h; omega, fun c' hc' => by omega⟩)
    refine ⟨lv, g1, ?_⟩
    apply r46_1
    simp only [Int.toNat_natCast, hfs]
    exact ⟨fun _ => ⟨⟨by omega, by omega⟩, hsk, fun _ => ⟨⟨by omega, by omega⟩, g2⟩, fun h => (by cases h)⟩, fun h => by have := of_decide_eq_false h; omega⟩
 obtain ⟨lv, h1, h2⟩ := rows d.nk 0 f0 false (by omega) ⟨fun _ => ⟨rfl, fun s' h => by omega⟩, fun h => (by cases h), h0⟩
 refine ⟨lv, h1, ?_⟩
 apply r46_0
 exact ⟨fun _ => h2, fun h => (by cases h)⟩
end
theorem live8_ok (d : Dfa) (hv : d.valid) : ∃ lv : Nat → Bool, (∀ s, s < d.nk → (lv s = true ↔ Live d s)) ∧ Ok Proofs.Try.prog 46 [dfaA d] [] (boolF d.nk lv) [] := by
 obtain ⟨u, hu, hO⟩ := used_ok d hv
 obtain ⟨lv, h1, h2⟩ := live_pass hv hu _ (fun _ => false) (Nat.le_refl _) fun _ _ h => by cases h
 have hk := hv.1
 refine ⟨lv, h1, o46 _ _ _ _ _ _ _ _ ⟨rfl, fun _ _ => trivial⟩ (r46_e _ _ _ _ _ _ _ _ ?_)⟩
 simp only [Int.toNat_natCast]
 exact ⟨(d.ml 0, u), hO, ⟨by omega, by omega, by omega, by omega⟩, h2⟩
end Go.Am.Seat
end
