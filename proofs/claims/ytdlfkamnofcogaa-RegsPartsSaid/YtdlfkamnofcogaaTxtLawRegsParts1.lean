import Derived.Test.YtdlfkamnofcogaaTxtLawRegsParts0
import Derived.Test.YtdlfkamnofcogaaRul0LawRegsParts
set_option linter.unusedVariables false
namespace Go.Am.Seat
open Go Go.Am
set_option maxRecDepth 20000

abbrev prA (x : Rg) (at' e : Nat) : AV := (AV.cons 1 (.rc false x) (.cons 1 (.sc (.int .i64 (at' : Int))) (.cons 1 (.sc (.int .i64 (e : Int))) .nil))).tup
theorem prSub {k : Int} {s : Nat → Int} {n m : Nat} {ps : Nat → Rg} {at' e : Nat} : Sub (AV.cons 1 (mkR false k s n m ps) (.cons 1 (.sc (.int .i64 (at' : Int))) (.cons 1 (.sc (.int .i64 (e : Int))) .nil))).tup (prA (.mk k s n m ps) at' e) :=
 Sub.tup ⟨⟨RSub.mkR _ _ _ _ _ _, rfl⟩, ⟨RSub.refl _, rfl⟩, ⟨RSub.refl _, rfl⟩, trivial⟩
def nilG : Rg := .mk 0 (fun _ => 0) 0 0 (fun _ => .no)
theorem prSub0 {at' e : Nat} : Sub (AV.cons 1 (AV.cons 1 (.sc (.int .i64 0)) (.cons 4 (.ar 4 1 (fun _ => .sc (.int .u64 0))) (.cons 1 (.sc (.slice none 0 0)) .nil))) (.cons 1 (.sc (.int .i64 (at' : Int))) (.cons 1 (.sc (.int .i64 (e : Int))) .nil))).tup (prA nilG at' e) :=
 Sub.tup ⟨⟨RSub.mk0 _ _ _, rfl⟩, ⟨RSub.refl _, rfl⟩, ⟨RSub.refl _, rfl⟩, trivial⟩
theorem dep_ab1 : depG abG1 = 3 := by decide
theorem parseA : Ok Proofs.Try.prog 87 [.sc (.string sA)] [] (prA abG1 0 0) [] := by
 refine o87 _ _ ⟨rfl, trivial, trivial, trivial⟩ ?_
 apply r87_e
 refine ⟨fun h => absurd h (by decide), fun _ => ⟨noop115, (abG1, sA, ((3 : Nat) : Int)), choiceA, fun h => absurd h (by decide), fun _ => ⟨_, Ok.rc okN_ab1 (depth_ok abG1 okN_ab1 (by rw [dep_ab1]; omega)), fun h => ?_, fun _ => prSub⟩⟩⟩
 rw [dep_ab1] at h
 exact absurd h (by decide)
theorem parseB : Ok Proofs.Try.prog 87 [.sc (.string sB)] [] (prA nilG 1 50) [] := by
 refine o87 _ _ ⟨rfl, trivial, trivial, trivial⟩ ?_
 apply r87_e
 exact ⟨fun h => absurd h (by decide), fun _ => ⟨noop115, (oneG 97, sB, ((1 : Nat) : Int)), choiceB, fun _ => prSub0 (at' := 1) (e := 50), fun h => absurd h (by decide)⟩⟩

def eqG : Rg → Rg → Prop
 | .mk k s n _ ps, .mk k' s' n' _ ps' => k = k' ∧ (∀ i, i < 4 → s i = s' i) ∧ n = n' ∧ ∀ i, i < n → eqG (ps i) (ps' i)
 | _, _ => False
theorem same_ok : ∀ x y : Rg, okN x → eqG x y → Ok Proofs.Try.prog 89 [.rc true x, .rc true y] [] (.sc (.bool true)) [] := by
 intro x
 induction x with
 | no => exact fun _ h => h.elim
 | mk k s n m ps ih =>
  intro y hx he
  cases y with
  | no => exact he.elim
  | mk k' s' n' m' ps' =>
   obtain ⟨rfl, hs, rfl, hp⟩ := he
   have hbig := hx.big
   simp only [Rg.n] at hbig
   refine o89 _ _ _ trivial (r89_e _ _ _ ?_)
   simp only [Rg.k, Rg.s, Rg.n, Rg.m, Rg.ps]
   have hc : cdec (∀ i, i < 4 → s i = s' i) = true := cdec_true.2 hs
   have loop : ∀ q i, i + q = n → L89_0 (i : Int) k s n m ps k s' n m' ps' (.sc (.bool true)) := by
    intro q
    induction q with
    | zero =>
     intro i hi
     obtain rfl : i = n := by omega
     apply r89_0
     exact ⟨fun h => by have := dt_ h; omega, fun _ => Sub.refl _⟩
    | succ q ihq =>
     intro i hi
     apply r89_0
     rw [wrapSucc (n := i) (by omega), tn_]
     exact ⟨fun _ => ⟨⟨by omega, by omega⟩, ⟨by omega, by omega⟩, true, ih i (ps' i) (okN.ps hx (i := i) (by show i < n; omega)) (hp i (by omega)), fun h => by simp at h, fun _ => ihq (i + 1) (by omega)⟩, fun h => by have := df_ h; omega⟩
   refine ⟨fun _ => ⟨fun _ _ => ⟨rfl, rfl⟩, fun _ => ⟨fun h => by simp at h, fun _ => loop n 0 (by omega)⟩, fun h => ?_⟩, fun h => by simp at h⟩
   rw [hc] at h; simp at h
theorem eq_ab : eqG abG1 abG := by
 refine ⟨rfl, fun _ _ => rfl, rfl, fun i hi => ?_⟩
 have : i = 0 ∨ i = 1 := by omega
 rcases this with rfl | rfl
 ·exact ⟨rfl, fun _ _ => rfl, rfl, fun j hj => absurd hj (by omega)⟩
 ·refine ⟨rfl, fun _ _ => rfl, rfl, fun j hj => ?_⟩
  exact ⟨rfl, fun _ _ => rfl, rfl, fun j hj => absurd hj (by omega)⟩
end Go.Am.Seat

namespace Go.Am
open Go
theorem Ok.nilArg {P : Program} {f : FuncId} {id esz esz' ty : Nat} {g : Nat → AV} {xs : List AV} {res : AV} {out : List (Nat × Nat × AV)} (h : Ok P f (.rf id esz 0 0 :: xs) [(id, ty, .ar 0 esz' g)] res out)
  (hk : keptN [] out = []) : Ok P f (.sc (.slice none 0 0) :: xs) [] res out := by
 refine ⟨h.fn, h.new, fun w E vals hce => ?_⟩
 have hr := hce.rel
 have hnone : ∀ l ∈ [id], E.bl l = none := fun l hl => hr.none_of_us rfl
 have hsub := Env.nils_sub (kp := keptN [(id, ty, .ar 0 esz' g)] out) hnone
 have hLn : ∀ l ∈ [id], (E.nils [id] (keptN [(id, ty, .ar 0 esz' g)] out)).bl l = some none := fun l hl => if_pos hl
 have hloc : ∀ l, lookO [(id, ty, AV.ar 0 esz' g)] l = (if eqNat l id then some (ty, .ar 0 esz' g) else none) := fun l => rfl
 have hce1 : CallEnv w (E.nils [id] (keptN [(id, ty, .ar 0 esz' g)] out)) (.rf id esz 0 0 :: xs) vals [(id, ty, .ar 0 esz' g)] (keptN [(id, ty, .ar 0 esz' g)] out) := by
  refine ⟨hce.base, rfl, hr.more rfl rfl rfl rfl rfl rfl rfl (fun i => ?_) (fun i v hv => ?_) (fun l ty' av hm => ?_) (fun l hid => ?_)⟩
  ·by_cases hi : i ∈ [id]
   ·exact .inr ⟨if_pos hi, hnone i hi⟩
   ·exact .inl (if_neg hi)
  ·have hv : RS w E (look .undef (enumAt 0 (.sc (.slice none 0 0) :: xs)) i) v := hv
   show RS w _ (look .undef (enumAt 0 (.rf id esz 0 0 :: xs)) i) v
   rw [look_enum] at hv ⊢
   simp only [Nat.not_lt_zero, if_false, Nat.sub_zero] at hv ⊢
   cases i with
   | zero =>
    have hv : v = .slice none 0 0 := RS_sc hv
    subst hv
    exact .inr ⟨hLn id (ms_.2 rfl), rfl, rfl, rfl⟩
   | succ i =>
    have e : ∀ y : AV, (y :: xs).getD (i + 1) AV.undef = xs.getD i AV.undef := fun y => rfl
    rw [e] at hv ⊢
    exact RS_mono hsub (fun _ _ => rfl) hv
  ·have hm2 : lookO [(id, ty, AV.ar 0 esz' g)] l = some (ty', av) := hm
   rw [hloc] at hm2
   by_cases hl : eqNat l id = true
   ·rw [if_pos hl, oi_, pi_] at hm2
    have hl2 : l = id := eqNat_eq hl
    rw [← hm2.2, hl2]
    refine .inr ⟨hLn id (ms_.2 rfl), rfl, ?_⟩
    exact R_RB (show R w _ (.ar 0 esz' g) [] from ⟨by simp, fun i hi => by omega⟩)
   ·rw [if_neg hl] at hm2; cases hm2
  ·show (lookO [(id, ty, AV.ar 0 esz' g)] l).isSome = true
   by_cases hl : l ∈ [id]
   ·obtain rfl := ms_.1 hl
    rw [hloc, if_pos (by simp [eqNat])]; rfl
   ·have hid : (if l ∈ [id] then some none else E.bl l) ≠ none := hid
    rw [if_neg hl] at hid
    have := hr.us l hid
    cases this
 refine Calls.mono (h.run w _ vals hce1) ?_
 rintro e w' ⟨v, E', he, hx, hR⟩
 have hs : E'.Sub { E' with kp := E.kp } := ⟨fun _ hb => .inl hb, fun _ hb => hb, fun _ _ h => h⟩
 refine ⟨v, { E' with kp := E.kp }, he, ⟨hx.base, hx.io, rfl, hx.fa, hx.old, hx.dl, fun i hi => ?_⟩, hR.more rfl rfl rfl rfl rfl rfl rfl (fun i => .inl rfl) (fun i v hv => RS_mono hs (fun _ _ => rfl) hv) (fun id ty av hm => .inl ⟨av, hm, rfl, fun hB => ?_⟩) (fun id hid => hR.us id hid)⟩
 ·rw [hce.kp, hk] at hi
  cases hi
 ·rcases hB with ⟨g1, g2⟩ | ⟨b, s, c, g1, g2, g3, g4, g5, g6⟩
  ·exact .inl ⟨g1, RB_mono hs (fun _ _ => rfl) (fun _ _ _ => rfl) (fun _ _ _ _ _ _ => rfl) g2⟩
  ·exact .inr ⟨b, s, c, g1, g2, g3, g4, g5, RB_mono hs (fun _ _ => rfl) (fun _ _ _ => rfl) (fun _ _ _ _ _ _ => rfl) g6⟩
end Go.Am

section
namespace Go.Am
end Go.Am
namespace Go.Am.Seat
open Go Go.Am

end Go.Am.Seat
end

namespace Go.Am.Seat
open Go Go.Am
theorem membL_cnt (p : Nat → Bool) : ∀ n, (membL p n).length = cnt n p
 | 0 => rfl
 | n + 1 => by
  rw [membL_succ, cnt_succ, la_, membL_cnt p n]
  cases p n <;> rfl
theorem cnt_not (p : Nat → Bool) : ∀ n, cnt n p + cnt n (fun b => !p b) = n
 | 0 => rfl
 | n + 1 => by
  have := cnt_not p n
  rw [cnt_succ, cnt_succ]
  cases p n <;> simp <;> omega
end Go.Am.Seat

namespace Go.Am.Seat
open Go Go.Am

theorem runEnd_in (p : Nat → Bool) : ∀ m to c, to < c → c ≤ runEnd p m to → p c = true
 | 0, to, c, h1, h2 => by simp only [runEnd] at h2; omega
 | m + 1, to, c, h1, h2 => by
  unfold runEnd at h2
  split at h2
  ·rename_i h
   by_cases hc : c = to + 1
   ·rw [hc]; exact h
   ·exact runEnd_in p m (to + 1) c (by omega) h2
  ·omega
theorem items_len (p : Nat → Bool) : ∀ n b, b ≤ 256 → (itemsL p n b).length + 2 * cnt b p ≤ 2 * cnt 256 p := by
 intro n
 induction n with
 | zero =>
  intro b hb
  have : cnt 256 p = cnt b p + cnt (256 - b) (fun k => p (b + k)) := by rw [← cnt_add]; congr 1; omega
  simp [itemsL]; omega
 | succ n ih =>
  intro b hb
  have hs := cnt_succ b p
  unfold itemsL
  split
  ·have : cnt 256 p = cnt b p + cnt (256 - b) (fun k => p (b + k)) := by rw [← cnt_add]; congr 1; omega
   simp; omega
  ·split
   ·rename_i hp
    have h1 := clsB_len b
    rw [hp] at hs
    split
    ·rename_i hr
     have hre := runEnd_le p (255 - b) b
     have hin := runEnd_in p (255 - b) b
     generalize hR : runEnd p (255 - b) b = R at hr hre hin
     have h2 := clsB_len R
     have h3 := ih (R + 1) (by omega)
     have h4 : cnt (R + 1) p = cnt b p + (R + 1 - b) := by
      have e : cnt (R + 1) p = cnt b p + cnt (R + 1 - b) (fun k => p (b + k)) := by rw [← cnt_add]; congr 1; omega
      rw [e]
      congr 1
      have : ∀ m, (∀ k, k < m → p (b + k) = true) → cnt m (fun k => p (b + k)) = m := by
       intro m
       induction m with
       | zero => intro _; rfl
       | succ m ih =>
        intro h
        rw [cnt_succ, ih (fun k hk => h k (by omega)), h m (by omega)]; rfl
      apply this
      intro k hk
      by_cases h0 : k = 0
      ·subst h0; exact hp
      ·exact hin (b + k) (by omega) (by omega)
     simp only [la_, List.length_singleton]
     omega
    ·have h3 := ih (b + 1) (by omega)
     simp only [la_]
     simp at hs
     omega
   ·rename_i hp
    rw [show p b = false by simpa using hp] at hs
    have h3 := ih (b + 1) (by omega)
    simp at hs
    omega
theorem print_len (p : Nat → Bool) : (printL p).length ≤ 512 := by
 unfold printL
 have hn := cnt_not p 256
 split
 ·have := items_len (fun b => !p b) 256 0 (by omega)
  simp only [la_]
  simp
  omega
 ·have := items_len p 256 0 (by omega)
  simp only [la_]
  simp
  omega
end Go.Am.Seat

namespace Go.Am.Seat
open Go Go.Am
set_option maxRecDepth 20000

abbrev txA (l : List Nat) : AV := .ar l.length 1 (fun i => .sc (.int .u8 (rowF l i)))
abbrev txR (l : List Nat) : AV := .rf 1000 1 0 l.length
abbrev txO (l : List Nat) : List (Nat × Nat × AV) := [(1000, 5, txA l)]
theorem tx_new (l : List Nat) : newOnly (txR l) ∧ ∀ q ∈ txO l, newOnly q.2.2 := ⟨trivial, fun q hq => by rw [ms_.1 hq]; exact fun _ _ => trivial⟩
theorem tx_out {l : List Nat} {N : Nat} {f : Nat → Int} (hf : isRow f l) (hN : l.length ≤ N) : SubOut [(1000, 5, .ar N 1 (fun i => .sc (.int .u8 (f i))))] (txO l) :=
 ⟨rfl, rfl, SubB.arR hN fun i hi => RSub.of_eq (by rw [hf i hi]; rfl), trivial⟩
theorem isRow_app {f : Nat → Int} {l m : List Nat} {g : Nat → Int} (hf : isRow f l) (hg : isRow g m) : isRow (fun i => bif Nat.blt i l.length then f i else g (i - l.length)) (l ++ m) := by
 intro i hi
 rw [la_] at hi
 by_cases h : i < l.length
 ·have : Nat.blt i l.length = true := by simpa using h
  simp only [this, cond_true]
  rw [hf i h]; simp [gd_, List.getElem?_append_left h]
 ·have : Nat.blt i l.length = false := by
   cases hb : Nat.blt i l.length with
   | false => rfl
   | true => exact absurd (by simpa using hb) h
  simp only [this, cond_false]
  rw [hg _ (by omega)]; simp [gd_, List.getElem?_append_right (show l.length ≤ i by omega)]
theorem tx_app {l : List Nat} {x : Nat} {N : Nat} {f : Nat → Int} {y : Int} (hy : y = (x : Int)) (hf : isRow f l) :
  Sub (AV.rf 1000 1 0 (l.length + 1)) (txR (l ++ [x])) ∧ SubOut [(1000, 5, .ar (l.length + 1) 1 (fun i => .sc (.int .u8 (bif Nat.blt i l.length then f i else y))))] (txO (l ++ [x])) := by
 have e : l.length + 1 = (l ++ [x]).length := by rw [la_]; rfl
 constructor
 ·rw [e]; exact Sub.refl _
 ·rw [e]; exact tx_out (isRow_pushI hy hf) (lr_ _)

def dotP : Nat → Bool := fun b => !(b == 10)
theorem dot_ok : Ok Proofs.Try.prog 145 [] [] (setA dotP) [] := by
 refine o145 _ (fun _ _ => trivial) (r145_e _ ⟨fun i => (word (fun c => c == 10) i : Int), ?_, fun i => (word dotP i : Int), not_ok _, Sub.refl _⟩)
 have := put_ok (fun _ => false) 10 (by omega)
 unfold setA at this
 rw [← congrArg (fun f => AV.ar 4 1 (fun i => AV.sc (Value.int IntKind.u64 (f i)))) zeroSet] at this
 simpa using this
def oneT (c : Nat) : List Nat := if (esc c).2 then [92, (esc c).1.toNat] else if signB c then [92, c] else [c]
open Classical in
noncomputable def singL (p : Nat → Bool) : List Nat := if (∀ b, b < 256 → p b = dotP b) then [46] else if cnt 256 p = 1 then oneT ((membL p 256).getD 0 0) else printL p
theorem esc_nat (c : Nat) : (esc c).1 = ((esc c).1.toNat : Int) := by
 unfold esc; split
 ·rfl
 ·split
  ·rfl
  ·split <;> rfl
theorem itemsL_lt (p : Nat → Bool) : ∀ n b, ∀ x ∈ itemsL p n b, x < 256 := by
 intro n
 induction n with
 | zero => intro b x hx; simp [itemsL] at hx
 | succ n ih =>
  intro b x hx
  unfold itemsL at hx
  have hr := runEnd_le p (255 - b) b
  split at hx
  ·simp at hx
  ·split at hx
   ·split at hx
    ·simp only [ma_] at hx
     rcases hx with ((h | h) | h) | h
     ·exact clsB_lt (by omega) x h
     ·simp at h; omega
     ·exact clsB_lt (by omega) x h
     ·exact ih _ x h
    ·rcases ma_.1 hx with h | h
     ·exact clsB_lt (by omega) x h
     ·exact ih _ x h
   ·exact ih _ x hx
theorem printL_lt (p : Nat → Bool) : ∀ x ∈ printL p, x < 256 := by
 intro x hx
 unfold printL at hx
 split at hx <;> simp only [ma_] at hx <;> rcases hx with (h | h) | h
 ·simp at h; omega
 ·exact itemsL_lt _ _ _ x h
 ·simp at h; omega
 ·simp at h; omega
 ·exact itemsL_lt _ _ _ x h
 ·simp at h; omega
theorem isRow_str {l : List Nat} (hl : ∀ x ∈ l, x < 256) : isRow (fun i => ((byteAt (str l) i).toNat : Int)) l := fun i hi => byteAt_strN hi hl
theorem sing_ok (p : Nat → Bool) (l : List Nat) (N : Nat) (f : Nat → Int) (hf : isRow f l) (hN : l.length ≤ N) (hm : l.length + 600 ≤ 140737488355328) :
  Ok Proofs.Try.prog 117 [.rf 2000 1 0 l.length, setA p] [(2000, 5, .ar N 1 (fun i => .sc (.int .u8 (f i))))] (txR (l ++ singL p)) (txO (l ++ singL p)) := by
 have hmx : 140737488355328 ≤ maxLen := by decide
 refine o117 _ _ _ _ _ _ (tx_new _) rfl ?_
 apply r117_e
 refine ⟨fun i => (word dotP i : Int), dot_ok, fun _ _ => ⟨rfl, rfl⟩, fun h => ?_, fun h => ?_⟩
 ·have h := cdec_true.1 h
  have hp : ∀ b, b < 256 → p b = dotP b := word_inj fun i hi => Int.ofNat.inj (h i hi)
  rw [singL, if_pos hp]
  exact ⟨⟨hN, by omega, by omega⟩, tx_app (N := N) rfl hf⟩
 ·have h := cdec_false.1 h
  have hp : ¬ ∀ b, b < 256 → p b = dotP b := fun hp => h fun i hi => by rw [word_congr hi hp]
  rw [singL, if_neg hp]
  refine ⟨_, count_ok p, fun h1 => ?_, fun h1 => ?_⟩
  ·have hc : cnt 256 p ≠ 1 := fun hc => by rw [hc] at h1; simp at h1
   rw [if_neg hc]
   have hl := print_len p
   refine ⟨str (printL p), print_ok p, ?_⟩
   rw [str_size]
   refine ⟨⟨hN, by omega, by omega⟩, ?_⟩
   have e : l.length + (printL p).length = (l ++ printL p).length := by rw [la_]
   have hr : isRow (fun i => bif Nat.blt i l.length then f i else ((byteAt (str (printL p)) (i - l.length)).toNat : Int)) (l ++ printL p) := isRow_app (g := fun j => ((byteAt (str (printL p)) j).toNat : Int)) hf (isRow_str (printL_lt p))
   generalize printL p = q at *
   rw [e]
   exact ⟨Sub.refl _, tx_out hr (lr_ _)⟩
  ·have hc : cnt 256 p = 1 := by have := (bne_eq_false_iff_eq).1 h1; omega
   rw [if_pos hc]
   have hml : (membL p 256).length = 1 := by rw [membL_cnt, hc]
   have hlt : ∀ x ∈ membL p 256, x < 256 := fun x hx => membL_lt hx
   have hb0 := byteAt_strN (l := membL p 256) (i := 0) (by omega) hlt
   generalize hcc : (membL p 256).getD 0 0 = c at hb0 ⊢
   refine ⟨str (membL p 256), members_ok p, ?_⟩
   rw [str_size, hml, hb0]
   have es := esc_nat c
   refine ⟨⟨by omega, by omega⟩, esc c, esc_ok c, fun h2 => ?_, fun h2 => ?_⟩
   ·rw [oneT, if_pos h2]
    refine ⟨⟨hN, by omega, by omega⟩, ?_⟩
    have e : l.length + 2 = (l ++ [92, (esc c).1.toNat]).length := by rw [la_]; rfl
    have hr : isRow (fun i => bif Nat.blt i l.length then f i else bif Nat.beq (0 + (i - l.length)) 1 then (esc c).1 else bif Nat.beq (0 + (i - l.length)) 0 then (92 : Int) else 0) (l ++ [92, (esc c).1.toNat]) := by
     refine isRow_app (g := fun j => bif Nat.beq (0 + j) 1 then (esc c).1 else bif Nat.beq (0 + j) 0 then (92 : Int) else 0) hf fun i hi => ?_
     have hi : i < 2 := hi
     have : i = 0 ∨ i = 1 := by omega
     rcases this with rfl | rfl
     ·rfl
     ·exact es
    rw [e]
    exact ⟨Sub.refl _, tx_out hr (lr_ _)⟩
   ·refine ⟨_, sign_ok c, fun h3 => ?_, fun h3 => ?_⟩
    ·rw [oneT, if_neg (by rw [h2]; simp), if_pos h3]
     refine ⟨⟨hN, by omega, by omega⟩, ?_⟩
     apply r117_0
     have hr := isRow_pushI (f := f) (l := l) (x := 92) (y := 92) rfl hf
     have e : l.length + 1 = (l ++ [92]).length := by rw [la_]; rfl
     have e2 : l ++ [92, c] = (l ++ [92]) ++ [c] := by rw [List.append_assoc]; rfl
     have := tx_app (N := N) (l := l ++ [92]) (x := c) (y := c) rfl hr
     rw [e2, e]
     exact ⟨⟨lr_ _, by simp only [la_, List.length_singleton]; omega, by simp only [la_, List.length_singleton]; omega⟩, this⟩
    ·rw [oneT, if_neg (by rw [h2]; simp), if_neg (by rw [h3]; simp)]
     exact r117_0 _ _ _ _ _ _ ⟨⟨hN, by omega, by omega⟩, tx_app (N := N) rfl hf⟩
theorem oneT_len (c : Nat) : (oneT c).length ≤ 2 := by
 unfold oneT; split
 ·simp
 ·split <;> simp
theorem oneT_lt {c : Nat} (hc : c < 256) : ∀ x ∈ oneT c, x < 256 := by
 have he : (esc c).1.toNat < 256 := by
  unfold esc; split
  ·decide
  ·split
   ·decide
   ·split <;> decide
 intro x hx
 unfold oneT at hx
 split at hx
 ·rcases mn_.1 hx with h | h
  ·omega
  ·rw [ms_.1 h]; exact he
 ·split at hx
  ·rcases mn_.1 hx with h | h
   ·omega
   ·rw [ms_.1 h]; exact hc
  ·rw [ms_.1 hx]; exact hc
theorem singL_len (p : Nat → Bool) : (singL p).length ≤ 512 := by
 unfold singL; split
 ·simp
 ·split
  ·have := oneT_len ((membL p 256).getD 0 0); omega
  ·exact print_len p
theorem singL_lt (p : Nat → Bool) : ∀ x ∈ singL p, x < 256 := by
 intro x hx
 unfold singL at hx; split at hx
 ·simp at hx; omega
 ·split at hx
  ·rename_i hc
   have hlt : (membL p 256).getD 0 0 < 256 := by
    have hml : (membL p 256).length = 1 := by rw [membL_cnt, hc]
    rw [gd_, ge_ (by omega)]
    exact membL_lt (List.getElem_mem _)
   exact oneT_lt hlt x hx
  ·exact printL_lt p x hx

def catF (g : Nat → List Nat) : Nat → List Nat
 | 0 => []
 | n + 1 => catF g n ++ g n
def roundG (k j : Int) : Bool := j == 4 || (k != 4 && (j == 1 || j == 3))
def tailG (k : Int) : List Nat := if k = 5 then [42] else if k = 6 then [43] else if k = 7 then [63] else []
def partG (k j : Int) (t : List Nat) (i : Nat) : List Nat := (if k = 4 ∧ 0 < i then [124] else []) ++ (if roundG k j then [40] else []) ++ t ++ (if roundG k j then [41] else [])
noncomputable def toldL : Rg → List Nat
 | .no => [91, 93]
 | .mk k s n _ ps => if k = 0 then [91, 93] else if k = 2 then singL (hasS s) else catF (fun i => partG k (ps i).k (toldL (ps i)) i) n ++ tailG k
theorem partG_len (k j : Int) (t : List Nat) (i : Nat) : (partG k j t i).length ≤ t.length + 3 := by
 unfold partG
 simp only [la_]
 split <;> split <;> simp <;> omega
theorem tailG_len (k : Int) : (tailG k).length ≤ 1 := by
 unfold tailG; split
 ·simp
 ·split
  ·simp
  ·split <;> simp
theorem catF_len {g : Nat → List Nat} {h : Nat → Nat} : ∀ {n : Nat}, (∀ i, i < n → (g i).length ≤ 520 * h i) → (catF g n).length ≤ 520 * sumF h n
 | 0, _ => by simp [catF, sumF]
 | n + 1, hh => by
  have h1 := catF_len (g := g) (h := h) (n := n) fun i hi => hh i (by omega)
  have h2 := hh n (by omega)
  rw [catF, sumF, la_]; omega
theorem toldL_len : ∀ x, (toldL x).length + 3 ≤ 520 * cntG x := by
 intro x
 induction x with
 | no => rw [toldL, cntG]; simp
 | mk k s n m ps ih =>
  rw [toldL, cntG]
  split
  ·simp; omega
  ·split
   ·have := singL_len (hasS s); omega
   ·have h1 := catF_len (n := n) (g := fun i => partG k (ps i).k (toldL (ps i)) i) (h := fun i => cntG (ps i)) fun i hi => by
     have := partG_len k (ps i).k (toldL (ps i)) i
     have := ih i
     omega
    have h2 := tailG_len k
    rw [la_]; omega
end Go.Am.Seat

namespace Go.Am.Seat
open Go Go.Am
set_option maxRecDepth 20000

theorem okN.sub {x : Rg} (hx : okN x) : Sub (mkR true x.k x.s x.n x.m x.ps) (.rc true x) := by
 have := Sub.mkR true x.k x.s x.n x.m x.ps
 rw [hx.eta] at this
 exact this
def TxOk (f : FuncId) (x : Rg) (t : List Nat) : Prop := ∀ (l : List Nat) (N : Nat) (g : Nat → Int), isRow g l → l.length ≤ N → l.length + 520 * cntG x ≤ 1099511627776 →
 Ok Proofs.Try.prog f [.rf 2000 1 0 l.length, .rc true x] [(2000, 5, .ar N 1 (fun i => .sc (.int .u8 (g i))))] (txR (l ++ t)) (txO (l ++ t))

theorem part2 (x : Rg) (hx : okN x) (h : TxOk 92 x (toldL x)) (rnd : Bool) (l : List Nat) (N : Nat) (f : Nat → Int) (hf : isRow f l) (hN : l.length ≤ N) (hm : l.length + 520 * cntG x ≤ 1099511627400)
  (tn tm : Nat) (tf : Nat → Rg) (t22 t23 k : Int) (s : Nat → Int) (n m : Nat) (ps : Nat → Rg) (res : AV) (out : List (Nat × Nat × AV))
  (K : ∀ (l2 : List Nat) (N2 : Nat) (f2 : Nat → Int), l2 = l ++ toldL x ++ (if rnd then [41] else []) → isRow f2 l2 → l2.length ≤ N2 → L92_3 l2.length tn tm tf t22 t23 N2 f2 k s n m ps res out) :
  L92_2 l.length rnd tn tm tf t22 t23 N f k s n m ps x.k x.s x.n x.m x.ps res out := by
 have hmx : 140737488355328 ≤ maxLen := by decide
 have hl := toldL_len x
 have hlen : (l ++ toldL x).length ≤ 1099511627400 := by rw [la_]; omega
 apply r92_2
 refine ⟨((l ++ toldL x).length, (l ++ toldL x).length, rowF (l ++ toldL x)), Ok.args (ys := [.rf 2000 1 0 l.length, .rc true x]) ⟨Sub.refl _, hx.sub, trivial⟩ (h l N f hf hN (by omega)), fun hr => ?_, fun hr => ?_⟩
 ·subst hr
  generalize l ++ toldL x = q at *
  refine ⟨⟨lr_ _, by show (q.length + 1) * 1 ≤ _; omega, by show q.length + 1 ≤ _; omega⟩, ?_⟩
  have := K (q ++ [41]) (q.length + 1) _ rfl (isRow_pushI (x := 41) rfl (isRow_rowF q)) (by rw [la_]; exact lr_ _)
  rw [la_] at this
  exact this
 ·subst hr
  refine K (l ++ toldL x) _ _ (by simp) (isRow_rowF _) (lr_ _)
theorem part1 (x : Rg) (hx : okN x) (h : TxOk 92 x (toldL x)) (l : List Nat) (N : Nat) (f : Nat → Int) (hf : isRow f l) (hN : l.length ≤ N) (hm : l.length + 520 * cntG x ≤ 1099511627300)
  (tn tm : Nat) (tf : Nat → Rg) (t22 t23 k : Int) (s : Nat → Int) (n m : Nat) (ps : Nat → Rg) (res : AV) (out : List (Nat × Nat × AV))
  (K : ∀ (l2 : List Nat) (N2 : Nat) (f2 : Nat → Int), l2 = l ++ (if roundG k x.k then [40] else []) ++ toldL x ++ (if roundG k x.k then [41] else []) → isRow f2 l2 → l2.length ≤ N2 → L92_3 l2.length tn tm tf t22 t23 N2 f2 k s n m ps res out) :
  L92_1 l.length tn tm tf t22 t23 N f k s n m ps x.k x.s x.n x.m x.ps res out := by
 have hmx : 140737488355328 ≤ maxLen := by decide
 have yes : roundG k x.k = true → (l.length ≤ N ∧ (l.length + 1) * 1 ≤ 140737488355328 ∧ l.length + 1 ≤ maxLen) ∧ L92_2 (l.length + 1) true tn tm tf t22 t23 (l.length + 1) (fun i => bif Nat.blt i l.length then f i else 40) k s n m ps x.k x.s x.n x.m x.ps res out := by
  intro hr
  refine ⟨⟨hN, by omega, by omega⟩, ?_⟩
  have := part2 x hx h true (l ++ [40]) (l.length + 1) _ (isRow_pushI (x := 40) rfl hf) (by rw [la_]; exact lr_ _) (by rw [la_]; simp only [List.length_singleton]; omega) tn tm tf t22 t23 k s n m ps res out (fun l2 N2 f2 e => K l2 N2 f2 (by rw [hr]; exact e))
  rw [la_] at this
  exact this
 have no : roundG k x.k = false → L92_2 l.length false tn tm tf t22 t23 N f k s n m ps x.k x.s x.n x.m x.ps res out := by
  intro hr
  exact part2 x hx h false l N f hf hN (by omega) tn tm tf t22 t23 k s n m ps res out (fun l2 N2 f2 e => K l2 N2 f2 (by rw [hr]; simpa using e))
 apply r92_1
 refine ⟨fun h4 => ⟨fun hk => ⟨fun h1 => ⟨fun h3 => ?_, fun h3 => ?_⟩, fun h1 => ?_⟩, fun hk => ?_⟩, fun h4 => ?_⟩
 ·rw [h3]; exact yes (by unfold roundG; rw [h4, hk, h1, h3]; rfl)
 ·rw [h3]; exact no (by unfold roundG; rw [h4, hk, h1, h3]; rfl)
 ·exact yes (by unfold roundG; rw [h4, hk, h1]; rfl)
 ·exact no (by unfold roundG; rw [h4, hk]; rfl)
 ·exact yes (by unfold roundG; rw [h4]; rfl)
theorem told_ok : ∀ x, okN x → TxOk 92 x (toldL x) := by
 intro x
 induction x with
 | no => exact fun h => h.elim
 | mk k s n m ps ih =>
  intro hx l N f hf hN hm
  have hmx : 140737488355328 ≤ maxLen := by decide
  have hbig := hx.big
  simp only [Rg.n] at hbig
  have hps := fun i (hi : i < n) => okN.ps hx (i := i) hi
  simp only [Rg.ps] at hps
  have hst := fun i (hi : i < 4) => okN.st hx (i := i) hi
  simp only [Rg.s] at hst
  refine o92 _ _ _ _ _ _ (tx_new _) rfl ?_
  apply r92_e
  simp only [Rg.k, Rg.s, Rg.n, Rg.m, Rg.ps]
  rw [cntG] at hm
  rw [toldL]
  refine ⟨fun h0 => ?_, fun h0 => ⟨fun h2 => ?_, fun h2 => ?_⟩⟩
  ·have hk : k = 0 := by simpa using h0
   rw [if_pos hk]
   have e : l.length + (ByteArray.mk #[91, 93]).size = (l ++ [91, 93]).length := by rw [la_]; rfl
   have hr : isRow (fun i => bif Nat.blt i l.length then f i else ((byteAt (ByteArray.mk #[91, 93]) (i - l.length)).toNat : Int)) (l ++ [91, 93]) := isRow_app (g := fun j => ((byteAt (ByteArray.mk #[91, 93]) j).toNat : Int)) hf (fun i hi => by
    have hi : i < 2 := hi
    have : i = 0 ∨ i = 1 := by omega
    rcases this with rfl | rfl <;> rfl)
   have e2 : (ByteArray.mk #[91, 93]).size = 2 := rfl
   rw [e2] at e ⊢
   refine ⟨⟨hN, by omega, by omega⟩, ?_⟩
   rw [e]
   exact ⟨Sub.refl _, tx_out hr (lr_ _)⟩
  ·have hk : k = 2 := by simpa using h2
   rw [if_neg (by omega), if_pos hk]
   refine ⟨((l ++ singL (hasS s)).length, (l ++ singL (hasS s)).length, rowF (l ++ singL (hasS s))), ?_, Sub.refl _, ⟨rfl, rfl, SubB.refl _, trivial⟩⟩
   refine Ok.args (ys := [.rf 2000 1 0 l.length, setA (hasS s)]) ⟨Sub.refl _, Sub.ar fun i hi => ?_, trivial⟩ (sing_ok (hasS s) l N f hf hN (by omega))
   rw [word_hasS (hst i hi).1 (hst i hi).2]
  ·have hk0 : ¬ k = 0 := by simpa using h0
   have hk2 : ¬ k = 2 := by simpa using h2
   rw [if_neg hk0, if_neg hk2]
   have hcat : ∀ i, i ≤ n → (catF (fun i => partG k (ps i).k (toldL (ps i)) i) i).length ≤ 520 * sumF (fun i => cntG (ps i)) i := fun i hi => catF_len fun j hj => by
    have := partG_len k (ps j).k (toldL (ps j)) j
    have := toldL_len (ps j)
    omega
   have loop : ∀ q i, i + q = n → ∀ (l' : List Nat) (N' : Nat) (f' : Nat → Int), l' = l ++ catF (fun i => partG k (ps i).k (toldL (ps i)) i) i → isRow f' l' → l'.length ≤ N' →
     L92_0 l'.length n m ps (n : Int) (i : Int) N' f' k s n m ps (txR (l ++ (catF (fun i => partG k (ps i).k (toldL (ps i)) i) n ++ tailG k))) (txO (l ++ (catF (fun i => partG k (ps i).k (toldL (ps i)) i) n ++ tailG k))) := by
    intro q
    induction q with
    | zero =>
     intro i hi l' N' f' hl' hf' hN'
     obtain rfl : i = n := by omega
     have hc := hcat i (lr_ _)
     have hlen : l'.length ≤ 1099511627776 := by rw [hl', la_]; omega
     rw [← List.append_assoc, ← hl']
     apply r92_0
     refine ⟨fun h => by have := dt_ h; omega, fun _ => ⟨fun h5 => ?_, fun h5 => ⟨fun h6 => ?_, fun h6 => ⟨fun h7 => ?_, fun h7 => ?_⟩⟩⟩⟩ <;> simp only [beq_iff_eq, beq_eq_false_iff_ne, ne_eq] at *
     ·rw [tailG, if_pos h5]; exact ⟨⟨hN', by omega, by omega⟩, tx_app (N := N') rfl hf'⟩
     ·rw [tailG, if_neg h5, if_pos h6]; exact ⟨⟨hN', by omega, by omega⟩, tx_app (N := N') rfl hf'⟩
     ·rw [tailG, if_neg h5, if_neg h6, if_pos h7]; exact ⟨⟨hN', by omega, by omega⟩, tx_app (N := N') rfl hf'⟩
     ·rw [tailG, if_neg h5, if_neg h6, if_neg h7, List.append_nil]; exact ⟨Sub.refl _, tx_out hf' hN'⟩
    | succ q ihq =>
     intro i hi l' N' f' hl' hf' hN'
     have hc := hcat (i + 1) (by omega)
     have hs1 : sumF (fun i => cntG (ps i)) (i + 1) = sumF (fun i => cntG (ps i)) i + cntG (ps i) := rfl
     have hmono := sumF_mono (f := fun i => cntG (ps i)) (show i + 1 ≤ n by omega)
     have hc0 := hcat i (by omega)
     have hlen : l'.length + 520 * cntG (ps i) + 520 ≤ 1099511627776 := by rw [hl', la_]; omega
     have next : ∀ (pre : List Nat), pre = (if k = 4 ∧ 0 < i then [124] else []) → ∀ (N1 : Nat) (f1 : Nat → Int), isRow f1 (l' ++ pre) → (l' ++ pre).length ≤ N1 →
       L92_1 (l' ++ pre).length n m ps (n : Int) (i : Int) N1 f1 k s n m ps (ps i).k (ps i).s (ps i).n (ps i).m (ps i).ps (txR (l ++ (catF (fun i => partG k (ps i).k (toldL (ps i)) i) n ++ tailG k))) (txO (l ++ (catF (fun i => partG k (ps i).k (toldL (ps i)) i) n ++ tailG k))) := by
      intro pre hpre N1 f1 hf1 hN1
      have hpl : pre.length ≤ 1 := by rw [hpre]; split <;> simp
      refine part1 (ps i) (hps i (by omega)) (ih i (hps i (by omega))) (l' ++ pre) N1 f1 hf1 hN1 (by rw [la_]; omega) _ _ _ _ _ _ _ _ _ _ _ _ fun l2 N2 f2 e hf2 hN2 => ?_
      apply r92_3
      rw [wrapSucc (n := i) (by omega)]
      refine ihq (i + 1) (by omega) l2 N2 f2 ?_ hf2 hN2
      rw [e, hl', catF, partG, hpre]
      simp only [List.append_assoc]
     apply r92_0
     rw [tn_]
     refine ⟨fun _ => ⟨⟨by omega, by omega⟩, fun h4 => ⟨fun hi0 => ⟨⟨hN', by omega, by omega⟩, ?_⟩, fun hi0 => ?_⟩, fun h4 => ?_⟩, fun h => by have := df_ h; omega⟩
     ·have h5 : k = 4 ∧ 0 < i := ⟨by simpa using h4, by have := dt_ hi0; omega⟩
      have := next [124] (by rw [if_pos h5]) (l'.length + 1) _ (isRow_pushI (x := 124) rfl hf') (by rw [la_]; exact lr_ _)
      rw [la_] at this
      exact this
     ·have h5 : ¬ (k = 4 ∧ 0 < i) := fun h5 => by have := df_ hi0; omega
      have := next [] (by rw [if_neg h5]) N' f' (by rw [List.append_nil]; exact hf') (by rw [List.append_nil]; exact hN')
      rw [List.append_nil] at this
      exact this
     ·have h5 : ¬ (k = 4 ∧ 0 < i) := fun h5 => by rw [h5.1] at h4; simp at h4
      have := next [] (by rw [if_neg h5]) N' f' (by rw [List.append_nil]; exact hf') (by rw [List.append_nil]; exact hN')
      rw [List.append_nil] at this
      exact this
   exact loop n 0 (by omega) l N f (by simp [catF]) hf hN

theorem catF_lt {g : Nat → List Nat} : ∀ {n : Nat}, (∀ i, i < n → ∀ x ∈ g i, x < 256) → ∀ x ∈ catF g n, x < 256
 | 0, _, x, hx => by simp [catF] at hx
 | n + 1, h, x, hx => by
  rw [catF] at hx
  rcases ma_.1 hx with h1 | h1
  ·exact catF_lt (fun i hi => h i (by omega)) x h1
  ·exact h n (by omega) x h1
theorem toldL_lt : ∀ x, ∀ b ∈ toldL x, b < 256 := by
 intro x
 induction x with
 | no => intro b hb; rw [toldL] at hb; simp at hb; omega
 | mk k s n m ps ih =>
  intro b hb
  rw [toldL] at hb
  split at hb
  ·simp at hb; omega
  ·split at hb
   ·exact singL_lt _ b hb
   ·rcases ma_.1 hb with h | h
    ·refine catF_lt (fun i hi y hy => ?_) b h
     unfold partG at hy
     simp only [ma_] at hy
     rcases hy with ((h | h) | h) | h
     ·split at h
      ·simp at h; omega
      ·simp at h
     ·split at h
      ·simp at h; omega
      ·simp at h
     ·exact ih i y h
     ·split at h
      ·simp at h; omega
      ·simp at h
    ·unfold tailG at h
     split at h
     ·simp at h; omega
     ·split at h
      ·simp at h; omega
      ·split at h <;> simp at h; omega
noncomputable def prtG (x : Rg) : List Nat × Nat := if chkG x = 0 then (if 256 < (toldL x).length then ([], 3) else (toldL x, 0)) else ([], chkG x)
theorem print_reg (x : Rg) (hx : okN x) : Ok Proofs.Try.prog 51 [.rc true x] [] (AV.cons 1 (.sc (.string (str (prtG x).1))) (.cons 1 (.sc (.int .i64 ((prtG x).2 : Int))) .nil)).tup [] := by
 refine o51 _ _ ⟨trivial, trivial, trivial⟩ ?_
 apply r51_e
 refine ⟨_, Ok.rc hx (regCheck_ok x hx), fun h => ?_, fun h => ?_⟩
 ·have hc : ¬ chkG x = 0 := fun hc => by rw [hc] at h; simp at h
  rw [prtG, if_neg hc]
  exact Sub.refl _
 ·have hc : chkG x = 0 := by have := (bne_eq_false_iff_eq).1 h; omega
  have hcnt : cntG x ≤ 512 := by
   unfold chkG at hc
   split at hc
   ·cases hc
   ·omega
  have hl := toldL_len x
  have ht := told_ok x hx [] 0 (fun _ => 0) (isRow_nil _) (lr_ _) (by simp only [List.length_nil]; omega)
  rw [List.nil_append] at ht
  refine ⟨((toldL x).length, (toldL x).length, rowF (toldL x)), Ok.args (ys := [.sc (.slice none 0 0), .rc true x]) ⟨Sub.refl _, hx.sub, trivial⟩ (Ok.nilArg ht rfl), fun h => ?_, fun h => ?_⟩
  ·have := dt_ h
   rw [prtG, if_pos hc, if_pos (by omega)]
   exact Sub.refl _
  ·have := df_ h
   rw [prtG, if_pos hc, if_neg (by omega)]
   have h0 : (fun i => rowF (toldL x) (0 + i)) = rowF (toldL x) := funext fun i => by rw [Nat.zero_add]
   have hlt := toldL_lt x
   dsimp only
   rw [h0]
   refine ⟨⟨by omega, strOf_size _ _, fun i hi => ?_⟩, ?_⟩
   ·have hb : rowF (toldL x) i < 256 := by
     unfold rowF
     rw [gd_, ge_ hi]
     exact Int.ofNat_lt.2 (hlt _ (List.getElem_mem hi))
    have h00 : 0 ≤ rowF (toldL x) i := Int.natCast_nonneg _
    rw [Nat.zero_add, byteAt_strOf hi h00 hb]
   ·rw [strOf_row (isRow_rowF (toldL x))]
    exact Sub.refl _
end Go.Am.Seat

namespace Go.Am.Seat
open Go Go.Am

abbrev Rise (l : List Nat) : Prop := l.Pairwise (· < ·)
abbrev ivT (l : List Nat) : AV := .vec true 1 l.length l.length (fun i => .sc (.int .i64 (rowF l i)))
abbrev ivF (l : List Nat) : AV := .vec false 1 l.length l.length (fun i => .sc (.int .i64 (rowF l i)))
theorem rise_get {l : List Nat} (h : Rise l) {i j : Nat} (hij : i < j) (hj : j < l.length) : l.getD i 0 < l.getD j 0 := by
 rw [gd_, gd_, ge_ (by omega), ge_ hj]
 exact List.pairwise_iff_getElem.1 h i j (by omega) hj hij
theorem mem_getD {l : List Nat} {x : Nat} : x ∈ l ↔ ∃ i, i < l.length ∧ l.getD i 0 = x := by
 rw [List.mem_iff_getElem]
 constructor
 ·rintro ⟨i, hi, h⟩
  exact ⟨i, hi, by rw [gd_, ge_ hi]; exact h⟩
 ·rintro ⟨i, hi, h⟩
  exact ⟨i, hi, by rw [gd_, ge_ hi] at h; exact h⟩
theorem halfw {i j : Nat} (h : i + j ≤ 4611686018427387904) : IntKind.i64.wrap ((IntKind.u64.wrap (IntKind.i64.wrap ((i : Int) + (j : Int)))).fdiv ((2 : Int) ^ min 1 IntKind.u64.bits)) = (((i + j) / 2 : Nat) : Int) := by
 rw [wrap_i64 (n := (i : Int) + j) (by omega) (by omega), wrap_u64 (n := (i : Int) + j) (by omega) (by omega), show (i : Int) + (j : Int) = ((i + j : Nat) : Int) from rfl, fdiv_pow (x := i + j) (k := 1) (by omega), Nat.shiftRight_eq_div_pow, Nat.pow_one]
 exact wrap_i64 (by omega) (by omega)
theorem nan_ok (x : Int) : Ok Proofs.Try.prog 164 [.sc (.int .i64 x)] [] (.sc (.bool false)) [] :=
 o164 _ _ trivial (r164_e _ _ (by rw [bne_self_eq_false]; exact Sub.refl _))
theorem nan2_ok (x : Int) : Ok Proofs.Try.prog 174 [.sc (.int .i64 x)] [] (.sc (.bool false)) [] :=
 o174 _ _ trivial (r174_e _ _ (by rw [bne_self_eq_false]; exact Sub.refl _))
theorem less_ok (x y : Int) : Ok Proofs.Try.prog 136 [.sc (.int .i64 x), .sc (.int .i64 y)] [] (.sc (.bool (decide (x < y)))) [] :=
 o136 _ _ _ trivial (r136_e _ _ _ ⟨false, nan_ok x, (fun h => by cases h), fun _ => Sub.refl _⟩)
theorem find_loop (l : List Nat) (hr : Rise l) (hl : l.length ≤ 1099511627776) (x : Nat) : ∀ m i j, j ≤ i + m → i ≤ j → j ≤ l.length → (∀ k, k < i → l.getD k 0 < x) → (∀ k, j ≤ k → k < l.length → x ≤ l.getD k 0) →
  ∃ at' : Int, L165_0 l.length (rowF l) (x : Int) (l.length : Int) (i : Int) (j : Int) (AV.cons 1 (.sc (.int .i64 at')) (.cons 1 (.sc (.bool (decide (x ∈ l)))) .nil)).tup := by
 have fin : ∀ i j, j ≤ i → i ≤ j → j ≤ l.length → (∀ k, k < i → l.getD k 0 < x) → (∀ k, j ≤ k → k < l.length → x ≤ l.getD k 0) →
   ∃ at' : Int, L165_0 l.length (rowF l) (x : Int) (l.length : Int) (i : Int) (j : Int) (AV.cons 1 (.sc (.int .i64 at')) (.cons 1 (.sc (.bool (decide (x ∈ l)))) .nil)).tup := by
  intro i j h0 h1 h2 h3 h4
  obtain rfl : i = j := by omega
  refine ⟨i, r165_0 _ _ _ _ _ _ _ ⟨fun h => by have := dt_ h; omega, fun _ => ⟨fun hn => ⟨⟨by omega, by have := dt_ hn; omega⟩, fun he => ⟨false, nan2_ok _, fun h => by simp at h, fun _ => ?_⟩, fun he => ?_⟩, fun hn => ?_⟩⟩⟩
  ·have hn := dt_ hn
   rw [tn_] at he
   have hne : l.getD i 0 ≠ x := fun e => by unfold rowF at he; rw [e] at he; simp at he
   rw [decide_eq_false (p := x ∈ l)]
   ·exact Sub.refl _
   ·intro hm
    obtain ⟨k, hk, e⟩ := mem_getD.1 hm
    rcases Nat.lt_trichotomy k i with h | h | h
    ·have := h3 k h; omega
    ·subst h; exact hne e
    ·have h5 := rise_get hr h hk
     have h6 := h4 i (lr_ _) (by omega)
     omega
  ·have hn := dt_ hn
   rw [tn_] at he
   have hq : l.getD i 0 = x := by
    have he : (rowF l i == (x : Int)) = true := he
    exact Int.ofNat.inj (eq_of_beq he)
   rw [decide_eq_true (p := x ∈ l) (mem_getD.2 ⟨i, by omega, hq⟩)]
   exact Sub.refl _
  ·have hn := df_ (show decide ((i : Int) < (l.length : Int)) = false from hn)
   rw [decide_eq_false (p := x ∈ l)]
   ·exact Sub.refl _
   ·intro hm
    obtain ⟨k, hk, e⟩ := mem_getD.1 hm
    have := h3 k (by omega); omega
 intro m
 induction m with
 | zero =>
  intro i j h0 h1 h2 h3 h4
  exact fin i j (by omega) h1 h2 h3 h4
 | succ m ih =>
  intro i j h0 h1 h2 h3 h4
  by_cases hij : i < j
  ·have hw := halfw (i := i) (j := j) (by omega)
   by_cases hx : l.getD ((i + j) / 2) 0 < x
   ·obtain ⟨at', hb⟩ := ih ((i + j) / 2 + 1) j (by omega) (by omega) h2 (fun k hk => by
     by_cases he : k = (i + j) / 2
     ·subst he; exact hx
     ·have := rise_get hr (show k < (i + j) / 2 by omega) (by omega); omega) h4
    refine ⟨at', r165_0 _ _ _ _ _ _ _ ?_⟩
    rw [hw, tn_, wrapSucc (n := (i + j) / 2) (by omega)]
    refine ⟨fun _ => ⟨by omega, ⟨by omega, by omega⟩, _, less_ok _ _, fun _ => hb, fun h => ?_⟩, fun h => by have := df_ h; omega⟩
    have := df_ h
    unfold rowF at this
    omega
   ·obtain ⟨at', hb⟩ := ih i ((i + j) / 2) (by omega) (by omega) (by omega) h3 (fun k hk hk2 => by
     by_cases he : k = (i + j) / 2
     ·subst he; omega
     ·have := rise_get hr (show (i + j) / 2 < k by omega) hk2; omega)
    refine ⟨at', r165_0 _ _ _ _ _ _ _ ?_⟩
    rw [hw, tn_]
    refine ⟨fun _ => ⟨by omega, ⟨by omega, by omega⟩, _, less_ok _ _, fun h => ?_, fun _ => hb⟩, fun h => by have := df_ h; omega⟩
    have := dt_ h
    unfold rowF at this
    omega
  ·exact fin i j (by omega) h1 h2 h3 h4
theorem find_ok (l : List Nat) (hr : Rise l) (hl : l.length ≤ 1099511627776) (x : Nat) : ∃ at' : Int, Ok Proofs.Try.prog 165 [ivT l, .sc (.int .i64 (x : Int))] [] (AV.cons 1 (.sc (.int .i64 at')) (.cons 1 (.sc (.bool (decide (x ∈ l)))) .nil)).tup [] := by
 obtain ⟨at', hb⟩ := find_loop l hr hl x l.length 0 l.length (by omega) (by omega) (lr_ _) (fun k hk => by omega) (fun k hk hk2 => by omega)
 exact ⟨at', o165 _ _ _ _ ⟨trivial, trivial, trivial⟩ (r165_e _ _ _ _ hb)⟩

theorem iv_fix {l : List Nat} {N : Nat} {f : Nat → Int} (hf : isRow f l) (hN : l.length ≤ N) : Sub (.vec false 1 l.length N (fun i => .sc (.int .i64 (f i)))) (ivF l) :=
 Sub.vec (lr_ _) hN fun i hi => by rw [hf i hi]; rfl
def freshL (l a : List Nat) : List Nat := l.filter fun x => !decide (x ∈ a)
theorem fresh_loop (l a : List Nat) (hr : Rise a) (ha : a.length ≤ 1099511627776) (hl : l.length ≤ 1099511627776) : ∀ m i, i + m = l.length → ∀ (N : Nat) (f : Nat → Int), isRow f (freshL (l.take i) a) → (freshL (l.take i) a).length ≤ N →
  L142_0 a.length (rowF a) (freshL (l.take i) a).length l.length (rowF l) (l.length : Int) (i : Int) N f (ivF (freshL l a)) := by
 have hmx : 140737488355328 ≤ maxLen := by decide
 intro m
 induction m with
 | zero =>
  intro i hi N f hf hN
  obtain rfl : i = l.length := by omega
  rw [List.take_length] at hf hN ⊢
  apply r142_0
  have e : freshL l a = freshL l a := rfl
  refine ⟨fun h => by have := dt_ h; omega, fun _ => ⟨⟨by omega, Sub.vec (lr_ _) (by omega) fun i hi => rfl⟩, ?_⟩⟩
  exact iv_fix hf (lr_ _)
 | succ m ih =>
  intro i hi N f hf hN
  have hlen : (freshL (l.take i) a).length ≤ i := by
   have := List.length_filter_le (fun x => !decide (x ∈ a)) (l.take i)
   rw [lt_] at this
   unfold freshL; omega
  have htk : l.take (i + 1) = l.take i ++ [l.getD i 0] := by
   rw [List.take_add_one, ge_ (by omega), gd_, ge_ (by omega)]
   rfl
  obtain ⟨at', hb⟩ := find_ok a hr ha (l.getD i 0)
  apply r142_0
  rw [tn_]
  refine ⟨fun _ => ⟨⟨by omega, by omega⟩, (at', decide (l.getD i 0 ∈ a)), hb, fun hn => ?_, fun hn => ?_⟩, fun h => by have := df_ h; omega⟩
  ·refine ⟨⟨hN, by omega, by omega⟩, ?_⟩
   apply r142_1
   rw [wrapSucc (n := i) (by omega)]
   have e : freshL (l.take (i + 1)) a = freshL (l.take i) a ++ [l.getD i 0] := by
    unfold freshL
    rw [htk, List.filter_append]
    congr 1
    simp only [List.filter_cons, List.filter_nil]
    rw [if_pos hn]
   have := ih (i + 1) (by omega) ((freshL (l.take i) a).length + 1) (fun j => bif Nat.blt j (freshL (l.take i) a).length then f j else rowF l i) (by rw [e]; exact isRow_pushI rfl hf) (by rw [e, la_]; exact lr_ _)
   rw [e, la_] at this
   exact this
  ·apply r142_1
   rw [wrapSucc (n := i) (by omega)]
   have e : freshL (l.take (i + 1)) a = freshL (l.take i) a := by
    unfold freshL
    rw [htk, List.filter_append]
    simp only [List.filter_cons, List.filter_nil]
    rw [if_neg (by rw [show (!decide (l.getD i 0 ∈ a)) = false from hn]; simp), List.append_nil]
   have := ih (i + 1) (by omega) N f (by rw [e]; exact hf) (by rw [e]; exact hN)
   rw [e] at this
   exact this
theorem fresh_ok (l a : List Nat) (hr : Rise a) (ha : a.length ≤ 1099511627776) (hl : l.length ≤ 1099511627776) : Ok Proofs.Try.prog 142 [ivT l, ivT a] [] (ivF (freshL l a)) [] :=
 o142 _ _ _ _ _ ⟨rfl, fun _ _ => trivial⟩ (r142_e _ _ _ _ _ (fresh_loop l a hr ha hl l.length 0 (by omega) 0 _ (isRow_nil _) (lr_ _)))
end Go.Am.Seat

namespace Go.Am.Seat
open Go Go.Am
set_option linter.unusedSimpArgs false

section
variable {an bn o N : Nat} {af bf f : Nat → Int} {res : AV} {out : List (Nat × Nat × AV)}
theorem both_end (ha : an = 0) (hb : bn = 0) (h : Sub (AV.rf 1000 1 0 o) res ∧ SubOut [(1000, 3, AV.ar N 1 fun i0 => AV.sc (Value.int IntKind.i64 (f i0)))] out) : L109_0 an af bn bf o N f res out := by
 apply r109_0
 have a1 : decide ((an : Int) > 0) = false := decide_eq_false (by omega)
 have b1 : decide ((bn : Int) > 0) = false := decide_eq_false (by omega)
 simp only [a1, b1, Bool.not_false, Bool.not_true, reduceCtorEq, false_implies, true_implies, forall_const, and_true, true_and, implies_true]
 exact h
theorem both_a (ha : 0 < an) (hc : bn = 0 ∨ (0 < bn ∧ af 0 < bf 0)) (hN : o ≤ N) (h8 : (o + 1) * 8 ≤ 140737488355328) (hm : o + 1 ≤ maxLen)
  (K : L109_0 (an - 1) (fun i => af (plus 1 i)) bn bf (o + 1) (o + 1) (fun i => bif Nat.blt i o then f i else af 0) res out) : L109_0 an af bn bf o N f res out := by
 have e : ((an : Int) - 1).toNat = an - 1 := by omega
 have K' : (o ≤ N ∧ (o + 1) * 8 ≤ 140737488355328 ∧ o + 1 ≤ maxLen) ∧ ((0 : Int) ≤ 1 ∧ (1 : Int) ≤ (an : Int) ∧ (an : Int) ≤ (an : Int)) ∧
   Sub (AV.vec true 1 ((an : Int) - 1).toNat (an - 1) fun i => AV.sc (Value.int IntKind.i64 (af (plus 1 i)))) (AV.vec true 1 ((an : Int) - 1).toNat ((an : Int) - 1).toNat fun i0 => AV.sc (Value.int IntKind.i64 (af (plus 1 i0)))) ∧
   L109_0 ((an : Int) - 1).toNat (fun i => af (plus 1 i)) bn bf (o + 1) (o + 1) (fun i => bif Nat.blt i o then f i else af 0) res out := by
  rw [e]
  exact ⟨⟨hN, h8, hm⟩, ⟨by omega, by omega, by omega⟩, Sub.vec (lr_ _) (lr_ _) fun _ _ => rfl, K⟩
 apply r109_0
 have a1 : decide ((an : Int) > 0) = true := decide_eq_true (by omega)
 have a2 : ((an : Int) == 0) = false := by simp; omega
 rcases hc with hb | ⟨hb, hx⟩
 ·have b1 : decide ((bn : Int) > 0) = false := decide_eq_false (by omega)
  have b2 : ((bn : Int) == 0) = true := by simp; omega
  simp only [a1, a2, b1, b2, Bool.not_false, Bool.not_true, reduceCtorEq, false_implies, true_implies, forall_const, and_true, true_and, implies_true]
  exact ⟨⟨by omega, by omega⟩, K'⟩
 ·have b1 : decide ((bn : Int) > 0) = true := decide_eq_true (by omega)
  have b2 : ((bn : Int) == 0) = false := by simp; omega
  have x1 : decide (af 0 < bf 0) = true := decide_eq_true hx
  simp only [a1, a2, b1, b2, x1, Bool.not_false, Bool.not_true, reduceCtorEq, false_implies, true_implies, forall_const, and_true, true_and, implies_true]
  exact ⟨⟨by omega, by omega⟩, ⟨by omega, by omega⟩, K'⟩
theorem both_b (hb : 0 < bn) (hc : an = 0 ∨ (0 < an ∧ bf 0 < af 0)) (hN : o ≤ N) (h8 : (o + 1) * 8 ≤ 140737488355328) (hm : o + 1 ≤ maxLen)
  (K : L109_0 an af (bn - 1) (fun i => bf (plus 1 i)) (o + 1) (o + 1) (fun i => bif Nat.blt i o then f i else bf 0) res out) : L109_0 an af bn bf o N f res out := by
 have e : ((bn : Int) - 1).toNat = bn - 1 := by omega
 have K' : (o ≤ N ∧ (o + 1) * 8 ≤ 140737488355328 ∧ o + 1 ≤ maxLen) ∧ ((0 : Int) ≤ 1 ∧ (1 : Int) ≤ (bn : Int) ∧ (bn : Int) ≤ (bn : Int)) ∧
   Sub (AV.vec true 1 ((bn : Int) - 1).toNat (bn - 1) fun i => AV.sc (Value.int IntKind.i64 (bf (plus 1 i)))) (AV.vec true 1 ((bn : Int) - 1).toNat ((bn : Int) - 1).toNat fun i0 => AV.sc (Value.int IntKind.i64 (bf (plus 1 i0)))) ∧
   L109_0 an af ((bn : Int) - 1).toNat (fun i => bf (plus 1 i)) (o + 1) (o + 1) (fun i => bif Nat.blt i o then f i else bf 0) res out := by
  rw [e]
  exact ⟨⟨hN, h8, hm⟩, ⟨by omega, by omega, by omega⟩, Sub.vec (lr_ _) (lr_ _) fun _ _ => rfl, K⟩
 apply r109_0
 have b1 : decide ((bn : Int) > 0) = true := decide_eq_true (by omega)
 have b2 : ((bn : Int) == 0) = false := by simp; omega
 rcases hc with ha | ⟨ha, hx⟩
 ·have a1 : decide ((an : Int) > 0) = false := decide_eq_false (by omega)
  have a2 : ((an : Int) == 0) = true := by simp; omega
  simp only [a1, a2, b1, b2, Bool.not_false, Bool.not_true, reduceCtorEq, false_implies, true_implies, forall_const, and_true, true_and, implies_true]
  exact ⟨⟨by omega, by omega⟩, K'⟩
 ·have a1 : decide ((an : Int) > 0) = true := decide_eq_true (by omega)
  have a2 : ((an : Int) == 0) = false := by simp; omega
  have x1 : decide (af 0 < bf 0) = false := decide_eq_false (by omega)
  have x2 : decide (bf 0 < af 0) = true := decide_eq_true hx
  simp only [a1, a2, b1, b2, x1, x2, Bool.not_false, Bool.not_true, reduceCtorEq, false_implies, true_implies, forall_const, and_true, true_and, implies_true]
  exact ⟨⟨by omega, by omega⟩, ⟨by omega, by omega⟩, K'⟩
theorem both_ab (ha : 0 < an) (hb : 0 < bn) (hx : af 0 = bf 0) (hN : o ≤ N) (h8 : (o + 1) * 8 ≤ 140737488355328) (hm : o + 1 ≤ maxLen)
  (K : L109_0 (an - 1) (fun i => af (plus 1 i)) (bn - 1) (fun i => bf (plus 1 i)) (o + 1) (o + 1) (fun i => bif Nat.blt i o then f i else af 0) res out) : L109_0 an af bn bf o N f res out := by
 have e : ((an : Int) - 1).toNat = an - 1 := by omega
 have e' : ((bn : Int) - 1).toNat = bn - 1 := by omega
 apply r109_0
 have a1 : decide ((an : Int) > 0) = true := decide_eq_true (by omega)
 have a2 : ((an : Int) == 0) = false := by simp; omega
 have b1 : decide ((bn : Int) > 0) = true := decide_eq_true (by omega)
 have b2 : ((bn : Int) == 0) = false := by simp; omega
 have x1 : decide (af 0 < bf 0) = false := decide_eq_false (by omega)
 have x2 : decide (bf 0 < af 0) = false := decide_eq_false (by omega)
 simp only [a1, a2, b1, b2, x1, x2, Bool.not_false, Bool.not_true, reduceCtorEq, false_implies, true_implies, forall_const, and_true, true_and, implies_true]
 rw [e, e']
 exact ⟨⟨by omega, by omega⟩, ⟨by omega, by omega⟩, ⟨hN, h8, hm⟩, ⟨by omega, by omega, by omega⟩, ⟨by omega, by omega, by omega⟩, ⟨Sub.vec (lr_ _) (lr_ _) fun _ _ => rfl, Sub.vec (lr_ _) (lr_ _) fun _ _ => rfl⟩, K⟩
end
abbrev pxO (l : List Nat) : List (Nat × Nat × AV) := [(1000, 3, .ar l.length 1 (fun i => .sc (.int .i64 (rowF l i))))]
theorem px_out {l : List Nat} {N : Nat} {f : Nat → Int} (hf : isRow f l) (hN : l.length ≤ N) : SubOut [(1000, 3, .ar N 1 (fun i => .sc (.int .i64 (f i))))] (pxO l) :=
 ⟨rfl, rfl, SubB.arR hN fun i hi => RSub.of_eq (by rw [hf i hi]; rfl), trivial⟩
theorem isRow_tail {f : Nat → Int} {x : Nat} {l : List Nat} (h : isRow f (x :: l)) : isRow (fun i => f (plus 1 i)) l := fun i hi => by
 have := h (i + 1) (by simp; omega)
 show f (plus 1 i) = _
 rw [plus_eq, Nat.add_comm 1 i]
 rw [this]; rfl
theorem both_loop : ∀ (m : Nat) (a b : List Nat), a.length + b.length ≤ m → Rise a → Rise b → ∃ c, (∀ x, x ∈ c ↔ x ∈ a ∨ x ∈ b) ∧ Rise c ∧ c.length ≤ a.length + b.length ∧
  ∀ (o : List Nat) (N : Nat) (af bf f : Nat → Int), isRow af a → isRow bf b → isRow f o → o.length ≤ N → o.length + a.length + b.length ≤ 1099511627776 → L109_0 a.length af b.length bf o.length N f (.rf 1000 1 0 (o ++ c).length) (pxO (o ++ c)) := by
 have hmx : 140737488355328 ≤ maxLen := by decide
 intro m
 induction m with
 | zero =>
  intro a b h ra rb
  obtain rfl : a = [] := List.length_eq_zero_iff.1 (by omega)
  obtain rfl : b = [] := List.length_eq_zero_iff.1 (by omega)
  refine ⟨[], by simp, List.Pairwise.nil, by simp, fun o N af bf f haf hbf hf hN hm => ?_⟩
  rw [List.append_nil]
  exact both_end rfl rfl ⟨Sub.refl _, px_out hf hN⟩
 | succ m ih =>
  intro a b h ra rb
  have stepA : ∀ (x : Nat) (a' : List Nat), a = x :: a' → (b = [] ∨ ∃ y b', b = y :: b' ∧ x < y) → ∃ c, (∀ x, x ∈ c ↔ x ∈ a ∨ x ∈ b) ∧ Rise c ∧ c.length ≤ a.length + b.length ∧
    ∀ (o : List Nat) (N : Nat) (af bf f : Nat → Int), isRow af a → isRow bf b → isRow f o → o.length ≤ N → o.length + a.length + b.length ≤ 1099511627776 → L109_0 a.length af b.length bf o.length N f (.rf 1000 1 0 (o ++ c).length) (pxO (o ++ c)) := by
   rintro x a' rfl hb
   have ra' := List.pairwise_cons.1 ra
   simp only [List.length_cons] at h
   obtain ⟨c, h1, h2, h3, h4⟩ := ih a' b (by omega) ra'.2 rb
   refine ⟨x :: c, fun z => ?_, List.pairwise_cons.2 ⟨fun z hz => ?_, h2⟩, by simp only [List.length_cons]; omega, fun o N af bf f haf hbf hf hN hm => ?_⟩
   ·rw [mn_, mn_, h1, or_assoc]
   ·rcases (h1 z).1 hz with hz | hz
    ·exact ra'.1 z hz
    ·rcases hb with rfl | ⟨y, b', rfl, hy⟩
     ·cases hz
     ·rcases mn_.1 hz with rfl | hz
      ·exact hy
      ·have := (List.pairwise_cons.1 rb).1 z hz; omega
   ·have ha0 : af 0 = (x : Int) := haf 0 (by simp)
    simp only [List.length_cons] at hm
    have K := h4 (o ++ [x]) (o.length + 1) (fun i => af (plus 1 i)) bf (fun i => bif Nat.blt i o.length then f i else af 0) (isRow_tail haf) hbf (isRow_pushI ha0 hf) (by rw [la_]; exact lr_ _) (by rw [la_]; simp only [List.length_singleton]; omega)
    rw [List.append_assoc, show (o ++ [x]).length = o.length + 1 from la_] at K
    refine both_a (by simp) ?_ hN (by omega) (by omega) K
    rcases hb with rfl | ⟨y, b', rfl, hy⟩
    ·exact .inl rfl
    ·refine .inr ⟨by simp, ?_⟩
     have hb0 : bf 0 = (y : Int) := hbf 0 (by simp)
     omega
  have stepB : ∀ (y : Nat) (b' : List Nat), b = y :: b' → (a = [] ∨ ∃ x a', a = x :: a' ∧ y < x) → ∃ c, (∀ x, x ∈ c ↔ x ∈ a ∨ x ∈ b) ∧ Rise c ∧ c.length ≤ a.length + b.length ∧
    ∀ (o : List Nat) (N : Nat) (af bf f : Nat → Int), isRow af a → isRow bf b → isRow f o → o.length ≤ N → o.length + a.length + b.length ≤ 1099511627776 → L109_0 a.length af b.length bf o.length N f (.rf 1000 1 0 (o ++ c).length) (pxO (o ++ c)) := by
   rintro y b' rfl ha
   have rb' := List.pairwise_cons.1 rb
   simp only [List.length_cons] at h
   obtain ⟨c, h1, h2, h3, h4⟩ := ih a b' (by omega) ra rb'.2
   refine ⟨y :: c, fun z => ?_, List.pairwise_cons.2 ⟨fun z hz => ?_, h2⟩, by simp only [List.length_cons]; omega, fun o N af bf f haf hbf hf hN hm => ?_⟩
   ·rw [mn_, mn_, h1, or_left_comm]
   ·rcases (h1 z).1 hz with hz | hz
    ·rcases ha with rfl | ⟨x, a', rfl, hx⟩
     ·cases hz
     ·rcases mn_.1 hz with rfl | hz
      ·exact hx
      ·have := (List.pairwise_cons.1 ra).1 z hz; omega
    ·exact rb'.1 z hz
   ·have hb0 : bf 0 = (y : Int) := hbf 0 (by simp)
    simp only [List.length_cons] at hm
    have K := h4 (o ++ [y]) (o.length + 1) af (fun i => bf (plus 1 i)) (fun i => bif Nat.blt i o.length then f i else bf 0) haf (isRow_tail hbf) (isRow_pushI hb0 hf) (by rw [la_]; exact lr_ _) (by rw [la_]; simp only [List.length_singleton]; omega)
    rw [List.append_assoc, show (o ++ [y]).length = o.length + 1 from la_] at K
    refine both_b (by simp) ?_ hN (by omega) (by omega) K
    rcases ha with rfl | ⟨x, a', rfl, hx⟩
    ·exact .inl rfl
    ·refine .inr ⟨by simp, ?_⟩
     have ha0 : af 0 = (x : Int) := haf 0 (by simp)
     omega
  match a, b, stepA, stepB with
  | [], [], _, _ =>
   refine ⟨[], by simp, List.Pairwise.nil, by simp, fun o N af bf f haf hbf hf hN hm => ?_⟩
   rw [List.append_nil]
   exact both_end rfl rfl ⟨Sub.refl _, px_out hf hN⟩
  | x :: a', [], sA, _ => exact sA x a' rfl (.inl rfl)
  | [], y :: b', _, sB => exact sB y b' rfl (.inl rfl)
  | x :: a', y :: b', sA, sB =>
   rcases Nat.lt_trichotomy x y with hxy | hxy | hxy
   ·exact sA x a' rfl (.inr ⟨y, b', rfl, hxy⟩)
   ·subst hxy
    have ra' := List.pairwise_cons.1 ra
    have rb' := List.pairwise_cons.1 rb
    simp only [List.length_cons] at h
    obtain ⟨c, h1, h2, h3, h4⟩ := ih a' b' (by omega) ra'.2 rb'.2
    refine ⟨x :: c, fun z => ?_, List.pairwise_cons.2 ⟨fun z hz => ?_, h2⟩, by simp only [List.length_cons]; omega, fun o N af bf f haf hbf hf hN hm => ?_⟩
    ·simp only [mn_, h1]
     constructor
     ·rintro (h | h | h)
      ·exact .inl (.inl h)
      ·exact .inl (.inr h)
      ·exact .inr (.inr h)
     ·rintro ((h | h) | (h | h))
      ·exact .inl h
      ·exact .inr (.inl h)
      ·exact .inl h
      ·exact .inr (.inr h)
    ·rcases (h1 z).1 hz with hz | hz
     ·exact ra'.1 z hz
     ·exact rb'.1 z hz
    ·have ha0 : af 0 = (x : Int) := haf 0 (by simp)
     have hb0 : bf 0 = (x : Int) := hbf 0 (by simp)
     simp only [List.length_cons] at hm
     have K := h4 (o ++ [x]) (o.length + 1) (fun i => af (plus 1 i)) (fun i => bf (plus 1 i)) (fun i => bif Nat.blt i o.length then f i else af 0) (isRow_tail haf) (isRow_tail hbf) (isRow_pushI ha0 hf) (by rw [la_]; exact lr_ _) (by rw [la_]; simp only [List.length_singleton]; omega)
     rw [List.append_assoc, show (o ++ [x]).length = o.length + 1 from la_] at K
     exact both_ab (by simp) (by simp) (by rw [ha0, hb0]) hN (by omega) (by omega) K
   ·exact sB y b' rfl (.inr ⟨x, a', rfl, hxy⟩)
theorem both_ok (a b : List Nat) (ra : Rise a) (rb : Rise b) (hl : a.length + b.length ≤ 1099511627776) : ∃ c, (∀ x, x ∈ c ↔ x ∈ a ∨ x ∈ b) ∧ Rise c ∧ c.length ≤ a.length + b.length ∧
  Ok Proofs.Try.prog 109 [ivT a, ivT b] [] (.rf 1000 1 0 c.length) (pxO c) := by
 have hmx : 140737488355328 ≤ maxLen := by decide
 obtain ⟨c, h1, h2, h3, h4⟩ := both_loop _ a b (lr_ _) ra rb
 have := h4 [] 0 (rowF a) (rowF b) (fun _ => 0) (isRow_rowF a) (isRow_rowF b) (isRow_nil _) (lr_ _) (by simp only [List.length_nil]; omega)
 rw [List.nil_append] at this
 refine ⟨c, h1, h2, h3, o109 _ _ _ _ _ _ ⟨trivial, fun q hq => by rw [ms_.1 hq]; exact fun _ _ => trivial⟩ rfl (r109_e _ _ _ _ _ _ ⟨?_, this⟩)⟩
 have hw : IntKind.i64.wrap ((a.length : Int) + (b.length : Int)) = ((a.length + b.length : Nat) : Int) := by rw [wrap_i64 (by omega) (by omega)]; rfl
 rw [hw, tn_]
 exact ⟨by omega, by omega, by omega, by omega⟩
end Go.Am.Seat

namespace Go.Am.Seat
open Go Go.Am

inductive Star (R : Nat → Nat → Prop) : Nat → Nat → Prop
 | refl (i : Nat) : Star R i i
 | tail {i j k : Nat} : Star R i j → R j k → Star R i k
def Plc (n : Nat) (l : List Nat) : Prop := Rise l ∧ ∀ x ∈ l, x ≤ n
theorem rise_ge {l : List Nat} (h : Rise l) : ∀ i, i < l.length → i ≤ l.getD i 0
 | 0, _ => Nat.zero_le _
 | i + 1, hi => by have := rise_ge h i (by omega); have := rise_get h (show i < i + 1 by omega) hi; omega
theorem Plc.len {n : Nat} {l : List Nat} (h : Plc n l) : l.length ≤ n + 1 := by
 rcases Nat.eq_zero_or_pos l.length with h0 | h0
 ·omega
 ·have h1 := rise_ge h.1 (l.length - 1) (by omega)
  have h2 := h.2 _ (mem_getD.2 ⟨l.length - 1, by omega, rfl⟩)
  omega
theorem cnt_mono {p q : Nat → Bool} : ∀ n, (∀ b, b < n → p b = true → q b = true) → cnt n p ≤ cnt n q
 | 0, _ => lr_ _
 | n + 1, h => by
  have := cnt_mono n fun b hb => h b (by omega)
  rw [cnt_succ, cnt_succ]
  have h2 := h n (by omega)
  cases hp : p n with
  | false => simp; omega
  | true => rw [h2 hp]; simp; omega
theorem cnt_lt {p q : Nat → Bool} : ∀ n, (∀ b, b < n → p b = true → q b = true) → (∃ b, b < n ∧ q b = true ∧ p b = false) → cnt n p < cnt n q
 | 0, _, ⟨b, hb, _⟩ => by omega
 | n + 1, h, ⟨b, hb, h1, h2⟩ => by
  rw [cnt_succ, cnt_succ]
  by_cases he : b = n
  ·subst he
   have := cnt_mono b fun c hc => h c (by omega)
   rw [h1, h2]; simp; omega
  ·have := cnt_lt n (fun c hc => h c (by omega)) ⟨b, by omega, h1, h2⟩
   have h3 := h n (by omega)
   cases hp : p n with
   | false => simp; omega
   | true => rw [h3 hp]; simp; omega
def holes (n : Nat) (a : List Nat) : Nat := cnt (n + 1) (fun b => !decide (b ∈ a))
theorem clone_ok (l : List Nat) (hl : l.length ≤ 1099511627776) : Ok Proofs.Try.prog 141 [ivT l] [] (.rf 1000 1 0 l.length) (pxO l) := by
 have hmx : 140737488355328 ≤ maxLen := by decide
 refine o141 _ _ _ _ ⟨trivial, fun q hq => by rw [ms_.1 hq]; exact fun _ _ => trivial⟩ rfl (r141_e _ _ _ _ fun b hb => ⟨fun h => ?_, fun h => ?_⟩)
 ·have hb1 : b = true := by simpa using h
  have h0 := hb hb1
  obtain rfl : l = [] := List.length_eq_zero_iff.1 h0
  exact ⟨Sub.refl _, px_out (isRow_nil _) (lr_ _)⟩
 ·rw [Nat.zero_add]
  exact ⟨⟨by omega, by omega⟩, Sub.refl _, px_out (f := fun i => rowF l (i - 0)) (isRow_rowF l) (lr_ _)⟩
def EndsOk (t : ByteArray) (x : Rg) (R : Nat → Nat → Prop) : Prop := ∀ l, Plc t.size l → ∃ l', Plc t.size l' ∧ (∀ j, j ∈ l' ↔ ∃ i, i ∈ l ∧ R i j) ∧ Ok Proofs.Try.prog 75 [.rc true x, .sc (.string t), ivF l] [] (ivF l') []
theorem freshL_mem {l a : List Nat} {x : Nat} : x ∈ freshL l a ↔ x ∈ l ∧ x ∉ a := by
 unfold freshL; rw [List.mem_filter]; simp
theorem again_loop (t : ByteArray) (ht : t.size ≤ 1000000) (x : Rg) (hx : okN x) (R : Nat → Nat → Prop) (hE : EndsOk t x R) (l0 : List Nat) : ∀ m (A W : List Nat), holes t.size A < m → Plc t.size A → Plc t.size W → (∀ j ∈ A, ∃ i, i ∈ l0 ∧ Star R i j) → (∀ j ∈ W, j ∈ A) → (∀ j ∈ l0, j ∈ A) → (∀ j ∈ A, j ∉ W → ∀ k, R j k → k ∈ A) →
  ∃ A', Plc t.size A' ∧ (∀ j, j ∈ A' ↔ ∃ i, i ∈ l0 ∧ Star R i j) ∧ ∀ (N : Nat) (f : Nat → Int), isRow f A → A.length ≤ N → L110_0 t A.length W.length (rowF W) x.k x.s x.n x.m x.ps N f (ivF A') := by
 have hmx : 140737488355328 ≤ maxLen := by decide
 have fin : ∀ A : List Nat, Plc t.size A → (∀ j ∈ A, ∃ i, i ∈ l0 ∧ Star R i j) → (∀ j ∈ l0, j ∈ A) → (∀ j ∈ A, ∀ k, R j k → k ∈ A) →
   ∃ A', Plc t.size A' ∧ (∀ j, j ∈ A' ↔ ∃ i, i ∈ l0 ∧ Star R i j) ∧ ∀ (N : Nat) (f : Nat → Int), isRow f A → A.length ≤ N → L110_0 t A.length ([] : List Nat).length (rowF []) x.k x.s x.n x.m x.ps N f (ivF A') := by
  intro A hA h1 h2 h3
  refine ⟨A, hA, fun j => ⟨h1 j, ?_⟩, fun N f hf hN => ?_⟩
  ·rintro ⟨i, hi, hs⟩
   induction hs with
   | refl => exact h2 _ hi
   | tail _ hr ih => exact h3 _ ih _ hr
  ·apply r110_0
   exact ⟨fun h => by simp at h, fun _ => ⟨by omega, iv_fix hf (by omega)⟩⟩
 intro m
 induction m with
 | zero =>
  intro A W hh
  omega
 | succ m ih =>
  intro A W hh hA hW h1 h2 h3 h5
  by_cases hw0 : W = []
  ·subst hw0
   exact fin A hA h1 h3 fun j hj k hk => h5 j hj (by simp) k hk
  have hWl : 0 < W.length := List.length_pos_iff.2 hw0
  have hAl : 0 < A.length := by
   obtain ⟨w, hw⟩ := List.exists_mem_of_ne_nil W hw0
   exact List.length_pos_iff.2 (fun e => by have := h2 w hw; rw [e] at this; cases this)
  obtain ⟨L, hL, hm, hok⟩ := hE W hW
  have hFm : ∀ j, j ∈ freshL L A ↔ j ∈ L ∧ j ∉ A := fun j => freshL_mem
  have hF : Plc t.size (freshL L A) := ⟨List.Pairwise.filter _ hL.1, fun j hj => hL.2 j ((hFm j).1 hj).1⟩
  have hfr := fresh_ok L A hA.1 (by have := hA.len; omega) (by have := hL.len; omega)
  generalize hFe : freshL L A = F at hFm hF hfr
  have hFl := hF.len
  have hAl2 := hA.len
  have nxt : ∀ A2 : List Nat, Plc t.size A2 → (∀ j, j ∈ A2 ↔ j ∈ A ∨ j ∈ F) →
    ∃ A', Plc t.size A' ∧ (∀ j, j ∈ A' ↔ ∃ i, i ∈ l0 ∧ Star R i j) ∧ ∀ (N : Nat) (f : Nat → Int), isRow f A2 → A2.length ≤ N → L110_0 t A2.length F.length (rowF F) x.k x.s x.n x.m x.ps N f (ivF A') := by
   intro A2 hA2 hmem
   have g1 : ∀ j ∈ A2, ∃ i, i ∈ l0 ∧ Star R i j := fun j hj => by
    rcases (hmem j).1 hj with hj | hj
    ·exact h1 j hj
    ·obtain ⟨w, hw, hr⟩ := (hm j).1 ((hFm j).1 hj).1
     obtain ⟨i, hi, hs⟩ := h1 w (h2 w hw)
     exact ⟨i, hi, hs.tail hr⟩
   have g3 : ∀ j ∈ l0, j ∈ A2 := fun j hj => (hmem j).2 (.inl (h3 j hj))
   have g5 : ∀ j ∈ A2, j ∉ F → ∀ k, R j k → k ∈ A2 := fun j hj hjF k hk => by
    rcases (hmem j).1 hj with hj | hj
    ·by_cases hjW : j ∈ W
     ·by_cases hkA : k ∈ A
      ·exact (hmem k).2 (.inl hkA)
      ·exact (hmem k).2 (.inr ((hFm k).2 ⟨(hm k).2 ⟨j, hjW, hk⟩, hkA⟩))
     ·exact (hmem k).2 (.inl (h5 j hj hjW k hk))
    ·exact absurd hj hjF
   by_cases hF0 : F = []
   ·rw [hF0] at g5 ⊢
    exact fin A2 hA2 g1 g3 fun j hj k hk => g5 j hj (by simp) k hk
   ·refine ih A2 F ?_ hA2 hF g1 (fun j hj => (hmem j).2 (.inr hj)) g3 g5
    obtain ⟨w, hw⟩ := List.exists_mem_of_ne_nil F hF0
    have hwA := ((hFm w).1 hw).2
    have : holes t.size A2 < holes t.size A := cnt_lt _ (fun b _ hb => by
     simp only [Bool.not_eq_true', decide_eq_false_iff_not] at hb ⊢
     exact fun hbA => hb ((hmem b).2 (.inl hbA))) ⟨w, by have := hF.2 w hw; omega, by simpa using hwA, by simpa using (hmem w).2 (.inr hw)⟩
    omega
  have viaB : ∃ A', Plc t.size A' ∧ (∀ j, j ∈ A' ↔ ∃ i, i ∈ l0 ∧ Star R i j) ∧ ∃ r : Nat × Nat × (Nat → Int), Ok Proofs.Try.prog 109 [ivT A, ivT F] [] (.rf 1000 1 0 r.1) [(1000, 3, .ar r.2.1 1 (fun i => .sc (.int .i64 (r.2.2 i))))] ∧ L110_0 t r.1 F.length (rowF F) x.k x.s x.n x.m x.ps r.2.1 r.2.2 (ivF A') := by
   obtain ⟨c, c1, c2, c3, c4⟩ := both_ok A F hA.1 hF.1 (by omega)
   obtain ⟨A', a1, a2, a3⟩ := nxt c ⟨c2, fun j hj => by rcases (c1 j).1 hj with h | h; exact hA.2 j h; exact hF.2 j h⟩ c1
   exact ⟨A', a1, a2, (c.length, c.length, rowF c), c4, a3 _ _ (isRow_rowF c) (lr_ _)⟩
  have argA : ∀ (N : Nat) (f : Nat → Int), isRow f A → A.length ≤ N → Sub (.vec true 1 A.length (N - 0) (fun i => .sc (.int .i64 (f i)))) (ivT A) := fun N f hf hN => Sub.vec (lr_ _) (by omega) fun i hi => by rw [hf i hi]; rfl
  have call75 : Ok Proofs.Try.prog 75 [mkR true x.k x.s x.n x.m x.ps, .sc (.string t), ivF W] [] (ivF L) [] := Ok.args (ys := [.rc true x, .sc (.string t), ivF W]) ⟨hx.sub, Sub.refl _, Sub.refl _, trivial⟩ hok
  by_cases hF0 : F = []
  ·obtain ⟨A', a1, a2, r, r1, r2⟩ := viaB
   refine ⟨A', a1, a2, fun N f hf hN => ?_⟩
   apply r110_0
   refine ⟨fun _ => ⟨(L.length, rowF L), call75, (F.length, rowF F), ⟨by omega, Ok.args (ys := [ivT L, ivT A]) ⟨Sub.refl _, argA N f hf hN, trivial⟩ hfr⟩, fun h => ?_, fun _ => ⟨r, ⟨by omega, Ok.args (ys := [ivT A, ivT F]) ⟨argA N f hf hN, Sub.refl _, trivial⟩ r1⟩, r2⟩⟩, fun h => ?_⟩
   ·rw [hF0] at h; simp at h
   ·have := df_ h; omega
  ·have hFl0 : 0 < F.length := List.length_pos_iff.2 hF0
   by_cases hlast : A.getD (A.length - 1) 0 < F.getD 0 0
   ·have hAF : Plc t.size (A ++ F) := ⟨List.pairwise_append.2 ⟨hA.1, hF.1, fun a ha b hb => by
     obtain ⟨i, hi, rfl⟩ := mem_getD.1 ha
     obtain ⟨j, hj, rfl⟩ := mem_getD.1 hb
     have e1 : A.getD i 0 ≤ A.getD (A.length - 1) 0 := by
      by_cases he : i = A.length - 1
      ·rw [he]; exact lr_ _
      ·have := rise_get hA.1 (show i < A.length - 1 by omega) (by omega); omega
     have e2 : F.getD 0 0 ≤ F.getD j 0 := by
      by_cases he : j = 0
      ·rw [he]; exact lr_ _
      ·have := rise_get hF.1 (show 0 < j by omega) hj; omega
     omega⟩, fun j hj => by rcases ma_.1 hj with h | h; exact hA.2 j h; exact hF.2 j h⟩
    obtain ⟨A', a1, a2, a3⟩ := nxt (A ++ F) hAF (fun j => ma_)
    refine ⟨A', a1, a2, fun N f hf hN => ?_⟩
    apply r110_0
    have ew : (IntKind.i64.wrap ((A.length : Int) - 1)) = ((A.length - 1 : Nat) : Int) := by rw [wrap_i64 (by omega) (by omega)]; omega
    have ef : f (A.length - 1) = (A.getD (A.length - 1) 0 : Nat) := hf _ (by omega)
    rw [ew, tn_]
    refine ⟨fun _ => ⟨(L.length, rowF L), call75, (F.length, rowF F), ⟨by omega, Ok.args (ys := [ivT L, ivT A]) ⟨Sub.refl _, argA N f hf hN, trivial⟩ hfr⟩, fun _ => ⟨⟨by omega, by omega⟩, by omega, ⟨by omega, by show (0 : Int) < (F.length : Int); omega⟩, fun _ => ⟨⟨hN, by show (A.length + F.length) * 8 ≤ _; omega, by show A.length + F.length ≤ _; omega⟩, ?_⟩, fun h => ?_⟩, fun h => ?_⟩, fun h => ?_⟩
    ·have := a3 (A.length + F.length) (fun i => bif Nat.blt i A.length then f i else rowF F (i - A.length)) (isRow_app hf (isRow_rowF F)) (by rw [la_]; exact lr_ _)
     rw [la_] at this
     exact this
    ·have := df_ h
     rw [ef] at this
     have : ¬ ((A.getD (A.length - 1) 0 : Nat) : Int) < ((F.getD 0 0 : Nat) : Int) := this
     omega
    ·have := df_ (show decide ((F.length : Int) > 0) = false from h); omega
    ·have := df_ h; omega
   ·obtain ⟨A', a1, a2, r, r1, r2⟩ := viaB
    refine ⟨A', a1, a2, fun N f hf hN => ?_⟩
    apply r110_0
    have ew : (IntKind.i64.wrap ((A.length : Int) - 1)) = ((A.length - 1 : Nat) : Int) := by rw [wrap_i64 (by omega) (by omega)]; omega
    have ef : f (A.length - 1) = (A.getD (A.length - 1) 0 : Nat) := hf _ (by omega)
    rw [ew, tn_]
    refine ⟨fun _ => ⟨(L.length, rowF L), call75, (F.length, rowF F), ⟨by omega, Ok.args (ys := [ivT L, ivT A]) ⟨Sub.refl _, argA N f hf hN, trivial⟩ hfr⟩, fun _ => ⟨⟨by omega, by omega⟩, by omega, ⟨by omega, by show (0 : Int) < (F.length : Int); omega⟩, fun h => ?_, fun _ => ⟨r, ⟨by omega, Ok.args (ys := [ivT A, ivT F]) ⟨argA N f hf hN, Sub.refl _, trivial⟩ r1⟩, r2⟩⟩, fun h => ?_⟩, fun h => ?_⟩
    ·have := dt_ h
     rw [ef] at this
     have : ((A.getD (A.length - 1) 0 : Nat) : Int) < ((F.getD 0 0 : Nat) : Int) := this
     omega
    ·have := df_ (show decide ((F.length : Int) > 0) = false from h); omega
    ·have := df_ h; omega
theorem again_ok (t : ByteArray) (ht : t.size ≤ 1000000) (x : Rg) (hx : okN x) (R : Nat → Nat → Prop) (hE : EndsOk t x R) (l : List Nat) (hl : Plc t.size l) :
  ∃ l', Plc t.size l' ∧ (∀ j, j ∈ l' ↔ ∃ i, i ∈ l ∧ Star R i j) ∧ Ok Proofs.Try.prog 110 [.rc true x, .sc (.string t), ivF l] [] (ivF l') [] := by
 obtain ⟨A', a1, a2, a3⟩ := again_loop t ht x hx R hE l (holes t.size l + 1) l l (by omega) hl hl (fun j hj => ⟨j, hj, .refl j⟩) (fun j hj => hj) (fun j hj => hj) (fun j hj hn => absurd hj hn)
 have := hl.len
 exact ⟨A', a1, a2, o110 _ _ _ _ _ ⟨rfl, fun _ _ => trivial⟩ (r110_e _ _ _ _ _ ⟨(l.length, l.length, rowF l), clone_ok l (by omega), a3 _ _ (isRow_rowF l) (lr_ _)⟩)⟩
end Go.Am.Seat

namespace Go.Am.Seat
open Go Go.Am

def seqR (f : Nat → Nat → Nat → Prop) : Nat → Nat → Nat → Prop
 | 0, i, j => i = j
 | n + 1, i, j => ∃ m, seqR f n i m ∧ f n m j
def matchG (t : ByteArray) : Rg → Nat → Nat → Prop
 | .no => fun _ _ => False
 | .mk k s n _ ps => fun i j =>
  if k = 1 then i = j else if k = 2 then i < t.size ∧ j = i + 1 ∧ hasS s (byteAt t i).toNat = true
  else if k = 3 then seqR (fun c => matchG t (ps c)) n i j
  else if k = 4 then ∃ c, c < n ∧ matchG t (ps c) i j
  else if k = 7 then i = j ∨ matchG t (ps 0) i j
  else if k = 6 then ∃ m, matchG t (ps 0) i m ∧ Star (matchG t (ps 0)) m j
  else if k = 5 then Star (matchG t (ps 0)) i j else False
theorem both_fix (a b : List Nat) (ra : Rise a) (rb : Rise b) (hl : a.length + b.length ≤ 1099511627776) : ∃ c, (∀ x, x ∈ c ↔ x ∈ a ∨ x ∈ b) ∧ Rise c ∧ Ok Proofs.Try.prog 109 [ivT a, ivT b] [] (ivF c) [] := by
 obtain ⟨c, h1, h2, h3, h4⟩ := both_ok a b ra rb hl
 refine ⟨c, h1, h2, Ok.fixed h4 rfl ?_ ⟨rfl, fun _ _ => trivial⟩⟩
 exact ⟨⟨by omega, Sub.vec (f := fun i => AV.sc (Value.int IntKind.i64 (rowF c (plus 0 i)))) (lr_ _) (by omega) fun i _ => rfl, trivial⟩, trivial⟩
theorem iv_args {x : Rg} (hx : okN x) {t : ByteArray} {l : List Nat} {res : AV} (h : Ok Proofs.Try.prog 75 [.rc true x, .sc (.string t), ivF l] [] res []) : Ok Proofs.Try.prog 75 [mkR true x.k x.s x.n x.m x.ps, .sc (.string t), ivF l] [] res [] :=
 Ok.args (ys := [.rc true x, .sc (.string t), ivF l]) ⟨hx.sub, Sub.refl _, Sub.refl _, trivial⟩ h
def stepL (c : Nat → Bool) (l : List Nat) : List Nat := (l.filter c).map (· + 1)
theorem stepL_mem {c : Nat → Bool} {l : List Nat} {j : Nat} : j ∈ stepL c l ↔ ∃ i, i ∈ l ∧ c i = true ∧ j = i + 1 := by
 unfold stepL
 simp only [List.mem_map, List.mem_filter]
 constructor
 ·rintro ⟨i, ⟨h1, h2⟩, rfl⟩; exact ⟨i, h1, h2, rfl⟩
 ·rintro ⟨i, h1, h2, rfl⟩; exact ⟨i, ⟨h1, h2⟩, rfl⟩
theorem stepL_rise {c : Nat → Bool} {l : List Nat} (h : Rise l) : Rise (stepL c l) := by
 unfold stepL
 rw [Rise, List.pairwise_map]
 exact (List.Pairwise.filter c h).imp fun h => by omega
theorem set_loop2 (t : ByteArray) (ht : t.size ≤ 1000000) (k : Int) (s : Nat → Int) (hst : ∀ i, i < 4 → 0 ≤ s i ∧ s i < 18446744073709551616) (n m : Nat) (ps : Nat → Rg) (l : List Nat) (hl : Plc t.size l) (c : Nat → Bool) (hc : c = fun v => decide (v < t.size) && hasS s (byteAt t v).toNat) :
  ∀ q i, i + q = l.length → ∀ (N : Nat) (f : Nat → Int), isRow f (stepL c (l.take i)) → (stepL c (l.take i)).length ≤ N →
  L75_0 t (stepL c (l.take i)).length l.length (rowF l) (l.length : Int) (i : Int) k s n m ps N f (ivF (stepL c l)) := by
 have hmx : 140737488355328 ≤ maxLen := by decide
 have hll := hl.len
 intro q
 induction q with
 | zero =>
  intro i hi N f hf hN
  obtain rfl : i = l.length := by omega
  rw [List.take_length] at hf hN ⊢
  apply r75_0
  refine ⟨fun h => by have := dt_ h; omega, fun _ => ⟨⟨by omega, Sub.vec (lr_ _) (by omega) fun i hi => rfl⟩, r75_4 _ _ _ ?_⟩⟩
  exact iv_fix hf (lr_ _)
 | succ q ih =>
  intro i hi N f hf hN
  have hlen : (stepL c (l.take i)).length ≤ i := by
   have := List.length_filter_le c (l.take i)
   rw [lt_] at this
   unfold stepL; rw [List.length_map]; omega
  have hv : l.getD i 0 ≤ t.size := hl.2 _ (mem_getD.2 ⟨i, by omega, rfl⟩)
  have hrv : rowF l i = (l.getD i 0 : Nat) := rfl
  have htk : stepL c (l.take (i + 1)) = stepL c (l.take i) ++ (if c (l.getD i 0) = true then [l.getD i 0 + 1] else []) := by
   have e : l.take (i + 1) = l.take i ++ [l.getD i 0] := by
    rw [List.take_add_one, ge_ (by omega), gd_, ge_ (by omega)]
    rfl
   unfold stepL
   rw [e, List.filter_append, List.map_append]
   congr 1
   simp only [List.filter_cons, List.filter_nil]
   split <;> rfl
  generalize l.getD i 0 = v at hv hrv htk
  have skip : c v = false → L75_1 t (stepL c (l.take i)).length l.length (rowF l) (l.length : Int) (i : Int) k s n m ps N f (ivF (stepL c l)) := by
   intro hcv
   apply r75_1
   rw [wrapSucc (n := i) (by omega)]
   rw [hcv, if_neg (by simp), List.append_nil] at htk
   have := ih (i + 1) (by omega) N f (by rw [htk]; exact hf) (by rw [htk]; exact hN)
   rw [htk] at this
   exact this
  apply r75_0
  rw [tn_, hrv]
  refine ⟨fun _ => ⟨⟨by omega, by omega⟩, fun hvs => ?_, fun hvs => ?_⟩, fun h => by have := df_ h; omega⟩
  ·have hvs := dt_ hvs
   rw [tn_]
   have hb : (byteAt t v).toNat < 256 := (byteAt t v).toNat_lt
   refine ⟨⟨by omega, by omega⟩, hasS s (byteAt t v).toNat, Ok.args (ys := [setA (hasS s), .sc (.int .u8 ((byteAt t v).toNat : Int))]) ⟨Sub.ar fun i hi => ?_, Sub.refl _, trivial⟩ (has_ok (hasS s) _ hb), fun hh => ?_, fun hh => ?_⟩
   ·rw [word_hasS (hst i hi).1 (hst i hi).2]
   ·have hcv : c v = true := by rw [hc]; simp only [hh, Bool.and_true, decide_eq_true_eq]; omega
    rw [hcv, if_pos rfl] at htk
    refine ⟨⟨hN, by omega, by omega⟩, ?_⟩
    apply r75_1
    rw [wrapSucc (n := i) (by omega), wrapSucc (n := v) (by omega)]
    have := ih (i + 1) (by omega) ((stepL c (l.take i)).length + 1) (fun j => bif Nat.blt j (stepL c (l.take i)).length then f j else ((v + 1 : Nat) : Int)) (by rw [htk]; exact isRow_pushI rfl hf) (by rw [htk, la_]; exact lr_ _)
    rw [htk, la_] at this
    exact this
   ·exact skip (by rw [hc]; simp only [hh, Bool.and_false])
  ·have hvs := df_ (show decide ((v : Int) < (t.size : Int)) = false from hvs)
   exact skip (by rw [hc]; simp only [Bool.and_eq_false_iff, decide_eq_false_iff_not]; left; omega)
theorem ends_ok (t : ByteArray) (ht : t.size ≤ 1000000) : ∀ x, okN x → mayG x = true → EndsOk t x (matchG t x) := by
 intro x
 induction x with
 | no => exact fun h => h.elim
 | mk k s n m ps ih =>
  intro hx hmay l hl
  have hbig := hx.big
  simp only [Rg.n] at hbig
  have hps := fun i (hi : i < n) => okN.ps hx (i := i) hi
  simp only [Rg.ps] at hps
  have hst := fun i (hi : i < 4) => okN.st hx (i := i) hi
  simp only [Rg.s] at hst
  have hll := hl.len
  rw [mayG, ba_, ba_] at hmay
  obtain ⟨⟨hk, _⟩, hall⟩ := hmay
  have hEi := fun i (hi : i < n) => ih i (hps i hi) (allF_true.1 hall i hi)
  have hnw : newOnly (ivF l) := ⟨rfl, fun _ _ => trivial⟩
  by_cases k1 : k = 1
  ·refine ⟨l, hl, fun j => ?_, o75 _ _ _ _ _ hnw (r75_e _ _ _ _ _ ⟨fun _ => Sub.refl _, fun h => ?_⟩)⟩
   ·simp only [matchG, if_pos k1]
    exact ⟨fun h => ⟨j, h, rfl⟩, fun ⟨i, hi, e⟩ => e ▸ hi⟩
   ·rw [show (Rg.mk k s n m ps).k = k from rfl, k1] at h; simp at h
  by_cases k2 : k = 2
  ·have hr := set_loop2 t ht k s hst n m ps l hl _ rfl l.length 0 (by omega) 0 (fun _ => Int.ofNat 0) (isRow_nil _) (lr_ _)
   refine ⟨stepL (fun v => decide (v < t.size) && hasS s (byteAt t v).toNat) l, ⟨stepL_rise hl.1, fun j hj => ?_⟩, fun j => ?_, o75 _ _ _ _ _ ⟨rfl, fun _ _ => trivial⟩ (r75_e _ _ _ _ _ ?_)⟩
   ·obtain ⟨i, _, h2, rfl⟩ := stepL_mem.1 hj
    rw [ba_, decide_eq_true_eq] at h2; omega
   ·simp only [matchG, if_neg k1, if_pos k2, stepL_mem, ba_, decide_eq_true_eq]
    exact ⟨fun ⟨i, a, b, c⟩ => ⟨i, a, b.1, c, b.2⟩, fun ⟨i, a, b, c, d⟩ => ⟨i, a, ⟨b, d⟩, c⟩⟩
   ·simp only [Rg.k, Rg.s, Rg.n, Rg.m, Rg.ps]
    have e1 : (k == 1) = false := by simpa using k1
    have e2 : (k == 2) = true := by simpa using k2
    refine ⟨fun h => ?_, fun _ => ⟨fun _ => hr, fun h => ?_⟩⟩
    ·rw [e1] at h; cases h
    ·rw [e2] at h; cases h
  have e1 : (k == 1) = false := by simpa using k1
  have e2 : (k == 2) = false := by simpa using k2
  by_cases k3 : k = 3
  ·have e3 : (k == 3) = true := by simpa using k3
   have loop : ∀ q i, i + q = n → ∀ l', Plc t.size l' → (∀ j, j ∈ l' ↔ ∃ a, a ∈ l ∧ seqR (fun c => matchG t (ps c)) i a j) →
     ∃ l'', Plc t.size l'' ∧ (∀ j, j ∈ l'' ↔ ∃ a, a ∈ l ∧ seqR (fun c => matchG t (ps c)) n a j) ∧ L75_2 t l'.length (rowF l') n m ps (n : Int) (i : Int) (ivF l'') := by
    intro q
    induction q with
    | zero =>
     intro i hi l' hl' hm
     obtain rfl : i = n := by omega
     exact ⟨l', hl', hm, r75_2 _ _ _ _ _ _ _ _ _ ⟨fun h => by have := dt_ h; omega, fun _ => r75_4 _ _ _ (Sub.refl _)⟩⟩
    | succ q ihq =>
     intro i hi l' hl' hm
     obtain ⟨L, hL, hLm, hok⟩ := hEi i (by omega) l' hl'
     obtain ⟨l'', g1, g2, g3⟩ := ihq (i + 1) (by omega) L hL (fun j => by
      rw [hLm]
      constructor
      ·rintro ⟨b, hb, hr⟩
       obtain ⟨a, ha, hs⟩ := (hm b).1 hb
       exact ⟨a, ha, b, hs, hr⟩
      ·rintro ⟨a, ha, b, hs, hr⟩
       exact ⟨b, (hm b).2 ⟨a, ha, hs⟩, hr⟩)
     refine ⟨l'', g1, g2, r75_2 _ _ _ _ _ _ _ _ _ ?_⟩
     rw [wrapSucc (n := i) (by omega), tn_]
     exact ⟨fun _ => ⟨⟨by omega, by omega⟩, (L.length, rowF L), iv_args (hps i (by omega)) hok, g3⟩, fun h => by have := df_ h; omega⟩
   obtain ⟨l'', g1, g2, g3⟩ := loop n 0 (by omega) l hl (fun j => ⟨fun h => ⟨j, h, rfl⟩, fun ⟨a, ha, e⟩ => e ▸ ha⟩)
   refine ⟨l'', g1, fun j => ?_, o75 _ _ _ _ _ ⟨rfl, fun _ _ => trivial⟩ (r75_e _ _ _ _ _ ?_)⟩
   ·simp only [matchG, if_neg k1, if_neg k2, if_pos k3]; exact g2 j
   ·simp only [Rg.k, Rg.s, Rg.n, Rg.m, Rg.ps, e1, e2, e3]
    exact ⟨(fun h => by cases h), fun _ => ⟨(fun h => by cases h), fun _ => ⟨fun _ => g3, (fun h => by cases h)⟩⟩⟩
  have e3 : (k == 3) = false := by simpa using k3
  by_cases k4 : k = 4
  ·have e4 : (k == 4) = true := by simpa using k4
   have loop : ∀ q i, i + q = n → ∀ l', Plc t.size l' → (∀ j, j ∈ l' ↔ ∃ a, a ∈ l ∧ ∃ c, c < i ∧ matchG t (ps c) a j) →
     ∃ l'', Plc t.size l'' ∧ (∀ j, j ∈ l'' ↔ ∃ a, a ∈ l ∧ ∃ c, c < n ∧ matchG t (ps c) a j) ∧ L75_3 t l.length (rowF l) l'.length (rowF l') n m ps (n : Int) (i : Int) (ivF l'') := by
    intro q
    induction q with
    | zero =>
     intro i hi l' hl' hm
     obtain rfl : i = n := by omega
     exact ⟨l', hl', hm, r75_3 _ _ _ _ _ _ _ _ _ _ _ ⟨fun h => by have := dt_ h; omega, fun _ => r75_4 _ _ _ (Sub.refl _)⟩⟩
    | succ q ihq =>
     intro i hi l' hl' hm
     have := hl'.len
     obtain ⟨L, hL, hLm, hok⟩ := hEi i (by omega) l hl
     have := hL.len
     obtain ⟨c, c1, c2, c3⟩ := both_fix l' L hl'.1 hL.1 (by omega)
     obtain ⟨l'', g1, g2, g3⟩ := ihq (i + 1) (by omega) c ⟨c2, fun j hj => by rcases (c1 j).1 hj with h | h; exact hl'.2 j h; exact hL.2 j h⟩ (fun j => by
      rw [c1, hm, hLm]
      constructor
      ·rintro (⟨a, ha, c, hc, hr⟩ | ⟨a, ha, hr⟩)
       ·exact ⟨a, ha, c, by omega, hr⟩
       ·exact ⟨a, ha, i, by omega, hr⟩
      ·rintro ⟨a, ha, c, hc, hr⟩
       by_cases he : c = i
       ·subst he; exact .inr ⟨a, ha, hr⟩
       ·exact .inl ⟨a, ha, c, by omega, hr⟩)
     refine ⟨l'', g1, g2, r75_3 _ _ _ _ _ _ _ _ _ _ _ ?_⟩
     rw [wrapSucc (n := i) (by omega), tn_]
     exact ⟨fun _ => ⟨⟨by omega, by omega⟩, (L.length, rowF L), iv_args (hps i (by omega)) hok, (c.length, rowF c), c3, g3⟩, fun h => by have := df_ h; omega⟩
   obtain ⟨l'', g1, g2, g3⟩ := loop n 0 (by omega) [] ⟨List.Pairwise.nil, by simp⟩ (fun j => ⟨(fun h => by cases h), fun ⟨a, ha, c, hc, _⟩ => by omega⟩)
   refine ⟨l'', g1, fun j => ?_, o75 _ _ _ _ _ ⟨rfl, fun _ _ => trivial⟩ (r75_e _ _ _ _ _ ?_)⟩
   ·simp only [matchG, if_neg k1, if_neg k2, if_neg k3, if_pos k4]; exact g2 j
   ·simp only [Rg.k, Rg.s, Rg.n, Rg.m, Rg.ps, e1, e2, e3, e4]
    exact ⟨(fun h => by cases h), fun _ => ⟨(fun h => by cases h), fun _ => ⟨(fun h => by cases h), fun _ => ⟨fun _ => ⟨Sub.of_R RSub.nilvec rfl trivial trivial, g3⟩, (fun h => by cases h)⟩⟩⟩⟩
  have e4 : (k == 4) = false := by simpa using k4
  have hn1 : k = 5 ∨ k = 6 ∨ k = 7 → n = 1 := fun h => by
   rw [okK, if_neg (by omega), if_neg (by omega), if_pos h] at hk
   simpa using hk
  by_cases k7 : k = 7
  ·have e7 : (k == 7) = true := by simpa using k7
   have hn := hn1 (by omega)
   obtain ⟨L, hL, hLm, hok⟩ := hEi 0 (by omega) l hl
   have := hL.len
   obtain ⟨c, c1, c2, c3⟩ := both_fix l L hl.1 hL.1 (by omega)
   refine ⟨c, ⟨c2, fun j hj => by rcases (c1 j).1 hj with h | h; exact hl.2 j h; exact hL.2 j h⟩, fun j => ?_, o75 _ _ _ _ _ ⟨rfl, fun _ _ => trivial⟩ (r75_e _ _ _ _ _ ?_)⟩
   ·simp only [matchG, if_neg k1, if_neg k2, if_neg k3, if_neg k4, if_pos k7, c1, hLm]
    constructor
    ·rintro (h | ⟨i, hi, hr⟩)
     ·exact ⟨j, h, .inl rfl⟩
     ·exact ⟨i, hi, .inr hr⟩
    ·rintro ⟨i, hi, rfl | hr⟩
     ·exact .inl hi
     ·exact .inr ⟨i, hi, hr⟩
   ·simp only [Rg.k, Rg.s, Rg.n, Rg.m, Rg.ps, e1, e2, e3, e4, e7]
    exact ⟨(fun h => by cases h), fun _ => ⟨(fun h => by cases h), fun _ => ⟨(fun h => by cases h), fun _ => ⟨(fun h => by cases h), fun _ => ⟨fun _ => ⟨⟨by omega, by omega⟩, (L.length, rowF L), hok, (c.length, rowF c), c3, Sub.refl _⟩, (fun h => by cases h)⟩⟩⟩⟩⟩
  have e7 : (k == 7) = false := by simpa using k7
  by_cases k6 : k = 6
  ·have e6 : (k == 6) = true := by simpa using k6
   have hn := hn1 (by omega)
   obtain ⟨L, hL, hLm, hok⟩ := hEi 0 (by omega) l hl
   obtain ⟨c, c1, c2, c3⟩ := again_ok t ht (ps 0) (hps 0 (by omega)) _ (hEi 0 (by omega)) L hL
   refine ⟨c, c1, fun j => ?_, o75 _ _ _ _ _ ⟨rfl, fun _ _ => trivial⟩ (r75_e _ _ _ _ _ ?_)⟩
   ·simp only [matchG, if_neg k1, if_neg k2, if_neg k3, if_neg k4, if_neg k7, if_pos k6, c2, hLm]
    constructor
    ·rintro ⟨b, ⟨a, ha, hr⟩, hs⟩; exact ⟨a, ha, b, hr, hs⟩
    ·rintro ⟨a, ha, b, hr, hs⟩; exact ⟨b, ⟨a, ha, hr⟩, hs⟩
   ·simp only [Rg.k, Rg.s, Rg.n, Rg.m, Rg.ps, e1, e2, e3, e4, e7, e6]
    exact ⟨(fun h => by cases h), fun _ => ⟨(fun h => by cases h), fun _ => ⟨(fun h => by cases h), fun _ => ⟨(fun h => by cases h), fun _ => ⟨(fun h => by cases h), fun _ => ⟨fun _ => ⟨⟨by omega, by omega⟩, (L.length, rowF L), hok, (c.length, rowF c), c3, Sub.refl _⟩, (fun h => by cases h)⟩⟩⟩⟩⟩⟩
  have e6 : (k == 6) = false := by simpa using k6
  by_cases k5 : k = 5
  ·have e5 : (k == 5) = true := by simpa using k5
   have hn := hn1 (by omega)
   obtain ⟨c, c1, c2, c3⟩ := again_ok t ht (ps 0) (hps 0 (by omega)) _ (hEi 0 (by omega)) l hl
   refine ⟨c, c1, fun j => ?_, o75 _ _ _ _ _ ⟨rfl, fun _ _ => trivial⟩ (r75_e _ _ _ _ _ ?_)⟩
   ·simp only [matchG, if_neg k1, if_neg k2, if_neg k3, if_neg k4, if_neg k7, if_neg k6, if_pos k5, c2]
   ·simp only [Rg.k, Rg.s, Rg.n, Rg.m, Rg.ps, e1, e2, e3, e4, e7, e6, e5]
    exact ⟨(fun h => by cases h), fun _ => ⟨(fun h => by cases h), fun _ => ⟨(fun h => by cases h), fun _ => ⟨(fun h => by cases h), fun _ => ⟨(fun h => by cases h), fun _ => ⟨(fun h => by cases h), fun _ => ⟨fun _ => ⟨⟨by omega, by omega⟩, (c.length, rowF c), c3, Sub.refl _⟩, (fun h => by cases h)⟩⟩⟩⟩⟩⟩⟩
  have e5 : (k == 5) = false := by simpa using k5
  refine ⟨[], ⟨List.Pairwise.nil, by simp⟩, fun j => ?_, o75 _ _ _ _ _ ⟨rfl, fun _ _ => trivial⟩ (r75_e _ _ _ _ _ ?_)⟩
  ·simp only [matchG, if_neg k1, if_neg k2, if_neg k3, if_neg k4, if_neg k7, if_neg k6, if_neg k5]
   exact ⟨(fun h => by cases h), fun ⟨i, _, h⟩ => h.elim⟩
  ·simp only [Rg.k, Rg.s, Rg.n, Rg.m, Rg.ps, e1, e2, e3, e4, e7, e6, e5]
   exact ⟨(fun h => by cases h), fun _ => ⟨(fun h => by cases h), fun _ => ⟨(fun h => by cases h), fun _ => ⟨(fun h => by cases h), fun _ => ⟨(fun h => by cases h), fun _ => ⟨(fun h => by cases h), fun _ => ⟨(fun h => by cases h), fun _ => ⟨Sub.of_R RSub.nilvec rfl trivial trivial, r75_4 _ _ _ (Sub.vec (lr_ _) (lr_ _) fun i hi => (Nat.not_lt_zero i hi).elim)⟩⟩⟩⟩⟩⟩⟩⟩

noncomputable def wholeB (t : ByteArray) (x : Rg) : Bool := cdec (matchG t x 0 t.size)
noncomputable def matG (t : ByteArray) (x : Rg) : Bool × Nat := if chkG x = 0 then (if 65536 < t.size then (false, 3) else (wholeB t x, 0)) else (false, chkG x)
theorem chkG_zero {x : Rg} (h : chkG x = 0) : cntG x ≤ 512 ∧ depG x ≤ 16 ∧ mayG x = true := by
 unfold chkG at h
 split at h
 ·cases h
 ·split at h
  ·cases h
  ·split at h
   ·exact ⟨by omega, by omega, by assumption⟩
   ·cases h
theorem matches_ok (t : ByteArray) (x : Rg) (hx : okN x) : Ok Proofs.Try.prog 40 [.rc true x, .sc (.string t)] [] (AV.cons 1 (.sc (.bool (matG t x).1)) (.cons 1 (.sc (.int .i64 ((matG t x).2 : Int))) .nil)).tup [] := by
 refine o40 _ _ _ ⟨trivial, trivial, trivial⟩ (r40_e _ _ _ ⟨_, Ok.rc hx (regCheck_ok x hx), fun h => ?_, fun h => ?_⟩)
 ·have hc : ¬ chkG x = 0 := fun hc => by rw [hc] at h; simp at h
  rw [matG, if_neg hc]
  exact Sub.refl _
 ·have hc : chkG x = 0 := by have := (bne_eq_false_iff_eq).1 h; omega
  refine ⟨fun h2 => ?_, fun h2 => ?_⟩
  ·have := dt_ h2
   rw [matG, if_pos hc, if_pos (by omega)]
   exact Sub.refl _
  ·have h3 := df_ h2
   rw [matG, if_pos hc, if_neg (by omega)]
   obtain ⟨l, hl, hm, hok⟩ := ends_ok t (by omega) x hx (chkG_zero hc).2.2 [0] ⟨List.pairwise_singleton _ _, fun x hx => by rw [ms_.1 hx]; omega⟩
   have hll := hl.len
   have hw : t.size ∈ l ↔ matchG t x 0 t.size := by
    rw [hm]
    constructor
    ·rintro ⟨i, hi, hr⟩; rw [ms_.1 hi] at hr; exact hr
    ·exact fun hr => ⟨0, ms_.2 rfl, hr⟩
   refine ⟨(l.length, rowF l), Ok.args (ys := [.rc true x, .sc (.string t), ivF [0]]) ⟨hx.sub, Sub.refl _, Sub.vec (lr_ _) (lr_ _) fun i hi => ?_, trivial⟩ hok, fun h4 => ?_, fun h4 => ?_⟩
   ·have hi : i < 1 := hi
    obtain rfl : i = 0 := by omega
    rfl
   ·have h5 := dt_ (show decide ((l.length : Int) > 0) = true from h4)
    have ew : (IntKind.i64.wrap ((l.length : Int) - 1)) = ((l.length - 1 : Nat) : Int) := by rw [wrap_i64 (by omega) (by omega)]; omega
    dsimp only
    rw [ew, tn_]
    refine ⟨⟨by omega, by omega⟩, ?_⟩
    have e : (rowF l (l.length - 1) == (t.size : Int)) = wholeB t x := by
     unfold wholeB
     rw [Bool.eq_iff_iff, cdec_true, ← hw, beq_iff_eq]
     have hr : rowF l (l.length - 1) = (l.getD (l.length - 1) 0 : Nat) := rfl
     rw [hr]
     constructor
     ·intro h6
      exact mem_getD.2 ⟨l.length - 1, by omega, by omega⟩
     ·intro h6
      obtain ⟨i, hi, h7⟩ := mem_getD.1 h6
      by_cases he : i = l.length - 1
      ·rw [← he, h7]
      ·have h8 := rise_get hl.1 (show i < l.length - 1 by omega) (by omega)
       have h9 := hl.2 _ (mem_getD.2 ⟨l.length - 1, by omega, rfl⟩)
       omega
    rw [e]
    exact Sub.refl _
   ·have h5 := df_ (show decide ((l.length : Int) > 0) = false from h4)
    have hl0 : l = [] := List.length_eq_zero_iff.1 (by omega)
    have e : wholeB t x = false := by
     unfold wholeB
     rw [cdec_false, ← hw, hl0]
     simp
    rw [e]
    exact Sub.refl _
end Go.Am.Seat

namespace Go.Am.Seat
open Go Go.Am
set_option maxRecDepth 20000

theorem hasS_one {b c : Nat} (hc : c < 256) : hasS (oneS b) c = (c == b) := by
 have h := word_hasS (s := oneS b) (i := c / 64) (Int.natCast_nonneg _) (Int.ofNat_lt.2 (word_lt _ _))
 have h2 : ∀ i, i < 4 → word (hasS (oneS b)) i = word (fun c => c == b) i := fun i _ => by
  have h := word_hasS (s := oneS b) (i := i) (Int.natCast_nonneg _) (Int.ofNat_lt.2 (word_lt _ _))
  exact Int.ofNat.inj h
 exact word_inj h2 c hc
theorem membL_congr {p q : Nat → Bool} (h : ∀ b, b < 256 → p b = q b) : membL p 256 = membL q 256 := by
 unfold membL
 exact List.filter_congr fun x hx => h x (List.mem_range.1 hx)
theorem one_told (b : Nat) (hb : b < 256) (h1 : cnt 256 (fun c => c == b) = 1) (h2 : membL (fun c => c == b) 256 = [b]) : toldL (oneG b) = oneT b := by
 unfold oneG
 rw [toldL, if_neg (by omega), if_pos rfl, singL, if_neg, cnt_congr (q := fun c => c == b) (fun k hk => hasS_one hk), if_pos h1, membL_congr (q := fun c => c == b) (fun k hk => hasS_one hk), h2]
 ·rfl
 ·intro h
  have a0 := h 0 (by omega)
  have a1 := h 1 (by omega)
  rw [hasS_one (by omega)] at a0 a1
  simp [dotP] at a0 a1
  omega
theorem told97 : toldL (oneG 97) = [97] := one_told 97 (by omega) (by decide +kernel) (by decide +kernel)
theorem told98 : toldL (oneG 98) = [98] := one_told 98 (by omega) (by decide +kernel) (by decide +kernel)
theorem told_star98 : toldL (starG (oneG 98)) = [98, 42] := by
 unfold starG
 rw [toldL, if_neg (by omega), if_neg (by omega)]
 simp only [catF, told98]
 decide
theorem told_ab : toldL abG = [97, 98, 42] := by
 unfold abG
 rw [toldL, if_neg (by omega), if_neg (by omega)]
 have e0 : abF 0 = oneG 97 := rfl
 have e1 : abF 1 = starG (oneG 98) := rfl
 simp only [catF, e0, e1, told97, told_star98]
 decide
theorem may_one (b : Nat) : mayG (oneG b) = true := by
 unfold oneG; rw [mayG]; rfl
theorem may_star (x : Rg) (hx : mayG x = true) : mayG (starG x) = true := by
 unfold starG; rw [mayG]
 rw [cdec_true.2 (fun _ _ => rfl)]
 simp only [allF, hx]
 decide
theorem may_ab : mayG abG = true := by
 unfold abG; rw [mayG]
 rw [cdec_true.2 (fun _ _ => rfl)]
 have e0 : abF 0 = oneG 97 := rfl
 have e1 : abF 1 = starG (oneG 98) := rfl
 simp only [allF, e0, e1, may_one, may_star _ (may_one 98)]
 decide
theorem cnt_ab : cntG abG = 4 := by decide
theorem dep_ab : depG abG = 3 := by decide
theorem chk_ab : chkG abG = 0 := by
 rw [chkG, cnt_ab, dep_ab, may_ab]; rfl
theorem prt_ab : prtG abG = ([97, 98, 42], 0) := by
 rw [prtG, if_pos chk_ab, told_ab]; rfl
def sC : ByteArray := ⟨#[97, 98, 98]⟩
def sD : ByteArray := ⟨#[98, 97]⟩
theorem matchG_eq (t : ByteArray) (k : Int) (s : Nat → Int) (n m : Nat) (ps : Nat → Rg) (i j : Nat) : matchG t (.mk k s n m ps) i j =
  (if k = 1 then i = j else if k = 2 then i < t.size ∧ j = i + 1 ∧ hasS s (byteAt t i).toNat = true
  else if k = 3 then seqR (fun c => matchG t (ps c)) n i j
  else if k = 4 then ∃ c, c < n ∧ matchG t (ps c) i j
  else if k = 7 then i = j ∨ matchG t (ps 0) i j
  else if k = 6 then ∃ m, matchG t (ps 0) i m ∧ Star (matchG t (ps 0)) m j
  else if k = 5 then Star (matchG t (ps 0)) i j else False) := rfl
theorem match_one (t : ByteArray) (b i j : Nat) : matchG t (oneG b) i j ↔ i < t.size ∧ j = i + 1 ∧ ((byteAt t i).toNat == b) = true := by
 unfold oneG
 rw [matchG_eq, if_neg (by omega), if_pos rfl, hasS_one (byteAt t i).toNat_lt]
theorem match_yes : matchG sC abG 0 3 := by
 unfold abG
 rw [matchG_eq, if_neg (by omega), if_neg (by omega), if_pos rfl]
 refine ⟨1, ⟨0, rfl, (match_one _ _ _ _).2 (by decide)⟩, ?_⟩
 show matchG sC (starG (oneG 98)) 1 3
 unfold starG
 rw [matchG_eq, if_neg (by omega), if_neg (by omega), if_neg (by omega), if_neg (by omega), if_neg (by omega), if_neg (by omega), if_pos rfl]
 exact .tail (.tail (.refl 1) ((match_one sC 98 1 2).2 (by decide))) ((match_one sC 98 2 3).2 (by decide))
theorem match_no : ¬ matchG sD abG 0 2 := by
 unfold abG
 rw [matchG_eq, if_neg (by omega), if_neg (by omega), if_pos rfl]
 rintro ⟨m, ⟨m', rfl, h⟩, _⟩
 have h : matchG sD (oneG 97) 0 m := h
 have := ((match_one sD 97 0 m).1 h).2.2
 revert this; decide
theorem mat_yes : matG sC abG = (true, 0) := by
 rw [matG, if_pos chk_ab, if_neg (by decide), wholeB, cdec_true.2]
 exact match_yes
theorem mat_no : matG sD abG = (false, 0) := by
 rw [matG, if_pos chk_ab, if_neg (by decide), wholeB, cdec_false.2]
 exact match_no
theorem alive5_ok : Ok Proofs.Try.prog 46 [] [] (.sc (.bool true)) [] := by
 have h1 : Ok Proofs.Try.prog 51 [.rc true abG] [] (AV.cons 1 (.sc (.string (str [97, 98, 42]))) (.cons 1 (.sc (.int .i64 0)) .nil)).tup [] := by
  have := print_reg abG okN_ab
  rw [prt_ab] at this
  exact this
 have h2 : Ok Proofs.Try.prog 40 [.rc true abG, .sc (.string sC)] [] (AV.cons 1 (.sc (.bool true)) (.cons 1 (.sc (.int .i64 0)) .nil)).tup [] := by
  have := matches_ok sC abG okN_ab
  rw [mat_yes] at this
  exact this
 have h3 : Ok Proofs.Try.prog 40 [.rc true abG, .sc (.string sD)] [] (AV.cons 1 (.sc (.bool false)) (.cons 1 (.sc (.int .i64 0)) .nil)).tup [] := by
  have := matches_ok sD abG okN_ab
  rw [mat_no] at this
  exact this
 have h4 : Ok Proofs.Try.prog 44 [.rc true abG] [] (.sc (.int .i64 4)) [] := by
  have := size_ok abG okN_ab
  rw [cnt_ab] at this
  exact this
 refine o46 _ trivial (r46_e _ ⟨(abG1, 0, 0), parseA, oneG 97, set1_ok 97 (by omega), oneG 98, set1_ok 98 (by omega), ?_, ?_⟩)
 ·refine SubB.of_R rfl (.cons (.refl _) (.cons (.refl _) (.cons (RSub.vec id (lr_ _) (lr_ _) fun i hi => ?_) (.refl _))))
  rw [AV.pick_eq, AV.pick_eq]
  cases Nat.beq i 1 with
  | true => exact RSub.mkR false 5 (fun _ => 0) 1 1 (fun _ => oneG 98)
  | false =>
   cases Nat.beq i 0 with
   | true => exact RSub.refl _
   | false => exact RSub.mk0 false 0 (fun _ => 0)
 ·apply r46_0
  refine ⟨(str [97, 98, 42], 0), Ok.rc okN_ab h1, (true, 0), Ok.rc okN_ab h2, (false, 0), Ok.rc okN_ab h3, (nilG, 1, 50), parseB, ?_⟩
  apply r46_1
  have hs : Ok Proofs.Try.prog 89 [mkR true abG1.k abG1.s abG1.n abG1.m abG1.ps, mkR true abG.k abG.s abG.n abG.m abG.ps] [] (.sc (.bool true)) [] :=
   Ok.args (ys := [.rc true abG1, .rc true abG]) ⟨okN_ab1.sub, okN_ab.sub, trivial⟩ (same_ok abG1 abG okN_ab1 eq_ab)
  have hst : ((str [97, 98, 42]).toList == (ByteArray.mk #[97, 98, 42]).toList) = true := by
   have : str [97, 98, 42] = ByteArray.mk #[97, 98, 42] := rfl
   rw [this]; exact beq_self_eq_true _
  refine ⟨fun _ => ⟨true, hs, fun _ => ⟨fun _ => ⟨fun _ => ⟨fun _ => ⟨fun _ => ⟨fun _ => ⟨fun _ => ⟨fun _ => ⟨fun _ => ⟨4, Ok.rc okN_ab h4, Sub.refl _⟩, fun h => absurd h (by decide)⟩, fun h => absurd h (by decide)⟩, fun h => absurd h (by decide)⟩, fun h => absurd h (by decide)⟩, fun h => absurd h (by decide)⟩, fun h => absurd h (by decide)⟩, fun h => absurd h (by decide)⟩, fun h => absurd (hst.symm.trans h) (by decide)⟩, fun h => absurd h (by decide)⟩, fun h => absurd h (by decide)⟩
end Go.Am.Seat

namespace Go.Am.Seat
open Go Go.Am
def cuR : Nat → Bool := fun t => Nat.beq t 69
theorem str_of (s : ByteArray) : ∃ l : List Nat, s = str l ∧ (∀ x ∈ l, x < 256) ∧ l.length = s.size := by
 refine ⟨s.data.toList.map UInt8.toNat, ?_, ?_, ?_⟩
 ·apply ByteArray.ext
  unfold str
  simp [List.map_map, Function.comp_def]
 ·intro x hx
  obtain ⟨u, _, rfl⟩ := List.mem_map.1 hx
  exact u.toNat_lt
 ·rw [List.length_map]; rfl
theorem shp_str {n : Nat} {x : AV} (hx : ShpC (lookO tab) cuR (n + 1) 9 x) : ∃ l : List Nat, x = .sc (.string (str l)) ∧ (∀ y ∈ l, y < 256) ∧ l.length ≤ 140737488355328 := by
 obtain ⟨s, rfl, hs⟩ : ∃ s : ByteArray, x = .sc (.string s) ∧ s.size ≤ reachBytes := hx
 obtain ⟨l, rfl, hl, hn⟩ := str_of s
 have hr : reachBytes ≤ 140737488355328 := by decide
 exact ⟨l, rfl, hl, by omega⟩
theorem shp_reg {n : Nat} {x : AV} (hx : ShpC (lookO tab) cuR (n + 1) 69 x) : ∃ r : Rg, x = .rc true r ∧ okRg r := hx
end Go.Am.Seat

namespace Go.Am.Seat
open Go Go.Am

theorem star_mono {R : Nat → Nat → Prop} (h : ∀ i j, R i j → i ≤ j) {i j : Nat} (hs : Star R i j) : i ≤ j := by
 induction hs with
 | refl => exact lr_ _
 | tail _ hr ih => exact Nat.le_trans ih (h _ _ hr)
theorem seq_mono {f : Nat → Nat → Nat → Prop} : ∀ {n : Nat}, (∀ c, c < n → ∀ i j, f c i j → i ≤ j) → ∀ {i j : Nat}, seqR f n i j → i ≤ j
 | 0, _, i, j, h => by rw [show i = j from h]; exact lr_ _
 | n + 1, hf, i, j, ⟨m, h1, h2⟩ => Nat.le_trans (seq_mono (fun c hc => hf c (by omega)) h1) (hf n (by omega) _ _ h2)
theorem match_mono (t : ByteArray) : ∀ (x : Rg) (i j : Nat), matchG t x i j → i ≤ j := by
 intro x
 induction x with
 | no => exact fun _ _ h => h.elim
 | mk k s n m ps ih =>
  intro i j h
  rw [matchG_eq] at h
  split at h
  ·omega
  ·split at h
   ·omega
   ·split at h
    ·exact seq_mono (fun c _ => ih c) h
    ·split at h
     ·obtain ⟨c, _, h⟩ := h; exact ih c _ _ h
     ·split at h
      ·rcases h with h | h
       ·omega
       ·exact ih 0 _ _ h
      ·split at h
       ·obtain ⟨m, h1, h2⟩ := h
        exact Nat.le_trans (ih 0 _ _ h1) (star_mono (ih 0) h2)
       ·split at h
        ·exact star_mono (ih 0) h
        ·exact h.elim
structure PartT (t t' : ByteArray) (a : Nat) : Prop where
 le : a + t'.size ≤ t.size
 eq : ∀ i, i < t'.size → byteAt t' i = byteAt t (a + i)
theorem star_part {R R' : Nat → Nat → Prop} {a n : Nat} (hm : ∀ i j, R i j → i ≤ j) (hm' : ∀ i j, R' i j → i ≤ j) (h : ∀ i j, j ≤ n → (R' i j ↔ R (a + i) (a + j))) (i j : Nat) (hj : j ≤ n) : Star R' i j ↔ Star R (a + i) (a + j) := by
 constructor
 ·intro hs
  induction hs with
  | refl => exact .refl _
  | tail hs hr ih => exact .tail (ih (by have := hm' _ _ hr; omega)) ((h _ _ hj).1 hr)
 ·intro hs
  generalize hb : a + j = b at hs
  induction hs generalizing j with
  | refl =>
   obtain rfl : j = i := by omega
   exact .refl _
  | tail hs hr ih =>
   rename_i p q
   subst hb
   have h1 := hm _ _ hr
   have h2 := star_mono hm hs
   obtain ⟨p', rfl⟩ := Nat.exists_eq_add_of_le (show a ≤ p by omega)
   exact .tail (ih p' (by omega) rfl) ((h _ _ hj).2 hr)
theorem seq_part {f f' : Nat → Nat → Nat → Prop} {a n : Nat} : ∀ (N : Nat), (∀ c, c < N → ∀ i j, f c i j → i ≤ j) → (∀ c, c < N → ∀ i j, f' c i j → i ≤ j) → (∀ c, c < N → ∀ i j, j ≤ n → (f' c i j ↔ f c (a + i) (a + j))) → ∀ i j, j ≤ n → (seqR f' N i j ↔ seqR f N (a + i) (a + j))
 | 0, _, _, _, i, j, _ => by show i = j ↔ a + i = a + j; omega
 | N + 1, hm, hm', h, i, j, hj => by
  have ih := seq_part N (fun c hc => hm c (by omega)) (fun c hc => hm' c (by omega)) (fun c hc => h c (by omega))
  constructor
  ·rintro ⟨m, h1, h2⟩
   have := hm' N (by omega) _ _ h2
   exact ⟨a + m, (ih i m (by omega)).1 h1, (h N (by omega) m j hj).1 h2⟩
  ·rintro ⟨m, h1, h2⟩
   have g1 := hm N (by omega) _ _ h2
   have g2 := seq_mono (fun c hc => hm c (by omega)) h1
   obtain ⟨m', rfl⟩ := Nat.exists_eq_add_of_le (show a ≤ m by omega)
   exact ⟨m', (ih i m' (by omega)).2 h1, (h N (by omega) m' j hj).2 h2⟩
theorem match_part {t t' : ByteArray} {a : Nat} (ht : PartT t t' a) : ∀ (x : Rg) (i j : Nat), j ≤ t'.size → (matchG t' x i j ↔ matchG t x (a + i) (a + j)) := by
 intro x
 induction x with
 | no => exact fun _ _ _ => Iff.rfl
 | mk k s n m ps ih =>
  intro i j hj
  have hle := ht.le
  rw [matchG_eq, matchG_eq]
  split
  ·omega
  ·split
   ·constructor
    ·rintro ⟨h1, h2, h3⟩
     exact ⟨by omega, by omega, by rw [← ht.eq i h1]; exact h3⟩
    ·rintro ⟨h1, h2, h3⟩
     exact ⟨by omega, by omega, by rw [ht.eq i (by omega)]; exact h3⟩
   ·split
    ·exact seq_part n (fun c _ => match_mono t (ps c)) (fun c _ => match_mono t' (ps c)) (fun c _ => ih c) i j hj
    ·split
     ·constructor
      ·rintro ⟨c, hc, h⟩; exact ⟨c, hc, (ih c i j hj).1 h⟩
      ·rintro ⟨c, hc, h⟩; exact ⟨c, hc, (ih c i j hj).2 h⟩
     ·have hst := star_part (match_mono t (ps 0)) (match_mono t' (ps 0)) (ih 0)
      split
      ·rw [ih 0 i j hj]
       constructor
       ·rintro (h | h)
        ·exact .inl (by omega)
        ·exact .inr h
       ·rintro (h | h)
        ·exact .inl (by omega)
        ·exact .inr h
      ·split
       ·constructor
        ·rintro ⟨m, h1, h2⟩
         have := star_mono (match_mono t' (ps 0)) h2
         exact ⟨a + m, (ih 0 i m (by omega)).1 h1, (hst m j hj).1 h2⟩
        ·rintro ⟨m, h1, h2⟩
         have g1 := star_mono (match_mono t (ps 0)) h2
         have g2 := match_mono t (ps 0) _ _ h1
         obtain ⟨m', rfl⟩ := Nat.exists_eq_add_of_le (show a ≤ m by omega)
         exact ⟨m', (ih 0 i m' (by omega)).2 h1, (hst m' j hj).2 h2⟩
       ·split
        ·exact hst i j hj
        ·exact Iff.rfl
theorem part_ext (t : ByteArray) (a b : Nat) (hab : a ≤ b) (hb : b ≤ t.size) : (t.extract a b).size = b - a ∧ PartT t (t.extract a b) a := by
 have hs : (t.extract a b).size = b - a := by rw [ByteArray.size_extract]; omega
 refine ⟨hs, by omega, fun i hi => ?_⟩
 unfold byteAt
 rw [ByteArray.data_extract, gd_, gd_, Array.getElem?_toList, Array.getElem?_toList, Array.getElem?_extract]
 have hd : t.data.size = t.size := rfl
 rw [if_pos (by omega)]
end Go.Am.Seat

namespace Go.Am.Seat
open Go Go.Am

def twoF (r s : Rg) (i : Nat) : Rg := bif Nat.beq i 1 then s else r
def twoG (k : Int) (r s : Rg) : Rg := .mk k (fun _ => 0) 2 2 (twoF r s)
theorem okN_two {k : Int} {r s : Rg} (hr : okN r) (hs : okN s) : okN (twoG k r s) := by
 refine ⟨lr_ _, by rw [reach_eq]; omega, fun i hi => ?_, fun i _ => ⟨Int.le_refl _, (by decide : (0 : Int) < 18446744073709551616)⟩⟩
 have : i = 0 ∨ i = 1 := by omega
 rcases this with rfl | rfl
 ·exact hr
 ·exact hs
theorem cnt_two (k : Int) (r s : Rg) : cntG (twoG k r s) = 1 + (cntG r + cntG s) := by
 unfold twoG; rw [cntG]; simp only [sumF, show twoF r s 0 = r from rfl, show twoF r s 1 = s from rfl, Nat.zero_add]
theorem dep_two (k : Int) (r s : Rg) : depG (twoG k r s) = max (depG r) (depG s) + 1 := by
 unfold twoG; rw [depG]; simp only [maxF, show twoF r s 0 = r from rfl, show twoF r s 1 = s from rfl, Nat.zero_max]
theorem may_two {k : Int} (hk : k = 3 ∨ k = 4) (r s : Rg) : mayG (twoG k r s) = (mayG r && mayG s) := by
 unfold twoG; rw [mayG, cdec_true.2 (fun _ _ => rfl), Bool.or_true, Bool.and_true]
 have e : okK k 2 = true := by unfold okK; rw [if_neg (by omega), if_pos hk]; rfl
 rw [e]
 simp only [allF, show twoF r s 0 = r from rfl, show twoF r s 1 = s from rfl, Bool.true_and]
theorem chk_two (r s : Rg) : chkG (twoG 3 r s) = chkG (twoG 4 r s) := by
 unfold chkG; rw [cnt_two, cnt_two, dep_two, dep_two, may_two (.inl rfl), may_two (.inr rfl)]
theorem chk_parts {k : Int} (hk : k = 3 ∨ k = 4) {r s : Rg} (h : chkG (twoG k r s) = 0) : chkG r = 0 ∧ chkG s = 0 := by
 have h0 := chkG_zero h
 rw [cnt_two, dep_two, may_two hk, ba_] at h0
 unfold chkG
 rw [if_neg (by omega), if_neg (by omega), if_pos h0.2.2.1, if_neg (by omega), if_neg (by omega), if_pos h0.2.2.2]
 exact ⟨rfl, rfl⟩
theorem two_sub (k : Int) (r s : Rg) (hr : okN r) (hs : okN s) : Sub (AV.cons 1 (.sc (.int .i64 k)) (.cons 4 (.ar 4 1 fun _ => .sc (.int .u64 0)) (.cons 1 (.vec true 6 2 2 fun i =>
   AV.cons 1 (.sc (.int .i64 (bif Nat.beq i 1 then s.k else bif Nat.beq i 0 then r.k else 0)))
    (.cons 4 (.ar 4 1 fun j => .sc (.int .u64 (bif Nat.beq i 1 then s.s j else bif Nat.beq i 0 then r.s j else 0)))
     (.cons 1 (tagT (AV.pick (Nat.beq i 1) (.vec true 6 s.n s.m fun i => .rc true (s.ps i)) (AV.pick (Nat.beq i 0) (.vec true 6 r.n r.m fun i => .rc true (r.ps i)) (.sc (.slice none 0 0))))) .nil))) .nil)))
  (.rc true (twoG k r s)) := by
 refine Sub.of_R (RSub.trans (.cons (.refl _) (.cons (.refl _) (.cons (RSub.vec (f' := fun i => .rc true (twoF r s i)) id (lr_ _) (lr_ _) fun i hi => ?_) (.refl _)))) (RSub.mkR true k (fun _ => 0) 2 2 (twoF r s))) rfl trivial trivial
 have : i = 0 ∨ i = 1 := by omega
 rcases this with rfl | rfl
 ·have := RSub.mkR true r.k r.s r.n r.m r.ps
  rw [hr.eta] at this
  exact this
 ·have := RSub.mkR true s.k s.s s.n s.m s.ps
  rw [hs.eta] at this
  exact this
theorem whole_alt (t : ByteArray) (r s : Rg) : wholeB t (twoG 4 r s) = (wholeB t r || wholeB t s) := by
 rw [Bool.eq_iff_iff, Bool.or_eq_true]
 simp only [wholeB, cdec_true]
 unfold twoG
 rw [matchG_eq, if_neg (by omega), if_neg (by omega), if_neg (by omega), if_pos rfl]
 constructor
 ·rintro ⟨c, hc, h⟩
  have : c = 0 ∨ c = 1 := by omega
  rcases this with rfl | rfl
  ·exact .inl h
  ·exact .inr h
 ·rintro (h | h)
  ·exact ⟨0, by omega, h⟩
  ·exact ⟨1, by omega, h⟩
theorem whole_cat (t : ByteArray) (r s : Rg) : wholeB t (twoG 3 r s) = true ↔ ∃ i, i ≤ t.size ∧ wholeB (t.extract 0 i) r = true ∧ wholeB (t.extract i t.size) s = true := by
 simp only [wholeB, cdec_true]
 have hcat : matchG t (twoG 3 r s) 0 t.size ↔ ∃ m, matchG t r 0 m ∧ matchG t s m t.size := by
  unfold twoG
  rw [matchG_eq, if_neg (by omega), if_neg (by omega), if_pos rfl]
  constructor
  ·rintro ⟨m, ⟨m', rfl, h1⟩, h2⟩; exact ⟨m, h1, h2⟩
  ·rintro ⟨m, h1, h2⟩; exact ⟨m, ⟨0, rfl, h1⟩, h2⟩
 rw [hcat]
 have key : ∀ i, i ≤ t.size → ((matchG (t.extract 0 i) r 0 (t.extract 0 i).size ↔ matchG t r 0 i) ∧ (matchG (t.extract i t.size) s 0 (t.extract i t.size).size ↔ matchG t s i t.size)) := by
  intro i hi
  obtain ⟨a1, a2⟩ := part_ext t 0 i (by omega) hi
  obtain ⟨b1, b2⟩ := part_ext t i t.size hi (lr_ _)
  constructor
  ·rw [match_part a2 r 0 _ (lr_ _), a1]; simp
  ·rw [match_part b2 s 0 _ (lr_ _), b1, Nat.add_zero, show i + (t.size - i) = t.size by omega]
 constructor
 ·rintro ⟨m, h1, h2⟩
  have hm := match_mono t s _ _ h2
  exact ⟨m, hm, (key m hm).1.2 h1, (key m hm).2.2 h2⟩
 ·rintro ⟨m, hm, h1, h2⟩
  exact ⟨m, (key m hm).1.1 h1, (key m hm).2.1 h2⟩
theorem mat_small {t : ByteArray} {x : Rg} (hc : chkG x = 0) (ht : t.size ≤ 65536) : matG t x = (wholeB t x, 0) := by rw [matG, if_pos hc, if_neg (by omega)]
theorem matches_sub (t : ByteArray) (x : Rg) (hx : okN x) (a : AV) (h : Sub a (.rc true x)) : Ok Proofs.Try.prog 40 [a, .sc (.string t)] [] (AV.cons 1 (.sc (.bool (matG t x).1)) (.cons 1 (.sc (.int .i64 ((matG t x).2 : Int))) .nil)).tup [] :=
 Ok.args (ys := [.rc true x, .sc (.string t)]) ⟨h, Sub.refl _, trivial⟩ (matches_ok t x hx)
theorem parts_loop (t : ByteArray) (ht : t.size ≤ 60) (r s : Rg) (hr : okN r) (hs : okN s) (cr : chkG r = 0) (cs : chkG s = 0) : ∀ m i (parted : Bool), i + m = t.size + 1 → (parted = true ↔ ∃ j, j < i ∧ wholeB (t.extract 0 j) r = true ∧ wholeB (t.extract j t.size) s = true) →
  L14_0 t (wholeB t (twoG 3 r s)) parted (i : Int) r.k r.s r.n r.m r.ps s.k s.s s.n s.m s.ps (.sc (.bool true)) := by
 intro m
 induction m with
 | zero =>
  intro i parted hi hp
  apply r14_0
  have e : (parted == wholeB t (twoG 3 r s)) = true := by
   rw [beq_iff_eq, Bool.eq_iff_iff, hp, whole_cat]
   constructor
   ·rintro ⟨j, hj, h⟩; exact ⟨j, by omega, h⟩
   ·rintro ⟨j, hj, h⟩; exact ⟨j, by omega, h⟩
  refine ⟨fun h => by have := dt_ h; omega, fun _ => ⟨fun _ => ⟨true, alive5_ok, Sub.refl _⟩, fun h => ?_⟩⟩
  rw [e] at h; cases h
 | succ m ih =>
  intro i parted hi hp
  obtain ⟨a1, _⟩ := part_ext t 0 i (by omega) (by omega)
  obtain ⟨b1, _⟩ := part_ext t i t.size (by omega) (lr_ _)
  have k1 := matches_sub (t.extract 0 i) r hr _ hr.sub
  have k2 := matches_sub (t.extract i t.size) s hs _ hs.sub
  rw [mat_small cr (by omega)] at k1
  rw [mat_small cs (by omega)] at k2
  have nx := fun p => ih (i + 1) p (by omega)
  apply r14_0
  rw [tn_, tn_, wrapSucc (n := i) (by omega)]
  refine ⟨fun _ => ⟨⟨by omega, by omega, by omega⟩, (_, ((0 : Nat) : Int)), k1, ⟨by omega, by omega, by omega⟩, (_, ((0 : Nat) : Int)), k2, fun h0 => ⟨fun h1 => nx _ ?_, fun h1 => nx _ ?_⟩, fun h0 => nx _ ?_⟩, fun h => by have := df_ h; omega⟩
  ·have h1 : wholeB (t.extract 0 i) r = true := h1
   constructor
   ·intro h2; exact ⟨i, by omega, h1, h2⟩
   ·rintro ⟨j, hj, h2, h3⟩
    by_cases he : j = i
    ·subst he; exact h3
    ·rw [h0] at hp; have := hp.2 ⟨j, by omega, h2, h3⟩; cases this
  ·have h1 : wholeB (t.extract 0 i) r = false := h1
   constructor
   ·intro h2; cases h2
   ·rintro ⟨j, hj, h2, h3⟩
    by_cases he : j = i
    ·subst he; rw [h1] at h2; exact h2
    ·rw [h0] at hp; exact hp.2 ⟨j, by omega, h2, h3⟩
  ·constructor
   ·intro _
    obtain ⟨j, hj, h2⟩ := hp.1 h0
    exact ⟨j, by omega, h2⟩
   ·intro _; rfl
theorem law_partsP (r s : Rg) (hr : okN r) (hs : okN s) (t : ByteArray) : Ok Proofs.Try.prog 14 [.rc true r, .rc true s, .sc (.string t)] [] (.sc (.bool true)) [] := by
 refine o14 _ _ _ _ trivial (r14_e _ _ _ _ ⟨fun ht => ?_, fun _ => Sub.refl _⟩)
 have ht := df_ ht
 have b1 := bigx_ok r hr 60 (by omega)
 have b2 := bigx_ok s hs 60 (by omega)
 refine ⟨_, Ok.rc hr b1, fun h1 => ⟨_, Ok.rc hs b2, fun _ => Sub.refl _, fun h2 => ?_⟩, fun _ => Sub.refl _⟩
 have ok3 := okN_two (k := 3) hr hs
 have ok4 := okN_two (k := 4) hr hs
 have m3 := matches_sub t (twoG 3 r s) ok3 _ (two_sub 3 r s hr hs)
 have m4 := matches_sub t (twoG 4 r s) ok4 _ (two_sub 4 r s hr hs)
 have m5 := matches_sub t r hr _ hr.sub
 have m6 := matches_sub t s hs _ hs.sub
 by_cases hc : chkG (twoG 3 r s) = 0
 ·have hc4 : chkG (twoG 4 r s) = 0 := by rw [← chk_two]; exact hc
  obtain ⟨c5, c6⟩ := chk_parts (.inl rfl) hc
  rw [mat_small hc (by omega)] at m3
  rw [mat_small hc4 (by omega), whole_alt] at m4
  rw [mat_small c5 (by omega)] at m5
  rw [mat_small c6 (by omega)] at m6
  have loop := parts_loop t (by omega) r s hr hs c5 c6 (t.size + 1) 0 false (by omega) ⟨(fun h => by cases h), fun ⟨j, hj, _⟩ => by omega⟩
  have z1 : ¬ ((((0 : Nat) : Int) != 0) = true) := by decide
  have z2 : ¬ ((((0 : Nat) : Int) != 0) = !false) := by decide
  refine ⟨(_, ((0 : Nat) : Int)), m3, (_, ((0 : Nat) : Int)), m4, (_, ((0 : Nat) : Int)), m5, (_, ((0 : Nat) : Int)), m6, fun _ => ⟨fun h => absurd h z1, fun _ => ⟨fun _ => ⟨fun _ => ⟨fun h5 => ⟨fun h => ?_, fun _ => loop⟩, fun h5 => ⟨fun h => ?_, fun _ => loop⟩⟩, fun h => absurd h z2⟩, fun h => absurd h z2⟩⟩, fun h => absurd h z2⟩
  ·have h5 : wholeB t r = false := h5
   have h : (!((wholeB t r || wholeB t s) == wholeB t s)) = true := h
   rw [h5] at h
   cases hw : wholeB t s <;> rw [hw] at h <;> cases h
  ·have h5 : wholeB t r = true := h5
   have h : (!((wholeB t r || wholeB t s) == true)) = true := h
   rw [h5] at h
   cases h
 ·have hc4 : ¬ chkG (twoG 4 r s) = 0 := by rw [← chk_two]; exact hc
  have e3 : matG t (twoG 3 r s) = (false, chkG (twoG 3 r s)) := by rw [matG, if_neg hc]
  have e4 : matG t (twoG 4 r s) = (false, chkG (twoG 3 r s)) := by rw [matG, if_neg hc4, ← chk_two]
  rw [e3] at m3
  rw [e4] at m4
  generalize chkG (twoG 3 r s) = c at hc m3 m4
  have hb : (((c : Nat) : Int) != 0) = true := by simp; omega
  have hq : (((c : Nat) : Int) == ((c : Nat) : Int)) = true := beq_self_eq_true _
  refine ⟨(_, (c : Int)), m3, (_, (c : Int)), m4, (_, _), m5, (_, _), m6, fun h => ?_, fun _ => ⟨fun _ => ⟨true, alive5_ok, Sub.refl _⟩, fun h => ?_⟩⟩
  ·have h : (((c : Nat) : Int) != 0) = false := h
   rw [hb] at h; cases h
  ·have h : (((c : Nat) : Int) == ((c : Nat) : Int)) = !true := h
   rw [hq] at h; cases h
theorem law_parts_all (xs : List AV) (hx : ShpAllC (lookO tab) cuR 20 [69, 69, 9] xs) : Ok Proofs.Try.prog 14 xs [] (.sc (.bool true)) [] := by
 obtain ⟨x, y, z, rfl, h1, h2, h3⟩ := ShpAllC.three hx
 obtain ⟨r, rfl, hr⟩ := shp_reg h1
 obtain ⟨s, rfl, hs⟩ := shp_reg h2
 obtain ⟨l, rfl, _, _⟩ := shp_str h3
 exact law_partsP r s (okN_of hr) (okN_of hs) (str l)
end Go.Am.Seat
