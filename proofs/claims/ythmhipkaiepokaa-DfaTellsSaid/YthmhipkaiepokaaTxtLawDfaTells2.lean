import Derived.Test.YthmhipkaiepokaaTxtLawDfaTells1
import Derived.Test.YthmhipkaiepokaaTxtLawDfaTells0
import Derived.Test.YthmhipkaiepokaaRul0LawDfaTells
import Derived.Test.YthmhipkaiepokaaRul1LawDfaTells
set_option linter.unusedVariables false
namespace Go.Am.Seat
open Go Go.Am

theorem newV (d : Dfa) (e : Int) : newOnly (ofV d e) := ⟨⟨trivial, fun _ _ => trivial, ⟨rfl, fun _ _ => ⟨rfl, fun _ _ => trivial⟩⟩, ⟨rfl, fun _ _ => trivial⟩, trivial⟩, trivial, trivial⟩
section
variable {M : Nat} (hM : SortOk M) (N : Nfa) (hn : N.n ≤ M)
theorem of_err (he : N.err ≠ 0) : Ok Proofs.Try.prog 18 [nfaA false N] [] (ofV dfaZ N.err) [] := by
 refine o18 _ _ _ _ _ _ _ _ (newV _ _) ?_
 apply r18_e
 exact ⟨N.err, ncheck_ok N, fun _ => ofZ_sub _, fun h => absurd (by simpa using h) he⟩
include hM hn
theorem of_ok (he : N.err = 0) : ∃ z, OfRes N z (fun r => newOnly r → Ok Proofs.Try.prog 18 [nfaA false N] [] r []) := by
 have hmx : 140737488355328 ≤ maxLen := by decide
 obtain ⟨hb, hv⟩ := nErr_zero.1 he
 have hn4 : N.n ≤ 4096 := by omega
 have hfm : N.freeM N.n ≤ 16384 := by omega
 obtain ⟨lv, hlv, hlive⟩ := live_ok N hv hn4 hfm
 obtain ⟨bs, lk, hsrt, hsort⟩ := sort_nil N hn4 lv
 have hst := hv.1
 have hst2 := hv.2.1
 have hl : ∀ s ∈ [N.st.toNat], s < N.n := fun s hs => by
  rw [ms_] at hs; omega
 obtain ⟨c, hc, hreach⟩ := reach_ok hM ((bld0 N lv).srt bs lk) hv hn hn4 hfm [N.st.toNat] hl (by simp) 1 (lr_ _) (fun _ => N.st) (fun i hi => by
  have hi : i < 1 := by simpa using hi
  obtain rfl : i = 0 := by omega
  simp; omega)
 have hce : c = clos N [N.st.toNat] := hc.eq hv hl
 have hclt : ∀ s ∈ c, s < N.n := fun s hs => by rw [hce] at hs; exact clos_lt s hs
 have hcl : c.length ≤ 4096 := Nat.le_trans (nodup_le (hc.srt.imp fun h => Nat.ne_of_lt h) hclt) hn4
 have hnewall : ∀ (z : Nat) (L : AV → Prop), OfRes N z L → (∀ r, newOnly r → L r → Ok Proofs.Try.prog 18 [nfaA false N] [] r []) → OfRes N z (fun r => newOnly r → Ok Proofs.Try.prog 18 [nfaA false N] [] r []) := by
  intro z L h hL
  rcases h with ⟨B, k1, k0, k2, k3⟩ | ⟨B, ofl, first, k1, k2, k3, k4, k5, k6, k7⟩
  ·exact .inl ⟨B, k1, k0, k2, fun hr => hL _ hr k3⟩
  ·exact .inr ⟨B, ofl, first, k1, k2, k3, k4, k5, k6, fun hr => hL _ hr k7⟩
 by_cases hany : c.any lv = true
 ·have hc5 : smallL c := fun s hs => by have := hclt s hs; omega
  have hne : c.length ≠ 0 := fun h => by
   rw [List.length_eq_zero_iff.1 h] at hany; cases hany
  have hinv : OfInv N (((bld0 N lv).srt bs lk).put c) 0 := {
   N_ := rfl, lv := hlv, srt := hsrt
   num := NumMap.empty.put 0 (lr_ _) hc5 rfl
   zero := .inl ⟨rfl, hce, by rw [← hce]; exact hany⟩
   pos := by show 1 ≤ ([] ++ [c]).length; simp
   srow := fun k hk => by
    have hk : k < 1 := hk
    obtain rfl : k = 0 := by omega
    exact ⟨hclt, hcl⟩
   aliv := fun k _ hk => by
    have hk : k < 1 := hk
    obtain rfl : k = 0 := by omega
    exact hany
   xlen := fun k hk => by have hk : k < 0 := hk; omega
   val := fun k j hk => by have hk : k < 0 := hk; omega
   bfs := fun m h1 h2 => by have h2 : m < 1 := h2; omega }
  refine ⟨0, hnewall 0 _ (of_loop hM N hv hn hn4 hfm 0 2049 (((bld0 N lv).srt bs lk).put c) _ _ _ _ rfl hinv (by show 0 ≤ _; omega) (by show 1 ≤ 2400; omega) (AgN.self _) (AgZ.self _)) fun r hr hL => ?_⟩
  refine o18 _ _ _ _ _ _ _ _ hr ?_
  apply r18_e
  refine ⟨N.err, ncheck_ok N, fun h => (by rw [he] at h; simp at h), fun _ => ⟨(N.n, lv), hlive, (((bld0 N lv).srt bs lk).N.st, ((bld0 N lv).srt bs lk).N.n, (fun i j => (word (((bld0 N lv).srt bs lk).N.set i) j : Int)), ((bld0 N lv).srt bs lk).N.to, ((bld0 N lv).srt bs lk).N.fn, ((bld0 N lv).srt bs lk).N.fr, ((bld0 N lv).srt bs lk).N.ru, ((bld0 N lv).srt bs lk).N.n, ((bld0 N lv).srt bs lk).lv, ((bld0 N lv).srt bs lk).bs.length, (fun i => (((bld0 N lv).srt bs lk).lk i : Int)), ((bld0 N lv).srt bs lk).S.length, ((bld0 N lv).srt bs lk).X.length, ((bld0 N lv).srt bs lk).bs.length, (fun i => ((((bld0 N lv).srt bs lk).bs.getD i 0 : Nat) : Int)), ((bld0 N lv).srt bs lk).mn, ((bld0 N lv).srt bs lk).mc, ((bld0 N lv).srt bs lk).mm, ((bld0 N lv).srt bs lk).S.length, (fun i => (((bld0 N lv).srt bs lk).S.getD i []).length), (fun i j => (((((bld0 N lv).srt bs lk).S.getD i []).getD j 0 : Nat) : Int)), ((bld0 N lv).srt bs lk).X.length, (fun i => (((bld0 N lv).srt bs lk).X.getD i []).length), (fun i j => (((bld0 N lv).srt bs lk).X.getD i []).getD j 0)), hsort, .inr ?_⟩⟩
  unfold reachV at hreach
  rw [if_pos (show c.any ((bld0 N lv).srt bs lk).lv = true from hany)] at hreach
  refine ⟨(c.length, (fun j => ((c.getD j 0 : Nat) : Int)), ((bld0 N lv).srt bs lk).N.st, ((bld0 N lv).srt bs lk).N.n, (fun i j => (word (((bld0 N lv).srt bs lk).N.set i) j : Int)), ((bld0 N lv).srt bs lk).N.to, ((bld0 N lv).srt bs lk).N.fn, ((bld0 N lv).srt bs lk).N.fr, ((bld0 N lv).srt bs lk).N.ru, ((bld0 N lv).srt bs lk).N.n, ((bld0 N lv).srt bs lk).lv, ((bld0 N lv).srt bs lk).bs.length, (fun i => (((bld0 N lv).srt bs lk).lk i : Int)), ((bld0 N lv).srt bs lk).S.length, ((bld0 N lv).srt bs lk).X.length, ((bld0 N lv).srt bs lk).bs.length, (fun i => ((((bld0 N lv).srt bs lk).bs.getD i 0 : Nat) : Int)), ((bld0 N lv).srt bs lk).mn, ((bld0 N lv).srt bs lk).mc, ((bld0 N lv).srt bs lk).mm, ((bld0 N lv).srt bs lk).S.length, (fun i => (((bld0 N lv).srt bs lk).S.getD i []).length), (fun i j => (((((bld0 N lv).srt bs lk).S.getD i []).getD j 0 : Nat) : Int)), ((bld0 N lv).srt bs lk).X.length, (fun i => (((bld0 N lv).srt bs lk).X.getD i []).length), (fun i j => (((bld0 N lv).srt bs lk).X.getD i []).getD j 0)), hreach, fun b hb => ⟨fun _ => ⟨(0, (((bld0 N lv).srt bs lk).put c).N.st, (((bld0 N lv).srt bs lk).put c).N.n, (fun i j => (word ((((bld0 N lv).srt bs lk).put c).N.set i) j : Int)), (((bld0 N lv).srt bs lk).put c).N.to, (((bld0 N lv).srt bs lk).put c).N.fn, (((bld0 N lv).srt bs lk).put c).N.fr, (((bld0 N lv).srt bs lk).put c).N.ru, (((bld0 N lv).srt bs lk).put c).N.n, (((bld0 N lv).srt bs lk).put c).lv, (((bld0 N lv).srt bs lk).put c).bs.length, (fun i => ((((bld0 N lv).srt bs lk).put c).lk i : Int)), (((bld0 N lv).srt bs lk).put c).S.length, (((bld0 N lv).srt bs lk).put c).X.length, (((bld0 N lv).srt bs lk).put c).bs.length, (fun i => (((((bld0 N lv).srt bs lk).put c).bs.getD i 0 : Nat) : Int)), (((bld0 N lv).srt bs lk).put c).mn, (((bld0 N lv).srt bs lk).put c).mc, (((bld0 N lv).srt bs lk).put c).mm, (((bld0 N lv).srt bs lk).put c).S.length, (fun i => ((((bld0 N lv).srt bs lk).put c).S.getD i []).length), (fun i j => ((((((bld0 N lv).srt bs lk).put c).S.getD i []).getD j 0 : Nat) : Int)), (((bld0 N lv).srt bs lk).put c).X.length, (fun i => ((((bld0 N lv).srt bs lk).put c).X.getD i []).length), (fun i j => ((((bld0 N lv).srt bs lk).put c).X.getD i []).getD j 0)), number_new ((bld0 N lv).srt bs lk) c hc5 (by omega) (by show 0 ≤ 1000000; omega) rfl, ?_⟩, fun h => ?_⟩⟩
  ·apply r18_0
   exact hL
  ·cases b
   ·cases h
   ·exact absurd (hb rfl) hne
 ·have hany : c.any lv = false := by simpa using hany
  have hinv : OfInv N { (bld0 N lv).srt bs lk with S := [[]] } 1 := {
   N_ := rfl, lv := hlv, srt := hsrt
   num := NumMap.one (fun v hv => by cases hv)
   zero := .inr ⟨rfl, rfl, by rw [← hce]; exact hany⟩
   pos := lr_ _
   srow := fun k hk => by
    have hk : k < 1 := hk
    obtain rfl : k = 0 := by omega
    exact ⟨fun t ht => (by cases ht), by show 0 ≤ 4096; omega⟩
   aliv := fun k hz hk => by
    have hk : k < 1 := hk
    omega
   xlen := fun k hk => by have hk : k < 0 := hk; omega
   val := fun k j hk => by have hk : k < 0 := hk; omega
   bfs := fun m h1 h2 => by have h2 : m < 1 := h2; omega }
  refine ⟨1, hnewall 1 _ (of_loop hM N hv hn hn4 hfm 1 2049 { (bld0 N lv).srt bs lk with S := [[]] } (fun i => bif Nat.blt i 0 then (([] : List (List Nat)).getD i []).length else 0) (fun i j => bif Nat.blt i 0 then (((([] : List (List Nat)).getD i []).getD j 0 : Nat) : Int) else Int.ofNat 0) _ _ rfl hinv (by show 0 ≤ _; omega) (by show 1 ≤ 2400; omega) (fun i hi => ?_) (AgZ.self _)) fun r hr hL => ?_⟩
  ·have hi : i < 1 := hi
   obtain rfl : i = 0 := by omega
   exact ⟨rfl, rfl⟩
  refine o18 _ _ _ _ _ _ _ _ hr ?_
  apply r18_e
  refine ⟨N.err, ncheck_ok N, fun h => (by rw [he] at h; simp at h), fun _ => ⟨(N.n, lv), hlive, (((bld0 N lv).srt bs lk).N.st, ((bld0 N lv).srt bs lk).N.n, (fun i j => (word (((bld0 N lv).srt bs lk).N.set i) j : Int)), ((bld0 N lv).srt bs lk).N.to, ((bld0 N lv).srt bs lk).N.fn, ((bld0 N lv).srt bs lk).N.fr, ((bld0 N lv).srt bs lk).N.ru, ((bld0 N lv).srt bs lk).N.n, ((bld0 N lv).srt bs lk).lv, ((bld0 N lv).srt bs lk).bs.length, (fun i => (((bld0 N lv).srt bs lk).lk i : Int)), ((bld0 N lv).srt bs lk).S.length, ((bld0 N lv).srt bs lk).X.length, ((bld0 N lv).srt bs lk).bs.length, (fun i => ((((bld0 N lv).srt bs lk).bs.getD i 0 : Nat) : Int)), ((bld0 N lv).srt bs lk).mn, ((bld0 N lv).srt bs lk).mc, ((bld0 N lv).srt bs lk).mm, ((bld0 N lv).srt bs lk).S.length, (fun i => (((bld0 N lv).srt bs lk).S.getD i []).length), (fun i j => (((((bld0 N lv).srt bs lk).S.getD i []).getD j 0 : Nat) : Int)), ((bld0 N lv).srt bs lk).X.length, (fun i => (((bld0 N lv).srt bs lk).X.getD i []).length), (fun i j => (((bld0 N lv).srt bs lk).X.getD i []).getD j 0)), hsort, .inl ?_⟩⟩
  unfold reachV at hreach
  rw [if_neg (show ¬ c.any ((bld0 N lv).srt bs lk).lv = true from by show ¬ c.any lv = true; rw [hany]; simp)] at hreach
  refine ⟨(((bld0 N lv).srt bs lk).N.st, ((bld0 N lv).srt bs lk).N.n, (fun i j => (word (((bld0 N lv).srt bs lk).N.set i) j : Int)), ((bld0 N lv).srt bs lk).N.to, ((bld0 N lv).srt bs lk).N.fn, ((bld0 N lv).srt bs lk).N.fr, ((bld0 N lv).srt bs lk).N.ru, ((bld0 N lv).srt bs lk).N.n, ((bld0 N lv).srt bs lk).lv, ((bld0 N lv).srt bs lk).bs.length, (fun i => (((bld0 N lv).srt bs lk).lk i : Int)), ((bld0 N lv).srt bs lk).S.length, ((bld0 N lv).srt bs lk).X.length, ((bld0 N lv).srt bs lk).bs.length, (fun i => ((((bld0 N lv).srt bs lk).bs.getD i 0 : Nat) : Int)), ((bld0 N lv).srt bs lk).mn, ((bld0 N lv).srt bs lk).mc, ((bld0 N lv).srt bs lk).mm, ((bld0 N lv).srt bs lk).S.length, (fun i => (((bld0 N lv).srt bs lk).S.getD i []).length), (fun i j => (((((bld0 N lv).srt bs lk).S.getD i []).getD j 0 : Nat) : Int)), ((bld0 N lv).srt bs lk).X.length, (fun i => (((bld0 N lv).srt bs lk).X.getD i []).length), (fun i j => (((bld0 N lv).srt bs lk).X.getD i []).getD j 0)), hreach, ⟨lr_ _, by show (0 + 1) * 24 ≤ _; omega, by show 0 + 1 ≤ maxLen; omega⟩, SubB_of_rsub (RSub.ar fun i hi => ?_) rfl, ?_⟩
  ·have hi : i < 1 := hi
   obtain rfl : i = 0 := by omega
   exact RSub.nilvec
  ·apply r18_0
   exact hL
end
end Go.Am.Seat

namespace Go.Am
open Go
structure Det {α : Type} (a0 : α) (tr : α → Nat → α) (al : α → Prop) (ru : α → Int) (d : Dfa) (lab : Nat → α) : Prop where
 st : d.st = 0
 pos : 1 ≤ d.nk
 rk : d.rk = d.nk
 ml : ∀ i, i < d.nk → d.ml i = d.ml 0
 zero : lab 0 = a0
 aliv : ∀ i, 0 < i → i < d.nk → al (lab i)
 inj : ∀ i j, i < d.nk → j < d.nk → lab i = lab j → i = j
 rule : ∀ i, i < d.nk → d.ru i = ru (lab i)
 cl : ∀ b, b < 256 → d.cl b < d.ml 0
 no : ∀ n b, n < d.nk → b < 256 → ¬ al (tr (lab n) b) → d.nx n (d.cl b) = -1
 go : ∀ n b, n < d.nk → b < 256 → al (tr (lab n) b) → ∃ m : Nat, d.nx n (d.cl b) = m ∧ m < d.nk ∧ lab m = tr (lab n) b
 bfs : ∀ m : Nat, 0 < m → m < d.nk → ∃ n b : Nat, n < m ∧ b < 256 ∧ d.nx n (d.cl b) = m ∧ ∀ n' b' : Nat, b' < 256 → Before n' b' n b → d.nx n' (d.cl b') < (m : Int)
 col : ∀ b b', b < 256 → b' < 256 → (∀ n : Nat, n < d.nk → d.nx n (d.cl b) = d.nx n (d.cl b')) → d.cl b = d.cl b'
 cls : ∀ c, c < d.ml 0 → ∃ b, b < 256 ∧ d.cl b = c ∧ ∀ b', b' < b → d.cl b' < c
section
variable {α β : Type} {a0 : α} {tr : α → Nat → α} {al : α → Prop} {ru : α → Int} {b0 : β} {tr' : β → Nat → β} {al' : β → Prop} {ru' : β → Int}
theorem Det.on {x : Dfa} {lab : Nat → α} (hx : Det a0 tr al ru x lab) {n b : Nat} (hn : n < x.nk) (hb : b < 256) {m : Nat} (hm : x.nx n (x.cl b) = m) : al (tr (lab n) b) ∧ m < x.nk ∧ lab m = tr (lab n) b := by
 by_cases h : al (tr (lab n) b)
 ·obtain ⟨m', h1, h2, h3⟩ := hx.go n b hn hb h
  obtain rfl : m' = m := by omega
  exact ⟨h, h2, h3⟩
 ·have := hx.no n b hn hb h
  omega
theorem Det.ge {x : Dfa} {lab : Nat → α} (hx : Det a0 tr al ru x lab) {n b : Nat} (hn : n < x.nk) (hb : b < 256) : -1 ≤ x.nx n (x.cl b) ∧ x.nx n (x.cl b) < (x.nk : Int) := by
 by_cases h : al (tr (lab n) b)
 ·obtain ⟨m', h1, h2, h3⟩ := hx.go n b hn hb h
  omega
 ·have := hx.no n b hn hb h
  have := hx.pos
  omega
structure Pair (a0 : α) (tr : α → Nat → α) (al : α → Prop) (ru : α → Int) (b0 : β) (tr' : β → Nat → β) (al' : β → Prop) (ru' : β → Int) (ρ : α → β → Prop) : Prop where
 zero : ρ a0 b0
 go : ∀ a b c, c < 256 → ρ a b → ρ (tr a c) (tr' b c)
 aliv : ∀ a b, ρ a b → (al a ↔ al' b)
 rule : ∀ a b, ρ a b → ru a = ru' b
 left : ∀ a a' b, ρ a b → ρ a' b → a = a'
 right : ∀ a b b', ρ a b → ρ a b' → b = b'
theorem Pair.symm {ρ : α → β → Prop} (h : Pair a0 tr al ru b0 tr' al' ru' ρ) : Pair b0 tr' al' ru' a0 tr al ru (fun b a => ρ a b) :=
 ⟨h.zero, fun b a c hc hr => h.go a b c hc hr, fun b a hr => (h.aliv a b hr).symm, fun b a hr => (h.rule a b hr).symm, fun b b' a h1 h2 => h.right a b b' h1 h2, fun b a a' h1 h2 => h.left a a' b h1 h2⟩
theorem Pair.id (a0 : α) (tr : α → Nat → α) (al : α → Prop) (ru : α → Int) : Pair a0 tr al ru a0 tr al ru Eq :=
 ⟨rfl, fun a b c _ h => by rw [h], fun a b h => by rw [h], fun a b h => by rw [h], fun a a' b h h' => h.trans h'.symm, fun a b b' h h' => h.symm.trans h'⟩
variable {ρ : α → β → Prop} {x y : Dfa} {lab : Nat → α} {lab' : Nat → β}
theorem Det.same (hx : Det a0 tr al ru x lab) (hy : Det b0 tr' al' ru' y lab') (h : Pair a0 tr al ru b0 tr' al' ru' ρ) : ∀ (k m : Nat), m < k → m < x.nk → m < y.nk ∧ ρ (lab m) (lab' m) := by
 intro k
 induction k with
 | zero => intro m hm; omega
 | succ k ih =>
  intro m hm hmx
  by_cases h0 : m = 0
  ·subst h0; exact ⟨hy.pos, by rw [hx.zero, hy.zero]; exact h.zero⟩
  obtain ⟨n, b, hn, hb, hg, hfirst⟩ := hx.bfs m (by omega) hmx
  obtain ⟨hny, hal⟩ := ih n (by omega) (by omega)
  obtain ⟨g1, _, g3⟩ := hx.on (by omega) hb hg
  have h1 := h.go _ _ b hb hal
  obtain ⟨m', k1, k2, k3⟩ := hy.go n b hny hb ((h.aliv _ _ h1).1 g1)
  rw [← g3, ← k3] at h1
  by_cases hlo : m' < m
  ·obtain ⟨_, h2⟩ := ih m' (by omega) (by omega)
   have := hx.inj m m' hmx (by omega) (h.left _ _ _ h1 h2)
   omega
  ·by_cases he : m' = m
   ·subst he
    exact ⟨by omega, h1⟩
   ·obtain ⟨n2, b2, hn2, hb2, hg2, hfirst2⟩ := hy.bfs m (by omega) (by omega)
    have hah : Before n2 b2 n b := by
     by_cases hd : Before n2 b2 n b
     ·exact hd
     ·by_cases heq : n2 = n ∧ b2 = b
      ·obtain ⟨rfl, rfl⟩ := heq
       omega
      ·have := hfirst2 n b hb (by unfold Before at hd ⊢; omega)
       omega
    obtain ⟨hn2y, hal2⟩ := ih n2 (by omega) (by omega)
    obtain ⟨y1, _, y3⟩ := hy.on hn2y hb2 hg2
    have h3 := h.go _ _ b2 hb2 hal2
    obtain ⟨j, j1, j2, j3⟩ := hx.go n2 b2 (by omega) hb2 ((h.aliv _ _ h3).2 y1)
    have hlt2 := hfirst n2 b2 hb2 hah
    rw [← y3, ← j3] at h3
    obtain ⟨hjy, hjal⟩ := ih j (by omega) (by omega)
    have := hy.inj j m hjy (by omega) (h.right _ _ _ hjal h3)
    omega
theorem Det.cl_le (hx : Det a0 tr al ru x lab) (hy : Det b0 tr' al' ru' y lab') {b : Nat} (hb : b < 256)
  (hcol : ∀ b b', b < 256 → b' < 256 → (x.cl b = x.cl b' ↔ y.cl b = y.cl b')) (ih : ∀ b', b' < b → x.cl b' = y.cl b') : y.cl b ≤ x.cl b := by
 by_cases hlt : x.cl b < y.cl b
 ·exfalso
  obtain ⟨b0, hb0, hc0, hf0⟩ := hy.cls (x.cl b) (Nat.lt_trans hlt (hy.cl b hb))
  by_cases h1 : b0 < b
  ·have := ih b0 h1
   have := (hcol b0 b hb0 hb).1 (by omega)
   omega
  ·by_cases h2 : b0 = b
   ·subst h2; omega
   ·have := hf0 b (by omega); omega
 ·omega
theorem Det.uniq (hx : Det a0 tr al ru x lab) (hy : Det b0 tr' al' ru' y lab') (h : Pair a0 tr al ru b0 tr' al' ru' ρ) : EqDfa x y := by
 have e1 := hx.same hy h
 have e2 := hy.same hx h.symm
 have hnk : x.nk = y.nk := by
  by_cases hlt : x.nk < y.nk
  ·have := (e2 (x.nk + 1) x.nk (by omega) hlt).1; omega
  ·by_cases hgt : y.nk < x.nk
   ·have := (e1 (y.nk + 1) y.nk (by omega) hgt).1; omega
   ·omega
 have hal : ∀ m : Nat, m < x.nk → ρ (lab m) (lab' m) := fun m hm => (e1 (m + 1) m (by omega) hm).2
 have hgo : ∀ (i b : Nat), i < x.nk → b < 256 → x.nx i (x.cl b) = y.nx i (y.cl b) := by
  intro i b hi hb
  have h1 := h.go _ _ b hb (hal i hi)
  by_cases hn : al (tr (lab i) b)
  ·obtain ⟨m, m1, m2, m3⟩ := hx.go i b hi hb hn
   obtain ⟨m', n1, n2, n3⟩ := hy.go i b (by omega) hb ((h.aliv _ _ h1).1 hn)
   rw [← m3, ← n3] at h1
   have := hx.inj m m' m2 (by omega) (h.left _ _ _ h1 (hal m' (by omega)))
   rw [m1, n1, this]
  ·rw [hx.no i b hi hb hn, hy.no i b (by omega) hb fun k => hn ((h.aliv _ _ h1).2 k)]
 have colx : ∀ b b', b < 256 → b' < 256 → (x.cl b = x.cl b' ↔ ∀ n : Nat, n < x.nk → x.nx n (x.cl b) = x.nx n (x.cl b')) := fun b b' hb hb' =>
  ⟨fun he n hn => by rw [he], fun he => hx.col b b' hb hb' he⟩
 have coly : ∀ b b', b < 256 → b' < 256 → (y.cl b = y.cl b' ↔ ∀ n : Nat, n < y.nk → y.nx n (y.cl b) = y.nx n (y.cl b')) := fun b b' hb hb' =>
  ⟨fun he n hn => by rw [he], fun he => hy.col b b' hb hb' he⟩
 have hcol : ∀ b b', b < 256 → b' < 256 → (x.cl b = x.cl b' ↔ y.cl b = y.cl b') := fun b b' hb hb' => by
  rw [colx b b' hb hb', coly b b' hb hb', ← hnk]
  constructor
  ·intro hh n hn; rw [← hgo n b hn hb, ← hgo n b' hn hb']; exact hh n hn
  ·intro hh n hn; rw [hgo n b hn hb, hgo n b' hn hb']; exact hh n hn
 have hcl : ∀ k b, b < k → b < 256 → x.cl b = y.cl b := by
  intro k
  induction k with
  | zero => intro b hb; omega
  | succ k ih =>
   intro b hk hb
   have a1 := hx.cl_le hy hb hcol (fun b' hb' => ih b' (by omega) (by omega))
   have a2 := hy.cl_le hx hb (fun c c' hc hc' => (hcol c c' hc hc').symm) (fun b' hb' => (ih b' (by omega) (by omega)).symm)
   omega
 have hcl' : ∀ b, b < 256 → x.cl b = y.cl b := fun b hb => hcl (b + 1) b (by omega) hb
 have hml : x.ml 0 = y.ml 0 := by
  by_cases hlt : x.ml 0 < y.ml 0
  ·obtain ⟨b, hb, hc, _⟩ := hy.cls (x.ml 0) hlt
   have := hx.cl b hb; rw [hcl' b hb] at this; omega
  ·by_cases hgt : y.ml 0 < x.ml 0
   ·obtain ⟨b, hb, hc, _⟩ := hx.cls (y.ml 0) hgt
    have := hy.cl b hb; rw [← hcl' b hb] at this; omega
   ·omega
 refine ⟨by rw [hx.st, hy.st], hcl', hnk, fun i hi => ?_, fun i c hi hc => ?_, by rw [hx.rk, hy.rk, hnk], fun i hi => ?_⟩
 ·rw [hx.ml i hi, hy.ml i (by omega), hml]
 ·rw [hx.ml i hi] at hc
  obtain ⟨b, hb, hcb, _⟩ := hx.cls c hc
  rw [← hcb, hgo i b hi hb, hcl' b hb]
 ·rw [hx.rk] at hi
  rw [hx.rule i hi, hy.rule i (by omega)]
  exact h.rule _ _ (hal i hi)
inductive Come (a0 : α) (tr : α → Nat → α) (al : α → Prop) : α → Prop
 | zero : Come a0 tr al a0
 | go {a : α} {c : Nat} : Come a0 tr al a → c < 256 → al (tr a c) → Come a0 tr al (tr a c)
theorem Det.come (hx : Det a0 tr al ru x lab) {a : α} (h : Come a0 tr al a) : ∃ i, i < x.nk ∧ lab i = a := by
 induction h with
 | zero => exact ⟨0, hx.pos, hx.zero⟩
 | go _ hc ha ih =>
  obtain ⟨i, hi, rfl⟩ := ih
  obtain ⟨m, _, h2, h3⟩ := hx.go i _ hi hc ha
  exact ⟨m, h2, h3⟩
end
end Go.Am

namespace Go.Am.Seat
open Go Go.Am

def AlN (N : Nfa) (c : List Nat) : Prop := ∃ s, s ∈ c ∧ LiveN N s
def IsDfa (N : Nfa) (d : Dfa) (lab : Nat → List Nat) : Prop := Det (clos N [N.st.toNat]) (trL N) (AlN N) (fun c => ruleGo N c (-1)) d lab
theorem FreeR.live {N : Nfa} {l : List Nat} {s : Nat} (h : FreeR N l s) (hl : LiveN N s) : ∃ t, t ∈ l ∧ LiveN N t := by
 induction h with
 | base h => exact ⟨_, h, hl⟩
 | step h hj ih => exact ih (.go (.inr ⟨_, rfl, hj, rfl⟩) hl)
theorem mem_clos {N : Nfa} (hv : N.valid) {l : List Nat} (hl : ∀ s ∈ l, s < N.n) {s : Nat} : s ∈ clos N l ↔ FreeR N l s := (clos_is hv hl).mem s
theorem al_back {N : Nfa} (hv : N.valid) {c : List Nat} (hc : ∀ s ∈ c, s < N.n) {b : Nat} (hb : b < 256) (h : AlN N (trL N c b)) : AlN N c := by
 obtain ⟨s, hs, hl⟩ := h
 obtain ⟨t, ht, hl⟩ := ((mem_clos hv (stepL_lt hv hc b)).1 hs).live hl
 unfold stepL at ht
 obtain ⟨u, hu, rfl⟩ := List.mem_map.1 ht
 obtain ⟨h1, h2⟩ := List.mem_filter.1 hu
 simp only [ba_, decide_eq_true_eq] at h2
 exact ⟨u, h1, .go (.inl ⟨rfl, h2.1, ⟨b, hb, h2.2⟩, rfl⟩) hl⟩
theorem stepL_congr {N : Nfa} {l : List Nat} {b c : Nat} (h : ∀ s ∈ l, 0 ≤ N.to s → N.set s b = N.set s c) : stepL N l b = stepL N l c := by
 unfold stepL
 congr 1
 refine List.filter_congr fun s hs => ?_
 by_cases h0 : 0 ≤ N.to s
 ·rw [h s hs h0]
 ·simp [h0]
theorem ruleGo_none {N : Nfa} : ∀ {l : List Nat}, (∀ s ∈ l, N.ru s < 0) → ruleGo N l (-1) = -1
 | [], _ => rfl
 | s :: l, h => by
  unfold ruleGo
  rw [if_neg (fun k => by have := h s mf_; omega)]
  exact ruleGo_none fun t ht => h t (mc_ _ ht)
theorem trL_nil {N : Nfa} (hv : N.valid) (b : Nat) : trL N [] b = [] := by
 have h : stepL N [] b = [] := rfl
 unfold trL
 rw [h]
 cases hc : clos N [] with
 | nil => rfl
 | cons s l =>
  have hs : s ∈ clos N [] := by rw [hc]; exact mf_
  have := (mem_clos hv (fun s hs => by cases hs)).1 hs
  exfalso
  clear hs hc
  induction this with
  | base h => cases h
  | step _ _ ih => exact ih
theorem OfInv.nx {N : Nfa} {B : Bld} {z : Nat} (h : OfInv N B z) {ofl first : List Nat} (hO : ofl.length = B.bs.length) (hC : Cls B.X ofl first) {n b : Nat} (hn : n < B.X.length) (hb : b < 256) : (dfaOf B ofl first).nx n ((dfaOf B ofl first).cl b) = (B.X.getD n []).getD (B.lk b) 0 := by
 have hl := h.srt.lt b hb
 obtain ⟨c1, c2⟩ := hC.lt (B.lk b) (by omega)
 have e := congrArg (fun l => l.getD n 0) c2
 rw [colL_at hn, colL_at hn] at e
 obtain ⟨c3, _⟩ := hC.at_ _ c1
 have h1 := (h.lt hn (j := first.getD (ofl.getD (B.lk b) 0) 0) (by omega)).1
 have h2 := (h.lt hn hl).1
 show (B.X.getD n []).getD (first.getD (ofl.getD (B.lk b) 0) 0) 0 = _
 omega
section
variable {N : Nfa} {B : Bld} {z : Nat} (hv : N.valid) (h : OfInv N B z)
include h
theorem OfInv.any {c : List Nat} (hc : ∀ s ∈ c, s < N.n) : c.any B.lv = true ↔ AlN N c := by
 rw [List.any_eq_true]
 exact ⟨fun ⟨s, h1, h2⟩ => ⟨s, h1, (h.lv s (hc s h1)).1 h2⟩, fun ⟨s, h1, h2⟩ => ⟨s, h1, (h.lv s (hc s h1)).2 h2⟩⟩
noncomputable def labB (N : Nfa) (B : Bld) (i : Nat) : List Nat := if i = 0 then clos N [N.st.toNat] else B.S.getD i []
theorem OfInv.lab {i : Nat} (hi : z ≤ i) : labB N B i = B.S.getD i [] := by
 unfold labB
 split
 ·rename_i e
  subst e
  rcases h.zero with ⟨_, e, _⟩ | ⟨e, _⟩
  ·exact e.symm
  ·omega
 ·rfl
theorem OfInv.lab_lt {i : Nat} (hi : i < B.S.length) : ∀ s ∈ labB N B i, s < N.n := by
 unfold labB
 split
 ·exact fun s hs => clos_lt s hs
 ·exact (h.srow i hi).1
theorem OfInv.dead (hz : z = 1) : ¬ AlN N (clos N [N.st.toNat]) := by
 rcases h.zero with ⟨e, _⟩ | ⟨_, _, e⟩
 ·omega
 ·intro ha
  rw [(h.any fun s hs => clos_lt s hs).2 ha] at e
  cases e
theorem OfInv.byte {n b : Nat} (hns : n < B.S.length) (hb : b < 256) : trL N (labB N B n) b = trL N (labB N B n) (B.bs.getD (B.lk b) 0) := by
 unfold trL
 rw [stepL_congr fun s hs h0 => h.srt.same b hb s (h.lab_lt hns s hs) h0]
theorem OfInv.inj {i j : Nat} (hi : i < B.S.length) (hj : j < B.S.length) (he : labB N B i = labB N B j) : i = j := by
 have key : ∀ i j, z ≤ i → z ≤ j → i < B.S.length → j < B.S.length → labB N B i = labB N B j → i = j := fun i j h1 h2 h3 h4 he => by
  rw [h.lab h1, h.lab h2] at he
  obtain ⟨c1, e1⟩ := h.num.has i h1 h3
  obtain ⟨c2, e2⟩ := h.num.has j h2 h4
  rw [he, e2] at e1
  simp only [oi_, pi_] at e1
  omega
 have hd : ∀ j, z ≤ j → j < B.S.length → z = 1 → labB N B 0 ≠ labB N B j := fun j h1 h2 hz he => by
  have h3 := (h.any (h.srow j h2).1).1 (h.aliv j h1 h2)
  rw [← h.lab h1, ← he] at h3
  exact h.dead hz h3
 have hz1 := h.z1
 by_cases h1 : z ≤ i <;> by_cases h2 : z ≤ j
 ·exact key i j h1 h2 hi hj he
 ·obtain rfl : j = 0 := by omega
  exact absurd he.symm (hd i h1 hi (by omega))
 ·obtain rfl : i = 0 := by omega
  exact absurd he (hd j h2 hj (by omega))
 ·omega
include hv
theorem OfInv.at_ {n j : Nat} (hn : n < B.X.length) (hns : n < B.S.length) (hj : j < B.bs.length) :
  (¬ AlN N (trL N (labB N B n) (B.bs.getD j 0)) ∧ (B.X.getD n []).getD j 0 = -1) ∨
  (AlN N (trL N (labB N B n) (B.bs.getD j 0)) ∧ ∃ i : Nat, (B.X.getD n []).getD j 0 = i ∧ z ≤ i ∧ i < B.S.length ∧ labB N B i = trL N (labB N B n) (B.bs.getD j 0)) := by
 have hb8 := (h.srt.at_ j hj).1
 by_cases hzn : z ≤ n
 ·rw [h.lab hzn]
  rcases h.val n j hn hj with ⟨a, e⟩ | ⟨a, i, e1, e2, e3, e4⟩
  ·refine .inl ⟨fun k => ?_, e⟩
   rw [(h.any fun s hs => trL_lt s hs).2 k] at a
   cases a
  ·exact .inr ⟨(h.any fun s hs => trL_lt s hs).1 a, i, e1, e2, e3, by rw [h.lab e2]; exact e4⟩
 ·have hz1 := h.z1
  have hz : z = 1 := by omega
  obtain rfl : n = 0 := by omega
  have hd := h.dead hz
  have h0 : B.S.getD 0 [] = [] := by
   rcases h.zero with ⟨e, _⟩ | ⟨_, e, _⟩
   ·omega
   ·exact e
  refine .inl ⟨fun k => hd (al_back hv (fun s hs => clos_lt s hs) hb8 k), ?_⟩
  rcases h.val 0 j hn hj with ⟨a, e⟩ | ⟨a, _⟩
  ·exact e
  ·rw [h0, trL_nil hv] at a; cases a
theorem OfInv.come (hx : B.X.length ≤ B.S.length) : ∀ (k m : Nat), m < k → m < B.S.length → Come (clos N [N.st.toNat]) (trL N) (AlN N) (labB N B m) := by
 intro k
 induction k with
 | zero => intro m hm; omega
 | succ k ih =>
  intro m hm hms
  by_cases h0 : m = 0
  ·subst h0; exact .zero
  ·obtain ⟨n, j, n1, n2, n3, n4, _⟩ := h.bfs m (by omega) hms
   rcases h.at_ hv n1 (by omega) n3 with ⟨_, e⟩ | ⟨a, i, e1, e2, e3, e4⟩
   ·omega
   ·obtain rfl : i = m := by omega
    rw [e4] at *
    exact .go (ih n (by omega) (by omega)) (h.srt.at_ j n3).1 a
variable {ofl first : List Nat} (hXS : B.X.length = B.S.length) (hO : ofl.length = B.bs.length) (hC : Cls B.X ofl first) (hD : ∀ a b, a < first.length → b < first.length → colL B.X (first.getD a 0) = colL B.X (first.getD b 0) → a = b)
include hXS hO hC
include hD
theorem OfInv.det : IsDfa N (dfaOf B ofl first) (labB N B) := by
 have hz1 := h.z1
 refine { st := rfl, pos := by show 1 ≤ B.X.length; have := h.pos; omega, rk := rfl, ml := fun _ _ => rfl, zero := if_pos rfl, aliv := fun i h0 hi => ?_, inj := fun i j hi hj he => ?_, rule := fun i hi => ?_, cl := fun b hb => ?_, no := fun n b hn hb ha => ?_, go := fun n b hn hb ha => ?_, bfs := fun m h0 hm => ?_, col := fun b b' hb hb' he => ?_, cls := fun c hc => ?_ }
 ·have hi : i < B.X.length := hi
  rw [h.lab (by omega)]
  exact (h.any (h.srow i (by omega)).1).1 (h.aliv i (by omega) (by omega))
 ·have hi : i < B.X.length := hi
  have hj : j < B.X.length := hj
  exact h.inj (by omega) (by omega) he
 ·have hi : i < B.X.length := hi
  show ruleGo B.N (B.S.getD i []) (-1) = ruleGo N (labB N B i) (-1)
  rw [h.N_]
  by_cases hz : z ≤ i
  ·rw [h.lab hz]
  ·obtain rfl : i = 0 := by omega
   rcases h.zero with ⟨e, _⟩ | ⟨e1, e2, _⟩
   ·omega
   ·rw [e2]
    show -1 = ruleGo N (clos N [N.st.toNat]) (-1)
    rw [ruleGo_none fun s hs => ?_]
    by_cases hr : N.ru s < 0
    ·exact hr
    ·exact absurd ⟨s, hs, .rule (by omega)⟩ (h.dead e1)
 ·exact (hC.lt (B.lk b) (by have := h.srt.lt b hb; omega)).1
 ·have hn : n < B.X.length := hn
  have hl := h.srt.lt b hb
  rw [h.nx hO hC hn hb]
  rw [h.byte (by omega) hb] at ha
  rcases h.at_ hv hn (by omega) hl with ⟨_, e⟩ | ⟨a, _⟩
  ·exact e
  ·exact absurd a ha
 ·have hn : n < B.X.length := hn
  have hl := h.srt.lt b hb
  rw [h.nx hO hC hn hb]
  rw [h.byte (by omega) hb] at ha ⊢
  rcases h.at_ hv hn (by omega) hl with ⟨a, _⟩ | ⟨_, i, e1, _, e3, e4⟩
  ·exact absurd ha a
  ·exact ⟨i, e1, by show i < B.X.length; omega, e4⟩
 ·have hm : m < B.X.length := hm
  obtain ⟨n, j, n1, n2, n3, n4, n5⟩ := h.bfs m h0 (by omega)
  obtain ⟨b1, b2, b3⟩ := h.srt.at_ j n3
  refine ⟨n, B.bs.getD j 0, n2, b1, ?_, fun n' b' hb' hbe => ?_⟩
  ·rw [h.nx hO hC n1 b1, b2]; exact n4
  ·have hn' : n' < B.X.length := by unfold Before at hbe; omega
   rw [h.nx hO hC hn' hb']
   refine n5 n' (B.lk b') (h.srt.lt b' hb') ?_
   rcases hbe with hbe | ⟨hbe, hbb⟩
   ·exact .inl hbe
   ·exact .inr ⟨hbe, b3 b' hbb⟩
 ·have hl := h.srt.lt b hb
  have hl' := h.srt.lt b' hb'
  obtain ⟨c1, c2⟩ := hC.lt (B.lk b) (by omega)
  obtain ⟨c1', c2'⟩ := hC.lt (B.lk b') (by omega)
  refine hD _ _ c1 c1' ?_
  show colL B.X (first.getD (ofl.getD (B.lk b) 0) 0) = colL B.X (first.getD (ofl.getD (B.lk b') 0) 0)
  rw [c2, c2']
  apply List.ext_getElem (by rw [colL_len, colL_len])
  intro n n1 n2
  have hn : n < B.X.length := by rw [colL_len] at n1; exact n1
  have := he n hn
  rw [h.nx hO hC hn hb, h.nx hO hC hn hb'] at this
  have e1 := colL_at (i := B.lk b) hn
  have e2 := colL_at (i := B.lk b') hn
  rw [gd_, ge_ n1] at e1
  rw [gd_, ge_ n2] at e2
  have e1 : (colL B.X (B.lk b))[n] = _ := e1
  have e2 : (colL B.X (B.lk b'))[n] = _ := e2
  rw [e1, e2, this]
 ·have hc : c < first.length := hc
  obtain ⟨c1, c2, c3⟩ := hC.at_ c hc
  obtain ⟨b1, b2, b3⟩ := h.srt.at_ (first.getD c 0) (by omega)
  refine ⟨_, b1, ?_, fun b' hb' => ?_⟩
  ·show ofl.getD (B.lk _) 0 = c
   rw [b2]; exact c2
  ·exact c3 _ (b3 b' hb')
end
end Go.Am.Seat

namespace Go.Am.Seat
open Go Go.Am

theorem sameInts_loop (n : Nat) (hn : n ≤ 9223372036854775807) (f g : Nat → Int) (h : ∀ i, i < n → f i = g i) : ∀ m i, i + m = n → L33_0 n f n g (i : Int) (.sc (.bool true)) := by
 intro m
 induction m with
 | zero =>
  intro i hi
  apply r33_0
  exact ⟨fun h => by have := dt_ h; omega, fun _ => Sub.refl _⟩
 | succ m ih =>
  intro i hi
  apply r33_0
  rw [wrapSucc (by omega)]
  simp only [tn_]
  refine ⟨fun _ => ⟨⟨by omega, by omega⟩, ⟨by omega, by omega⟩, fun hc => ?_, fun _ => ih (i + 1) (by omega)⟩, fun h => by have := df_ h; omega⟩
  exfalso
  rw [h i (by omega)] at hc
  simp at hc
theorem sameInts_true (n : Nat) (f g : Nat → Int) (h : ∀ i, i < n → f i = g i) : Ok Proofs.Try.prog 33 [rowA n f, rowA n g] [] (.sc (.bool true)) [] := by
 refine o33 _ _ _ _ _ trivial ?_
 apply a33_e
 intro hf
 have hn : n ≤ 9223372036854775807 := (hf 0).1
 apply r33_e
 exact ⟨fun h => by simp at h, fun _ => sameInts_loop n hn f g h n 0 (by omega)⟩
end Go.Am.Seat

namespace Go.Am.Seat
open Go Go.Am

theorem word_put (p : Nat → Bool) (b : Nat) : word p (b / 64) ||| 2 ^ (b % 64) = word (fun c => p c || c == b) (b / 64) := by
 apply Nat.eq_of_testBit_eq
 intro k
 unfold word
 rw [Nat.testBit_or, ofB_testBit, ofB_testBit, Nat.testBit_two_pow]
 by_cases hk : k < 64
 ·simp only [hk, decide_true, Bool.true_and]
  congr 1
  rw [Bool.eq_iff_iff]
  simp
  omega
 ·simp [hk]; omega
theorem word_off (p : Nat → Bool) {b i : Nat} (he : i ≠ b / 64) : word p i = word (fun c => p c || c == b) i := by
 unfold word
 refine ofB_congr fun k hk => ?_
 have : (64 * i + k == b) = false := by simp; omega
 simp [this]
def spanB (a b : Nat) (c : Nat) : Bool := decide (a ≤ c) && decide (c ≤ b)
theorem idiv {b : Nat} (hb : b < 256) : IntKind.i64.wrap (((b : Nat) : Int).tdiv 64) = ((b / 64 : Nat) : Int) := by
 rw [Int.tdiv_eq_ediv_of_nonneg (by omega), wrap_i64 (by omega) (by omega)]; rfl
theorem span_loop (a b : Nat) (hb : b < 256) : ∀ (m c : Nat) (f g : Nat → Int), (c + m = b + 1 ∨ (m = 0 ∧ b < c)) → (a ≤ c) → (∀ i, i < 4 → g i = ((word (fun x => decide (a ≤ x) && decide (x < c)) i : Nat) : Int)) → (b < c → ∀ i, i < 4 → word (fun x => decide (a ≤ x) && decide (x < c)) i = word (spanB a b) i) →
  L59_0 (b : Int) (c : Int) f g (setA (spanB a b)) := by
 intro m
 induction m with
 | zero =>
  intro c f g hc ha hg he
  apply r59_0
  rw [wrap_i64 (n := (b : Int)) (by omega) (by omega)]
  refine ⟨fun h => by have := dt_ h; omega, fun _ => Sub.ar fun i hi => ?_⟩
  rw [hg i hi, he (by omega) i hi]
 | succ m ih =>
  intro c f g hc ha hg he
  have hcb : c ≤ b := by omega
  have hl : 2 ^ (c % 64) < 18446744073709551616 := Nat.lt_of_lt_of_le (Nat.pow_lt_pow_right (by omega) (show c % 64 < 64 by omega)) (by decide)
  have h1 : IntKind.u64.wrap (1 * 2 ^ min (c % 64) IntKind.u64.bits) = ((2 ^ (c % 64) : Nat) : Int) := by
   have hm : min (c % 64) IntKind.u64.bits = c % 64 := Nat.min_eq_left (show c % 64 ≤ 64 by omega)
   rw [hm, Int.one_mul, show ((2 : Int) ^ (c % 64)) = ((2 ^ (c % 64) : Nat) : Int) by rw [Int.natCast_pow]; rfl]
   exact wrap_u64 (Int.natCast_nonneg _) (Int.ofNat_lt.2 hl)
  have h2 := hg (c / 64) (by omega)
  apply r59_0
  simp only [idiv (show c < 256 by omega), imod, tn_, h1, h2, or64 (word_lt _ _) hl, word_put]
  rw [wrap_i64 (n := (b : Int)) (by omega) (by omega), wrapSucc (n := c) (by omega)]
  refine ⟨fun _ => ⟨⟨by omega, by omega⟩, by omega, by omega, ?_⟩, fun h => by have := df_ h; omega⟩
  have hw : ∀ i, word (fun x => (decide (a ≤ x) && decide (x < c)) || x == c) i = word (fun x => decide (a ≤ x) && decide (x < c + 1)) i := fun i => by
   unfold word
   refine ofB_congr fun k hk => ?_
   rw [Bool.eq_iff_iff]
   simp
   omega
  refine ih (c + 1) f _ (by omega) (by omega) (fun i hi => ?_) (fun hbc i hi => ?_)
  ·rw [bifBeq]
   split
   ·rename_i e; rw [e, hw]
   ·rename_i e; rw [hg i hi, word_off _ e, hw]
  ·unfold word
   refine ofB_congr fun k hk => ?_
   unfold spanB
   rw [Bool.eq_iff_iff]
   simp
   omega
theorem span_ok (a b : Nat) (ha : a < 256) (hb : b < 256) (hab : a ≤ b) : Ok Proofs.Try.prog 59 [.sc (.int .u8 (a : Int)), .sc (.int .u8 (b : Int))] [] (setA (spanB a b)) [] := by
 refine o59 _ _ _ (fun _ _ => trivial) ?_
 apply r59_e
 rw [wrap_i64 (by omega) (by omega)]
 refine span_loop a b hb (b + 1 - a) a _ _ (by omega) (lr_ _) (fun i hi => ?_) (fun h => by omega)
 have : word (fun x => decide (a ≤ x) && decide (x < a)) i = word (fun _ => false) i := by
  unfold word
  refine ofB_congr fun k hk => ?_
  rw [Bool.eq_iff_iff]
  simp
 rw [this]
 have h0 : ∀ n, ofB n (fun _ => false) = 0 := fun n => by
  induction n with
  | zero => rfl
  | succ n ih => simp [ofB, ih]
 unfold word
 rw [h0]
 rfl
def kN : Nfa where
 st := 0
 n := 6
 set := fun i b => if i = 1 then spanB 105 105 b else if i = 2 then spanB 102 102 b else if i = 4 then spanB 97 122 b else false
 to := fun i => ([-1, 2, 3, -1, 5, -1] : List Int).getD i 0
 fn := fun i => ([2, 0, 0, 0, 0, 1] : List Nat).getD i 0
 fr := fun i j => (([[1, 4], [], [], [], [], [4]] : List (List Int)).getD i []).getD j 0
 ru := fun i => ([-1, -1, -1, 0, -1, 1] : List Int).getD i 0
theorem word_none (i : Nat) : word (fun _ => false) i = 0 := by
 have h0 : ∀ n, ofB n (fun _ => false) = 0 := fun n => by
  induction n with
  | zero => rfl
  | succ n ih => simp [ofB, ih]
 unfold word
 exact h0 64
theorem known_ok : Ok Proofs.Try.prog 32 [] [] (nfaA false kN) [] := by
 refine o32 _ ⟨trivial, ⟨rfl, fun _ _ => ⟨fun _ _ => trivial, trivial, ⟨rfl, fun _ _ => trivial⟩, trivial, trivial⟩⟩, trivial⟩ ?_
 apply r32_e
 have hset : ∀ (f : Nat → Int) (p : Nat → Bool), (∀ k, f k = ((word p k : Nat) : Int)) → RSub (.ar 4 1 (fun k => .sc (.int .u64 (f k)))) (setA p) := fun f p h => RSub.ar fun k hk => RSub.of_eq (by rw [h k])
 have e0 : ∀ k, (0 : Int) = ((word (fun _ => false) k : Nat) : Int) := fun k => by rw [word_none]; rfl
 refine ⟨_, span_ok 105 105 (by omega) (by omega) (by omega), _, span_ok 102 102 (by omega) (by omega) (by omega), _, span_ok 97 122 (by omega) (by omega) (by omega), ?_⟩
 refine Sub.of_R (RSub.cons (RSub.refl _) (RSub.cons (RSub.vec id (lr_ _) (lr_ _) fun i hi => ?_) (RSub.refl _))) rfl trivial trivial
 have hi : i < 6 := hi
 have rw2 : ∀ f : Nat → Int, f 0 = 1 → f 1 = 4 → RSub (.vec false 1 2 2 (fun j => .sc (.int .i64 (f j)))) (.vec false 1 2 2 (fun j => .sc (.int .i64 (kN.fr 0 j)))) := fun f h0 h1 =>
  RSub.vec id (lr_ _) (lr_ _) fun j hj => RSub.of_eq (by
   rcases (show j = 0 ∨ j = 1 by omega) with rfl | rfl
   ·rw [h0]; rfl
   ·rw [h1]; rfl)
 have rw1 : ∀ f : Nat → Int, f 0 = 4 → RSub (.vec false 1 1 1 (fun j => .sc (.int .i64 (f j)))) (.vec false 1 1 1 (fun j => .sc (.int .i64 (kN.fr 5 j)))) := fun f h0 =>
  RSub.vec id (lr_ _) (lr_ _) fun j hj => RSub.of_eq (by
   obtain rfl : j = 0 := by omega
   rw [h0]; rfl)
 rcases (show i = 0 ∨ i = 1 ∨ i = 2 ∨ i = 3 ∨ i = 4 ∨ i = 5 by omega) with rfl | rfl | rfl | rfl | rfl | rfl
 ·exact RSub.cons (hset _ _ e0) (RSub.cons (RSub.refl _) (RSub.cons (rw2 _ rfl rfl) (RSub.cons (RSub.refl _) (RSub.refl _))))
 ·exact RSub.cons (hset _ _ fun k => rfl) (RSub.cons (RSub.refl _) (RSub.cons RSub.nilvec (RSub.cons (RSub.refl _) (RSub.refl _))))
 ·exact RSub.cons (hset _ _ fun k => rfl) (RSub.cons (RSub.refl _) (RSub.cons RSub.nilvec (RSub.cons (RSub.refl _) (RSub.refl _))))
 ·exact RSub.cons (hset _ _ e0) (RSub.cons (RSub.refl _) (RSub.cons RSub.nilvec (RSub.cons (RSub.refl _) (RSub.refl _))))
 ·exact RSub.cons (hset _ _ fun k => rfl) (RSub.cons (RSub.refl _) (RSub.cons RSub.nilvec (RSub.cons (RSub.refl _) (RSub.refl _))))
 ·exact RSub.cons (hset _ _ e0) (RSub.cons (RSub.refl _) (RSub.cons (rw1 _ rfl) (RSub.cons (RSub.refl _) (RSub.refl _))))
end Go.Am.Seat

namespace Go.Am.Seat
open Go Go.Am

def kX : Dfa where
 st := 0
 cl := fun b => if b = 102 then 2 else if b = 105 then 3 else if 97 ≤ b ∧ b ≤ 122 then 1 else 0
 nk := 4
 ml := fun _ => 4
 nx := fun i c => (([[-1, 1, 1, 2], [-1, 1, 1, 1], [-1, 1, 3, 1], [-1, 1, 1, 1]] : List (List Int)).getD i []).getD c 0
 rk := 4
 ru := fun i => ([-1, 1, 1, 0] : List Int).getD i 0
def kL (i : Nat) : List Nat := ([[0, 1, 4], [4, 5], [2, 4, 5], [3, 4, 5]] : List (List Nat)).getD i []
theorem kN_valid : kN.valid := by
 refine ⟨by decide, by decide, fun i hi => ?_⟩
 have hi : i < 6 := hi
 rcases (show i = 0 ∨ i = 1 ∨ i = 2 ∨ i = 3 ∨ i = 4 ∨ i = 5 by omega) with rfl | rfl | rfl | rfl | rfl | rfl
 all_goals
  refine ⟨by decide, by decide, fun j hj => ?_⟩
 ·have hj : j < 2 := hj
  rcases (show j = 0 ∨ j = 1 by omega) with rfl | rfl <;> decide
 ·have hj : j < 0 := hj; omega
 ·have hj : j < 0 := hj; omega
 ·have hj : j < 0 := hj; omega
 ·have hj : j < 0 := hj; omega
 ·have hj : j < 1 := hj
  obtain rfl : j = 0 := by omega
  decide
theorem kN_err : kN.err = 0 := by
 rw [nErr_zero]
 exact ⟨by decide, kN_valid⟩
theorem kN_clos {l c : List Nat} (h1 : c.Pairwise (· < ·)) (h2 : ∀ s ∈ l, s ∈ c) (h3 : ∀ s ∈ c, s ∈ l ∨ (s = 1 ∧ 0 ∈ l) ∨ (s = 4 ∧ (0 ∈ l ∨ 5 ∈ l))) (h4 : 0 ∈ c → 1 ∈ c ∧ 4 ∈ c) (h5 : 5 ∈ c → 4 ∈ c) (hl : ∀ s ∈ l, s < 6) : clos kN l = c := by
 refine (IsClos.eq (N := kN) kN_valid hl ⟨h1, fun s => ⟨fun hs => ?_, fun hs => ?_⟩⟩).symm
 ·rcases h3 s hs with h | ⟨rfl, h⟩ | ⟨rfl, h | h⟩
  ·exact .base h
  ·exact FreeR.step (s := 0) (j := 0) (.base h) (by decide)
  ·exact FreeR.step (s := 0) (j := 1) (.base h) (by decide)
  ·exact FreeR.step (s := 5) (j := 0) (.base h) (by decide)
 ·induction hs with
  | base h => exact h2 _ h
  | @step s j hs hj ih =>
   have hs6 : s < 6 := hs.lt kN_valid hl
   rcases (show s = 0 ∨ s = 1 ∨ s = 2 ∨ s = 3 ∨ s = 4 ∨ s = 5 by omega) with rfl | rfl | rfl | rfl | rfl | rfl
   ·have hj : j < 2 := hj
    rcases (show j = 0 ∨ j = 1 by omega) with rfl | rfl
    ·exact (h4 ih).1
    ·exact (h4 ih).2
   ·have hj : j < 0 := hj; omega
   ·have hj : j < 0 := hj; omega
   ·have hj : j < 0 := hj; omega
   ·have hj : j < 0 := hj; omega
   ·have hj : j < 1 := hj
    obtain rfl : j = 0 := by omega
    exact h5 ih
theorem kC0 : clos kN [0] = [0, 1, 4] := kN_clos (by decide) (by decide) (by decide) (by decide) (by decide) (by decide)
theorem kC5 : clos kN [5] = [4, 5] := kN_clos (by decide) (by decide) (by decide) (by decide) (by decide) (by decide)
theorem kC25 : clos kN [2, 5] = [2, 4, 5] := kN_clos (by decide) (by decide) (by decide) (by decide) (by decide) (by decide)
theorem kC35 : clos kN [3, 5] = [3, 4, 5] := kN_clos (by decide) (by decide) (by decide) (by decide) (by decide) (by decide)
theorem kCn : clos kN [] = [] := kN_clos (by decide) (by decide) (by decide) (by decide) (by decide) (by decide)
theorem kset1 (b : Nat) : kN.set 1 b = decide (b = 105) := by
 show spanB 105 105 b = _
 unfold spanB
 rw [Bool.eq_iff_iff]; simp; omega
theorem kset2 (b : Nat) : kN.set 2 b = decide (b = 102) := by
 show spanB 102 102 b = _
 unfold spanB
 rw [Bool.eq_iff_iff]; simp; omega
theorem kset4 (b : Nat) : kN.set 4 b = decide (97 ≤ b ∧ b ≤ 122) := by
 show spanB 97 122 b = _
 unfold spanB
 rw [Bool.eq_iff_iff]; simp
theorem kTo : kN.to 0 = -1 ∧ kN.to 1 = 2 ∧ kN.to 2 = 3 ∧ kN.to 3 = -1 ∧ kN.to 4 = 5 ∧ kN.to 5 = -1 := by decide
theorem k_tr (n b : Nat) (hn : n < 4) : trL kN (kL n) b = if kX.cl b = 0 then [] else kL (kX.nx n (kX.cl b)).toNat := by
 obtain ⟨t0, t1, t2, t3, t4, t5⟩ := kTo
 have s1 := kset1 b
 have s2 := kset2 b
 have s4 := kset4 b
 unfold trL
 by_cases h102 : b = 102
 ·subst h102
  have e : kX.cl 102 = 2 := rfl
  rw [e, if_neg (by decide)]
  rcases (show n = 0 ∨ n = 1 ∨ n = 2 ∨ n = 3 by omega) with rfl | rfl | rfl | rfl
  ·exact kC5
  ·exact kC5
  ·exact kC35
  ·exact kC5
 ·by_cases h105 : b = 105
  ·subst h105
   have e : kX.cl 105 = 3 := rfl
   rw [e, if_neg (by decide)]
   rcases (show n = 0 ∨ n = 1 ∨ n = 2 ∨ n = 3 by omega) with rfl | rfl | rfl | rfl
   ·exact kC25
   ·exact kC5
   ·exact kC5
   ·exact kC5
  ·by_cases haz : 97 ≤ b ∧ b ≤ 122
   ·have e : kX.cl b = 1 := by show (if b = 102 then 2 else if b = 105 then 3 else if 97 ≤ b ∧ b ≤ 122 then 1 else 0) = 1; rw [if_neg h102, if_neg h105, if_pos haz]
    rw [e, if_neg (by decide)]
    rw [decide_eq_false h105] at s1
    rw [decide_eq_false h102] at s2
    rw [decide_eq_true haz] at s4
    rcases (show n = 0 ∨ n = 1 ∨ n = 2 ∨ n = 3 by omega) with rfl | rfl | rfl | rfl
    ·have : stepL kN (kL 0) b = [5] := by show stepL kN [0, 1, 4] b = [5]; simp [stepL, List.filter, t0, t1, t4, s1, s4]
     rw [this]; exact kC5
    ·have : stepL kN (kL 1) b = [5] := by show stepL kN [4, 5] b = [5]; simp [stepL, List.filter, t4, t5, s4]
     rw [this]; exact kC5
    ·have : stepL kN (kL 2) b = [5] := by show stepL kN [2, 4, 5] b = [5]; simp [stepL, List.filter, t2, t4, t5, s2, s4]
     rw [this]; exact kC5
    ·have : stepL kN (kL 3) b = [5] := by show stepL kN [3, 4, 5] b = [5]; simp [stepL, List.filter, t3, t4, t5, s4]
     rw [this]; exact kC5
   ·have e : kX.cl b = 0 := by show (if b = 102 then 2 else if b = 105 then 3 else if 97 ≤ b ∧ b ≤ 122 then 1 else 0) = 0; rw [if_neg h102, if_neg h105, if_neg haz]
    rw [if_pos e]
    rw [decide_eq_false h105] at s1
    rw [decide_eq_false h102] at s2
    rw [decide_eq_false haz] at s4
    rcases (show n = 0 ∨ n = 1 ∨ n = 2 ∨ n = 3 by omega) with rfl | rfl | rfl | rfl
    ·have : stepL kN (kL 0) b = [] := by show stepL kN [0, 1, 4] b = []; simp [stepL, List.filter, t0, t1, t4, s1, s4]
     rw [this]; exact kCn
    ·have : stepL kN (kL 1) b = [] := by show stepL kN [4, 5] b = []; simp [stepL, List.filter, t4, t5, s4]
     rw [this]; exact kCn
    ·have : stepL kN (kL 2) b = [] := by show stepL kN [2, 4, 5] b = []; simp [stepL, List.filter, t2, t4, t5, s2, s4]
     rw [this]; exact kCn
    ·have : stepL kN (kL 3) b = [] := by show stepL kN [3, 4, 5] b = []; simp [stepL, List.filter, t3, t4, t5, s4]
     rw [this]; exact kCn
theorem kX_cl (b : Nat) : kX.cl b < 4 := by
 show (if b = 102 then 2 else if b = 105 then 3 else if 97 ≤ b ∧ b ≤ 122 then 1 else 0) < 4
 split
 ·omega
 ·split
  ·omega
  ·split <;> omega
theorem k5 : LiveN kN 5 := .rule (by decide)
theorem kX_nx0 {n : Nat} (hn : n < 4) : kX.nx n 0 = -1 := by
 rcases (show n = 0 ∨ n = 1 ∨ n = 2 ∨ n = 3 by omega) with rfl | rfl | rfl | rfl <;> rfl
theorem kX_nx {n c : Nat} (hn : n < 4) (h0 : c ≠ 0) (hc : c < 4) : 1 ≤ kX.nx n c ∧ kX.nx n c < 4 := by
 rcases (show n = 0 ∨ n = 1 ∨ n = 2 ∨ n = 3 by omega) with rfl | rfl | rfl | rfl <;> rcases (show c = 1 ∨ c = 2 ∨ c = 3 by omega) with rfl | rfl | rfl <;> decide
theorem kL_al {m : Nat} (h0 : 0 < m) (hm : m < 4) : AlN kN (kL m) := by
 refine ⟨5, ?_, k5⟩
 rcases (show m = 1 ∨ m = 2 ∨ m = 3 by omega) with rfl | rfl | rfl <;> decide
theorem kX_is : IsDfa kN kX kL where
 st := rfl
 pos := by decide
 rk := rfl
 ml := fun _ _ => rfl
 zero := kC0.symm
 aliv := fun i h0 hi => kL_al h0 hi
 inj := fun i j hi hj he => by
  have hi : i < 4 := hi
  have hj : j < 4 := hj
  revert he
  rcases (show i = 0 ∨ i = 1 ∨ i = 2 ∨ i = 3 by omega) with rfl | rfl | rfl | rfl <;> rcases (show j = 0 ∨ j = 1 ∨ j = 2 ∨ j = 3 by omega) with rfl | rfl | rfl | rfl <;> decide
 rule := fun i hi => by
  have hi : i < 4 := hi
  rcases (show i = 0 ∨ i = 1 ∨ i = 2 ∨ i = 3 by omega) with rfl | rfl | rfl | rfl <;> decide
 cl := fun b _ => kX_cl b
 no := fun n b hn hb ha => by
  have hn : n < 4 := hn
  rw [k_tr n b hn] at ha
  by_cases h0 : kX.cl b = 0
  ·rw [h0]; exact kX_nx0 hn
  ·rw [if_neg h0] at ha
   have := kX_nx hn h0 (kX_cl b)
   exact absurd (kL_al (by omega) (by omega)) ha
 go := fun n b hn hb ha => by
  have hn : n < 4 := hn
  rw [k_tr n b hn] at ha ⊢
  by_cases h0 : kX.cl b = 0
  ·rw [if_pos h0] at ha
   obtain ⟨s, hs, _⟩ := ha
   cases hs
  ·rw [if_neg h0]
   have := kX_nx hn h0 (kX_cl b)
   exact ⟨(kX.nx n (kX.cl b)).toNat, by omega, by show _ < 4; omega, rfl⟩
 bfs := fun m h0 hm => by
  have hm : m < 4 := hm
  rcases (show m = 1 ∨ m = 2 ∨ m = 3 by omega) with rfl | rfl | rfl
  ·refine ⟨0, 97, by omega, by omega, rfl, fun n' b' hb' hB => ?_⟩
   unfold Before at hB
   obtain rfl : n' = 0 := by omega
   have e : kX.cl b' = 0 := by show (if b' = 102 then 2 else if b' = 105 then 3 else if 97 ≤ b' ∧ b' ≤ 122 then 1 else 0) = 0; rw [if_neg (by omega), if_neg (by omega), if_neg (by omega)]
   rw [e]; decide
  ·refine ⟨0, 105, by omega, by omega, rfl, fun n' b' hb' hB => ?_⟩
   unfold Before at hB
   obtain rfl : n' = 0 := by omega
   have e : kX.cl b' < 3 := by
    show (if b' = 102 then 2 else if b' = 105 then 3 else if 97 ≤ b' ∧ b' ≤ 122 then 1 else 0) < 3
    split
    ·omega
    ·rw [if_neg (by omega)]; split <;> omega
   rcases (show kX.cl b' = 0 ∨ kX.cl b' = 1 ∨ kX.cl b' = 2 by omega) with e | e | e <;> rw [e] <;> decide
  ·refine ⟨2, 102, by omega, by omega, rfl, fun n' b' hb' hB => ?_⟩
   have hcl := kX_cl b'
   by_cases h2 : n' = 2
   ·subst h2
    have e : kX.cl b' < 2 := by
     show (if b' = 102 then 2 else if b' = 105 then 3 else if 97 ≤ b' ∧ b' ≤ 122 then 1 else 0) < 2
     unfold Before at hB
     rw [if_neg (by omega), if_neg (by omega)]; split <;> omega
    rcases (show kX.cl b' = 0 ∨ kX.cl b' = 1 by omega) with e | e <;> rw [e] <;> decide
   ·have hn : n' = 0 ∨ n' = 1 := by unfold Before at hB; omega
    rcases hn with rfl | rfl <;> rcases (show kX.cl b' = 0 ∨ kX.cl b' = 1 ∨ kX.cl b' = 2 ∨ kX.cl b' = 3 by omega) with e | e | e | e <;> rw [e] <;> decide
 col := fun b b' hb hb' h => by
  have h1 := h 0 (by decide)
  have h2 := h 2 (by decide)
  have c1 := kX_cl b
  have c2 := kX_cl b'
  revert h1 h2
  rcases (show kX.cl b = 0 ∨ kX.cl b = 1 ∨ kX.cl b = 2 ∨ kX.cl b = 3 by omega) with e | e | e | e <;> rcases (show kX.cl b' = 0 ∨ kX.cl b' = 1 ∨ kX.cl b' = 2 ∨ kX.cl b' = 3 by omega) with e' | e' | e' | e' <;> rw [e, e'] <;> decide
 cls := fun c hc => by
  have hc : c < 4 := hc
  rcases (show c = 0 ∨ c = 1 ∨ c = 2 ∨ c = 3 by omega) with rfl | rfl | rfl | rfl
  ·exact ⟨0, by omega, rfl, fun b' hb' => by omega⟩
  ·refine ⟨97, by omega, rfl, fun b' hb' => ?_⟩
   show (if b' = 102 then 2 else if b' = 105 then 3 else if 97 ≤ b' ∧ b' ≤ 122 then 1 else 0) < 1
   rw [if_neg (by omega), if_neg (by omega), if_neg (by omega)]; omega
  ·refine ⟨102, by omega, rfl, fun b' hb' => ?_⟩
   show (if b' = 102 then 2 else if b' = 105 then 3 else if 97 ≤ b' ∧ b' ≤ 122 then 1 else 0) < 2
   rw [if_neg (by omega), if_neg (by omega)]; split <;> omega
  ·refine ⟨105, by omega, rfl, fun b' hb' => ?_⟩
   show (if b' = 102 then 2 else if b' = 105 then 3 else if 97 ≤ b' ∧ b' ≤ 122 then 1 else 0) < 3
   split
   ·omega
   ·rw [if_neg (by omega)]; split <;> omega
end Go.Am.Seat

namespace Go.Am.Seat
open Go Go.Am
theorem goS_lt {d : Dfa} (hv : d.valid) {s : Int} (hs : s < (d.nk : Int)) {b : Nat} (hb : b < 256) : goS d s b < (d.nk : Int) := by
 unfold goS
 split
 ·omega
 ·rename_i h
  split
  ·omega
  ·exact (hv.2.2.2.2.2.2.2.2 s.toNat (by omega)).2.1 _ (hv.2.2.2.2.2.2.2.1 b hb)
theorem walkS_lt {d : Dfa} (hv : d.valid) : ∀ {l : List Nat} (hl : ∀ x ∈ l, x < 256) {s : Int}, s < (d.nk : Int) → walkS d s l < (d.nk : Int)
 | [], _, s, hs => hs
 | b :: l, hl, s, hs => walkS_lt (l := l) (s := goS d s b) hv (fun x hx => hl x (by simp [hx])) (goS_lt hv hs (hl b (by simp)))
end Go.Am.Seat

namespace Go.Am.Seat
open Go Go.Am
theorem maxI (s : Int) : (if true = true then if -1 > s then -1 else s else if -1 < s then -1 else s) = if s < 0 then (-1 : Int) else s := by
 rw [if_pos rfl]
 split <;> split <;> omega
abbrev nrm (s : Int) : Int := if s < 0 then -1 else s
theorem walk_loop (d : Dfa) (hv : d.valid) (l : List Nat) (hl : ∀ x ∈ l, x < 256) (hn : l.length ≤ 140737488355328) : ∀ (m i : Nat) (s : Int), i + m = l.length → s < (d.nk : Int) →
  L52_0 s (str l) (i : Int) d.st (fun b => (d.cl b : Int)) d.nk d.ml d.nx d.rk d.ru (.sc (.int .i64 (nrm (walkS d s (l.drop i))))) := by
 intro m
 induction m with
 | zero =>
  intro i s hi hs
  apply r52_0
  rw [str_size, List.drop_eq_nil_of_le (by omega)]
  refine ⟨fun h => by have := dt_ h; omega, fun _ => ?_⟩
  rw [maxI]
  exact Sub.refl _
 | succ m ih =>
  intro i s hi hs
  have hil : i < l.length := by omega
  have hb := byteAt_strN hil hl
  have hdrop : l.drop i = l.getD i 0 :: l.drop (i + 1) := by
   rw [List.drop_eq_getElem_cons hil]
   congr 1
   simp [gd_, hil]
  have hx : l.getD i 0 < 256 := hl _ (by simp [gd_, hil])
  apply r52_0
  rw [str_size, maxI, show (i : Int).toNat = i from rfl, hb, show ((l.getD i 0 : Nat) : Int).toNat = l.getD i 0 from rfl, wrapSucc (by omega)]
  refine ⟨fun _ => ⟨fun h => ?_, fun h => ?_⟩, fun h => ?_⟩
  ·have h := dt_ h
   obtain ⟨t, ht⟩ : ∃ t : Nat, s = t := ⟨s.toNat, by omega⟩
   subst ht
   have hrow := hv.2.2.2.2.2.2.2.2 t (by omega)
   have hcl := hv.2.2.2.2.2.2.2.1 _ hx
   have hlt := hrow.2.1 _ hcl
   refine ⟨⟨by omega, by omega⟩, ⟨by omega, by omega⟩, ⟨by omega, by omega⟩, hx, ⟨by omega, by show ((d.cl (l.getD i 0) : Nat) : Int) < ((d.ml t : Nat) : Int); omega⟩, ?_⟩
   have := ih (i + 1) (d.nx t (d.cl (l.getD i 0))) (by omega) hlt
   rw [hdrop]
   have e : nrm (walkS d (t : Int) (l.getD i 0 :: l.drop (i + 1))) = nrm (walkS d (d.nx t (d.cl (l.getD i 0))) (l.drop (i + 1))) := by
    show nrm (walkS d (goS d t (l.getD i 0)) (l.drop (i + 1))) = _
    unfold goS
    rw [if_neg (by omega), show (t : Int).toNat = t from rfl]
    by_cases hneg : d.nx t (d.cl (l.getD i 0)) < 0
    ·rw [if_pos hneg]
     unfold nrm
     rw [if_pos (walkS_neg _ hneg), if_pos (walkS_neg _ (by omega))]
    ·rw [if_neg hneg]
   rw [e]
   exact this
  ·have h := df_ h
   have e : nrm (walkS d s (l.drop i)) = if s < 0 then -1 else s := by
    unfold nrm
    rw [if_pos (walkS_neg _ (by omega)), if_pos (by omega)]
   rw [e]
   exact Sub.refl _
  ·have h : decide ((i : Int) < (l.length : Int)) = false := h
   have := df_ h
   omega
abbrev ruleV (r e : Int) : AV := (.cons 1 (.sc (.int .i64 r)) (.cons 1 (.sc (.int .i64 e)) .nil) : AV).tup
open Classical in
noncomputable def ruleR (d : Dfa) (l : List Nat) : Int × Int := if d.err ≠ 0 then (0, d.err) else (tellsF d d.st l, 0)
theorem rule_text_ok (d : Dfa) (h8 : ∀ b, d.cl b < 256) (l : List Nat) (hl : ∀ x ∈ l, x < 256) (hn : l.length ≤ 140737488355328) :
  Ok Proofs.Try.prog 26 [dfaA d, .sc (.string (str l))] [] (ruleV (ruleR d l).1 (ruleR d l).2) [] := by
 refine o26 _ _ _ _ _ _ _ _ _ ⟨trivial, trivial, trivial⟩ (r26_e _ _ _ _ _ _ _ _ _ ?_)
 refine ⟨d.err, check_ok d h8, fun h => ?_, fun h => ?_⟩
 ·have h : d.err ≠ 0 := by simpa using h
  unfold ruleR
  rw [if_pos h]
  exact Sub.refl _
 ·have h : d.err = 0 := by simpa using h
  have hv : d.valid := err_zero.1 h
  have hst := hv.2.2.2
  have hw := walkS_lt hv hl (s := d.st) (by omega)
  have hR : ruleR d l = (tellsF d d.st l, 0) := by
   unfold ruleR
   rw [if_neg (by rw [h]; simp)]
  rw [hR]
  refine ⟨nrm (walkS d d.st l), o52 _ _ _ _ _ _ _ _ _ _ trivial (r52_e _ _ _ _ _ _ _ _ _ _ (walk_loop d hv l hl hn l.length 0 d.st (by omega) (by omega))), fun h => ?_, fun h => ?_⟩
  ·have h := dt_ h
   have hneg : walkS d d.st l < 0 := by unfold nrm at h; split at h <;> omega
   unfold tellsF
   rw [ruleAt_neg hneg]
   exact Sub.refl _
  ·have h := df_ h
   have hpos : ¬ walkS d d.st l < 0 := fun hneg => by unfold nrm at h; rw [if_pos hneg] at h; omega
   have e : nrm (walkS d d.st l) = walkS d d.st l := if_neg hpos
   rw [e, maxI]
   have hrk := hv.2.1
   refine ⟨⟨by omega, by omega⟩, ?_⟩
   have e2 : tellsF d d.st l = if d.ru (walkS d d.st l).toNat < 0 then -1 else d.ru (walkS d d.st l).toNat := by
    unfold tellsF ruleAt
    by_cases h1 : d.ru (walkS d d.st l).toNat < 0
    ·rw [if_pos (.inr h1), if_pos h1]
    ·rw [if_neg (by rintro (h2 | h2) <;> omega), if_neg h1]
   rw [e2]
   exact Sub.refl _
end Go.Am.Seat

namespace Go.Am.Seat
open Go Go.Am

open Classical in
noncomputable def runR (d : Dfa) (fr : Int) (l : List Nat) : Int × Int := if d.err ≠ 0 then (0, d.err) else if fr < 0 ∨ (d.nk : Int) ≤ fr then (0, 2) else (nrm (walkS d fr l), 0)
theorem run_text_ok (d : Dfa) (h8 : ∀ b, d.cl b < 256) (fr : Int) (l : List Nat) (hl : ∀ x ∈ l, x < 256) (hn : l.length ≤ 140737488355328) :
  Ok Proofs.Try.prog 24 [dfaA d, .sc (.int .i64 fr), .sc (.string (str l))] [] (ruleV (runR d fr l).1 (runR d fr l).2) [] := by
 refine o24 _ _ _ _ _ _ _ _ _ _ ⟨trivial, trivial, trivial⟩ (r24_e _ _ _ _ _ _ _ _ _ _ ?_)
 refine ⟨d.err, check_ok d h8, fun h => ?_, fun h => ?_⟩
 ·have h : d.err ≠ 0 := by simpa using h
  unfold runR
  rw [if_pos h]
  exact Sub.refl _
 ·have h : d.err = 0 := by simpa using h
  have hv : d.valid := err_zero.1 h
  unfold runR
  rw [if_neg (by rw [h]; simp)]
  refine ⟨fun h1 => ⟨fun h2 => ?_, fun h2 => ?_⟩, fun h1 => ?_⟩
  ·have h2 := dt_ h2
   rw [if_pos (.inr h2)]
   exact Sub.refl _
  ·have h1 := df_ h1
   have h2 := df_ h2
   rw [if_neg (by rintro (h3 | h3) <;> omega)]
   exact ⟨nrm (walkS d fr l), o52 _ _ _ _ _ _ _ _ _ _ trivial (r52_e _ _ _ _ _ _ _ _ _ _ (walk_loop d hv l hl hn l.length 0 fr (by omega) (by omega))), Sub.refl _⟩
  ·have h1 := dt_ (show decide (fr < 0) = true from h1)
   rw [if_pos (.inl h1)]
   exact Sub.refl _
end Go.Am.Seat

namespace Go.Am.Seat
open Go Go.Am

theorem ruleGo_lt {N : Nfa} (hv : N.valid) : ∀ (l : List Nat) (m : Int), (∀ s ∈ l, s < N.n) → -1 ≤ m → m < 48 → -1 ≤ ruleGo N l m ∧ ruleGo N l m < 48
 | [], m, _, h1, h2 => ⟨h1, h2⟩
 | s :: l, m, hl, h1, h2 => by
  have h3 := (hv.2.2 s (hl s mf_)).2.1
  unfold ruleGo
  refine ruleGo_lt hv l _ (fun t ht => hl t (mc_ _ ht)) ?_ ?_
  ·split <;> omega
  ·split <;> omega
theorem IsDfa.lab_lt {N : Nfa} (hv : N.valid) {d : Dfa} {lab : Nat → List Nat} (h : IsDfa N d lab) : ∀ i, i < d.nk → ∀ s ∈ lab i, s < N.n := by
 intro i hi
 by_cases h0 : i = 0
 ·subst h0
  rw [h.zero]
  exact fun s hs => clos_lt s hs
 ·obtain ⟨n, b, n1, b1, e, _⟩ := h.bfs i (by omega) hi
  obtain ⟨_, _, e3⟩ := h.on (by omega) b1 e
  rw [e3]
  exact fun s hs => trL_lt s hs
theorem IsDfa.valid {N : Nfa} (hv : N.valid) {d : Dfa} {lab : Nat → List Nat} (h : IsDfa N d lab) (h1 : d.nk ≤ 2048) (h2 : d.ml 0 ≤ 256) : d.valid := by
 have hp := h.pos
 have hc := h.cl 0 (by omega)
 refine ⟨h1, h.rk, hp, by rw [h.st]; omega, by rw [h.st]; omega, by omega, h2, h.cl, fun i hi => ⟨h.ml i hi, fun c hc => ?_, ?_⟩⟩
 ·obtain ⟨b, hb, e, _⟩ := h.cls c hc
  rw [← e]
  exact (h.ge hi hb).2
 ·rw [h.rule i hi]
  exact (ruleGo_lt hv _ (-1) (h.lab_lt hv i hi) (by omega) (by omega)).2
theorem of_spec {M : Nat} (hM : SortOk M) (N : Nfa) (hn : N.n ≤ M) :
  (N.err ≠ 0 ∧ Ok Proofs.Try.prog 18 [nfaA false N] [] (ofV dfaZ N.err) []) ∨
  (N.err = 0 ∧ (∃ φ : Nat → List Nat, (∀ i, i < 2049 → Come (clos N [N.st.toNat]) (trL N) (AlN N) (φ i)) ∧ (∀ i j, i < 2049 → j < 2049 → φ i = φ j → i = j)) ∧ Ok Proofs.Try.prog 18 [nfaA false N] [] (ofV dfaZ 3) []) ∨
  (N.err = 0 ∧ ∃ (d : Dfa) (lab : Nat → List Nat), IsDfa N d lab ∧ d.nk ≤ 2048 ∧ d.ml 0 ≤ 256 ∧ (∀ b, d.cl b < 256) ∧ Ok Proofs.Try.prog 18 [nfaA false N] [] (ofV d 0) []) := by
 by_cases he : N.err = 0
 ·have hv := (nErr_zero.1 he).2
  obtain ⟨z, h⟩ := of_ok hM N hn he
  rcases h with ⟨B, h, hx, hS, hO⟩ | ⟨B, ofl, first, h, hS, hXS, hO, hC, hD, hL⟩
  ·exact .inr (.inl ⟨he, ⟨labB N B, fun i hi => h.come hv hx (i + 1) i (by omega) (by omega), fun i j hi hj e => h.inj (by omega) (by omega) e⟩, hO (newV _ _)⟩)
  ·have hbl := h.srt.len
   have hfl := hC.len
   refine .inr (.inr ⟨he, dfaOf B ofl first, labB N B, h.det hv hXS hO hC hD, by show B.X.length ≤ 2048; omega, by show first.length ≤ 256; omega, fun b => ?_, hL (newV _ _)⟩)
   show ofl.getD (B.lk b) 0 < 256
   by_cases hlt : B.lk b < ofl.length
   ·have := (hC.lt _ hlt).1; omega
   ·rw [gd_, List.getElem?_eq_none (by omega)]; show 0 < 256; omega
 ·exact .inl ⟨he, of_err N he⟩
end Go.Am.Seat

namespace Go.Am.Seat
open Go Go.Am

theorem eq_goS {x y : Dfa} (h : EqDfa x y) (hx : x.valid) {s : Int} (hs : s < (x.nk : Int)) {b : Nat} (hb : b < 256) : goS x s b = goS y s b := by
 unfold Go.Am.goS
 by_cases h0 : s < 0
 ·rw [if_pos h0, if_pos h0]
 ·have hi : s.toNat < x.nk := by omega
  have hc := hx.2.2.2.2.2.2.2.1 b hb
  have hm := (hx.2.2.2.2.2.2.2.2 s.toNat hi).1
  rw [if_neg h0, if_neg h0, ← h.cl b hb, h.nx s.toNat (x.cl b) hi (by rw [hm]; exact hc)]
theorem eq_walk {x y : Dfa} (h : EqDfa x y) (hx : x.valid) : ∀ (w : List Nat) {s : Int}, isB w → s < (x.nk : Int) → walkS x s w = walkS y s w
 | [], s, _, _ => rfl
 | b :: w, s, hw, hs => by
  have e := eq_goS h hx hs hw.head
  show walkS x (Go.Am.goS x s b) w = walkS y (Go.Am.goS y s b) w
  rw [← e]
  exact eq_walk h hx w hw.tail (goS_lt hx hs hw.head)
theorem eq_tells {x y : Dfa} (h : EqDfa x y) (hx : x.valid) {w : List Nat} (hw : isB w) {s : Int} (hs : s < (x.nk : Int)) : tellsF x s w = tellsF y s w := by
 have hrk := hx.2.1
 unfold tellsF
 rw [← eq_walk h hx w hw hs]
 have hl : walkS x s w < (x.nk : Int) := walkS_lt hx hw hs
 unfold ruleAt
 by_cases h0 : walkS x s w < 0
 ·rw [if_pos (.inl h0), if_pos (.inl h0)]
 ·rw [h.ru _ (by omega)]
def zeroD : Dfa := { st := 0, cl := fun _ => 0, nk := 0, ml := fun _ => 0, nx := fun _ _ => 0, rk := 0, ru := fun _ => 0 }
theorem zeroD_err : zeroD.err = 2 := by
 unfold Dfa.err
 rw [if_neg (show ¬ (2048 < zeroD.nk ∨ 2048 < zeroD.rk) by decide), if_neg fun h => absurd h.2.2.1 (by decide)]
theorem alive7_ok : Ok Proofs.Try.prog 12 [] [] (.sc (.bool true)) [] := by
 refine o12 _ trivial ?_
 apply r12_e
 rcases of_spec sort12 kN (show 6 ≤ 12 by omega) with ⟨h, _⟩ | ⟨_, ⟨φ, h1, h2⟩, _⟩ | ⟨_, d, lab, hd, hk, hm, h8, hok⟩
 ·exact absurd kN_err h
 ·exfalso
  have hc : ∀ i, ∃ j : Nat, i < 2049 → j < 4 ∧ kL j = φ i := fun i => by
   by_cases hi : i < 2049
   ·obtain ⟨j, j1, j2⟩ := kX_is.come (h1 i hi)
    exact ⟨j, fun _ => ⟨j1, j2⟩⟩
   ·exact ⟨0, fun h => absurd h hi⟩
  obtain ⟨ψ, hψ⟩ := Classical.axiomOfChoice hc
  have := pigeonS 4 2049 ψ (fun i hi => (hψ i hi).1) (fun i j hi hj e => h2 i j hi hj (by rw [← (hψ i hi).2, ← (hψ j hj).2, e]))
  omega
 ·have heq : EqDfa d kX := hd.uniq kX_is (Pair.id _ _ _ _)
  have hv := hd.valid kN_valid hk hm
  have he : d.err = 0 := err_zero.2 hv
  have hnk : d.nk = 4 := heq.nk
  have hrk : d.rk = 4 := heq.rk
  have hml : d.ml 2 = 4 := heq.ml 2 (by omega)
  have hst : d.st = 0 := heq.st
  have hrule : ∀ l : List Nat, isB l → ruleR d l = (tellsF kX 0 l, 0) := fun l hl => by
   unfold ruleR
   rw [if_neg (by rw [he]; simp), hst, eq_tells heq hv hl (by omega)]
  have hr1 := rule_text_ok d h8 [105, 102] (by decide) (by decide)
  have hr2 := rule_text_ok d h8 [55] (by decide) (by decide)
  have hr3 := run_text_ok d h8 2 [102] (by decide) (by decide)
  rw [hrule [105, 102] (by unfold isB; decide), show tellsF kX 0 [105, 102] = 0 by decide] at hr1
  rw [hrule [55] (by unfold isB; decide), show tellsF kX 0 [55] = -1 by decide] at hr2
  have hrun : runR d 2 [102] = (3, 0) := by
   unfold runR
   rw [if_neg (by rw [he]; simp), if_neg (by omega), eq_walk heq hv [102] (by unfold isB; decide) (by omega)]
   decide
  rw [hrun] at hr3
  have hz : Ok Proofs.Try.prog 11 [.cons 1 (.sc (.int .i64 0)) (.cons 256 (.ar 256 1 fun i => .sc (.int .u8 0)) (.cons 1 (.sc (.slice none 0 0)) (.cons 1 (.sc (.slice none 0 0)) .nil)))] [] (.sc (.int .i64 2)) [] := by
   rw [← zeroD_err]
   exact Ok.args (ys := [dfaA zeroD]) ⟨Sub.of_R (RSub.cons (RSub.refl _) (RSub.cons (RSub.refl _) (RSub.cons RSub.nilvec (RSub.cons RSub.nilvec (RSub.refl _))))) rfl trivial trivial, trivial⟩ (check_ok zeroD fun _ => by show 0 < 256; omega)
  refine ⟨⟨kN.st, kN.n, (fun i j => ((word (kN.set i) j : Nat) : Int)), kN.to, kN.fn, kN.fr, kN.ru⟩, known_ok, ⟨d.st, (fun b => ((d.cl b : Nat) : Int)), d.nk, d.ml, d.nx, d.rk, d.ru, 0⟩, hok, fun _ => ⟨fun _ => ⟨true, ?_, fun _ => ⟨?_, true, ?_, fun _ => ⟨⟨by omega, by omega⟩, by omega, fun h => ?_, fun _ => ⟨(0, 0), hr1, (-1, 0), hr2, (3, 0), hr3, fun _ => ⟨fun _ => ⟨fun _ => ⟨fun _ => ⟨fun _ => ⟨fun _ => ⟨2, hz, Sub.refl _⟩, fun h => ?_⟩, fun h => ?_⟩, fun h => ?_⟩, fun h => ?_⟩, fun h => ?_⟩, fun h => ?_⟩⟩, fun h => ?_⟩, fun h => ?_⟩, fun h => ?_⟩, fun h => ?_⟩
  ·show Ok Proofs.Try.prog 33 [rowA d.rk d.ru, rowA 4 _] [] _ []
   rw [hrk]
   refine sameInts_true 4 _ _ fun i hi => ?_
   rw [heq.ru i (by rw [hrk]; exact hi)]
   rcases (show i = 0 ∨ i = 1 ∨ i = 2 ∨ i = 3 by omega) with rfl | rfl | rfl | rfl <;> rfl
  ·show (0 : Int) ≤ 2 ∧ 2 < (d.nk : Int)
   omega
  ·show Ok Proofs.Try.prog 33 [rowA (d.ml 2) (d.nx 2), rowA 4 _] [] _ []
   rw [hml]
   refine sameInts_true 4 _ _ fun i hi => ?_
   rw [heq.nx 2 i (by omega) (by rw [hml]; exact hi)]
   rcases (show i = 0 ∨ i = 1 ∨ i = 2 ∨ i = 3 by omega) with rfl | rfl | rfl | rfl <;> rfl
  ·have h : (((d.cl 102 : Nat) : Int) != 2) = true := h
   rw [heq.cl 102 (by omega)] at h
   exact absurd h (by decide)
  ·exact absurd h (by decide)
  ·exact absurd h (by decide)
  ·exact absurd h (by decide)
  ·exact absurd h (by decide)
  ·exact absurd h (by decide)
  ·exact absurd h (by decide)
  ·exact absurd h (by decide)
  ·exact absurd h (by decide)
  ·have h : ((d.nk : Int) != 4) = !false := h
   rw [hnk] at h
   exact absurd h (by decide)
  ·have h : ((0 : Int) != 0) = !false := h
   exact absurd h (by decide)
end Go.Am.Seat

namespace Go.Am.Seat
open Go Go.Am

theorem str_of (s : ByteArray) : ∃ l : List Nat, s = str l ∧ (∀ x ∈ l, x < 256) ∧ l.length = s.size := by
 refine ⟨s.data.toList.map UInt8.toNat, ?_, ?_, ?_⟩
 ·apply ByteArray.ext
  unfold str
  simp [List.map_map, Function.comp_def]
 ·intro x hx
  obtain ⟨u, _, rfl⟩ := List.mem_map.1 hx
  exact u.toNat_lt
 ·rw [List.length_map]; rfl
section
variable {cu : Nat → Bool}
theorem shp_str {n : Nat} {x : AV} (hx : ShpC (lookO tab) cu (n + 1) 9 x) : ∃ l : List Nat, x = .sc (.string (str l)) ∧ (∀ y ∈ l, y < 256) ∧ l.length ≤ 140737488355328 := by
 obtain ⟨s, rfl, hs⟩ : ∃ s : ByteArray, x = .sc (.string s) ∧ s.size ≤ reachBytes := hx
 obtain ⟨l, rfl, hl, hn⟩ := str_of s
 have hr : reachBytes ≤ 140737488355328 := by decide
 exact ⟨l, rfl, hl, by omega⟩
theorem shp_int {n : Nat} {x : AV} (hx : ShpC (lookO tab) cu (n + 1) 3 x) : ∃ m : Int, x = .sc (.int .i64 m) ∧ -9223372036854775808 ≤ m ∧ m ≤ 9223372036854775807 := by
 obtain ⟨m, rfl, h2⟩ : ∃ m, x = .sc (.int .i64 m) ∧ (Lit.int .i64 m).wf = true := hx
 have h3 : -9223372036854775808 ≤ m ∧ m ≤ 9223372036854775807 := by simpa [Lit.wf, IntKind.min, IntKind.max, IntKind.signed, IntKind.bits] using h2
 exact ⟨m, rfl, h3⟩
theorem shp_row {n : Nat} {x : AV} (hc : cu 3 = false) (hx : ShpC (lookO tab) cu (n + 2) 24 x) : ∃ (k : Nat) (f : Nat → Int), RSub x (rowA k f) ∧ k * 8 ≤ 140737488355328 ∧ isAg x = false ∧ plainAV x := by
 have hx : bif cu 3 then x = .undef else ∃ (len : Nat) (f : Nat → AV), x = .vec true 1 len len f ∧ len * 8 ≤ reachBytes ∧ ∀ i, i < len → ShpC (lookO tab) cu (n + 1) 3 (f i) := hx
 rw [hc, cond_false] at hx
 obtain ⟨len, f, rfl, hlen, hf⟩ := hx
 have hg : ∀ i, ∃ m : Int, i < len → f i = .sc (.int .i64 m) := by
  intro i
  by_cases hi : i < len
  ·obtain ⟨m, h, _⟩ := shp_int (hf i hi)
   exact ⟨m, fun _ => h⟩
  ·exact ⟨0, fun h => absurd h hi⟩
 obtain ⟨g, hg⟩ := Classical.axiomOfChoice hg
 have hr : reachBytes ≤ 140737488355328 := by decide
 exact ⟨len, g, RSub.vec id (lr_ _) (lr_ _) fun i hi => RSub.of_eq (hg i hi), by omega, rfl, trivial⟩
end
end Go.Am.Seat

namespace Go.Am
open Go
def Env.top (E : Env) : Env := { base := E.base, io := fun _ => False, kp := [], fa := E.fa, fn := fun b => E.fa b ∨ E.fn b, bl := fun _ => none, ow := fun _ _ _ => none, old := fun b => E.fa b ∨ E.fn b }
theorem R_top {w : World} : ∀ {x : AV} {E E2 : Env} {cs : List Value}, (∀ b, E.fa b ∨ E.fn b → E2.fn b) → (∀ i, E.bl i = none) → R w E (tagT x) cs → R w E2 x cs := by
 intro x
 induction x with
 | vec g esz n m f ih =>
  rintro E E2 cs hE hbl ⟨A, cap, rfl, h1, h2, h3, h4⟩
  refine ⟨A, cap, rfl, h1, h2, h3, ?_⟩
  rcases h4 with h4 | ⟨b, off, ds, rfl, hb, hl, hr, hi⟩
  ·exact .inl h4
  ·refine .inr ⟨b, off, ds, rfl, .inl (hE b ?_), hl, hr, fun i h => ?_⟩
   ·rcases hb with hb | ⟨_, hb⟩
    ·exact .inr hb
    ·exact .inl hb
   ·exact ih i (E := E.strip) (E2 := E2.strip) hE (fun _ => rfl) (hi i h)
 | ip g a ih =>
  rintro E E2 cs hE hbl ⟨b, off, ds, rfl, hb, hr, hi⟩
  refine ⟨b, off, ds, rfl, .inl (hE b ?_), hr, ih (E := E.strip) (E2 := E2.strip) hE (fun _ => rfl) hi⟩
  rcases hb with hb | ⟨_, hb⟩
  ·exact .inr hb
  ·exact .inl hb
 | cons k a r iha ihr => rintro E E2 cs hE hbl ⟨h1, h2, h3⟩; exact ⟨h1, iha hE hbl h2, ihr hE hbl h3⟩
 | ar n esz f ih => rintro E E2 cs hE hbl ⟨h1, h2⟩; exact ⟨h1, fun i hi => ih i (E := E.strip) (E2 := E2.strip) hE (fun _ => rfl) (h2 i hi)⟩
 | rf id esz off n =>
  rintro E E2 cs hE hbl h
  rcases h with ⟨b, s, cap, hb, _⟩ | ⟨hb, _⟩ <;> (rw [hbl] at hb; cases hb)
 | pt id p off => rintro E E2 cs hE hbl ⟨b, s, hb, _⟩; rw [hbl] at hb; cases hb
 | mp id => rintro E E2 cs hE hbl ⟨b, s, hb, _⟩; rw [hbl] at hb; cases hb
 | undef => intro E E2 cs _ _ h; exact h
 | sc v => intro E E2 cs _ _ h; exact h
 | nil => intro E E2 cs _ _ h; exact h
 | ge lo => intro E E2 cs _ _ h; exact h
 | _ => intro E E2 cs _ _ h; exact h.elim
theorem RV_top {w : World} {x : AV} {E E2 : Env} {v : Value} (hE : ∀ b, E.fa b ∨ E.fn b → E2.fn b) (hbl : ∀ i, E.bl i = none) (h : RV w E (tagT x) v) : RV w E2 x v := by
 unfold RV at *
 rw [(tagT_sz x).2] at h
 split
 ·rename_i hg
  rw [if_pos hg] at h
  obtain ⟨c, rfl, h⟩ := h
  exact ⟨c, rfl, R_top hE hbl h⟩
 ·rename_i hg
  rw [if_neg hg] at h
  exact R_top hE hbl h
def notTup : AV → Bool
 | .tup _ => false
 | _ => true
theorem RS_top {w : World} {x : AV} {E E2 : Env} {v : Value} (ht : notTup x = true) (hE : ∀ b, E.fa b ∨ E.fn b → E2.fn b) (hbl : ∀ i, E.bl i = none) (h : RS w E (tagT x) v) : RS w E2 x v := by
 cases x with
 | undef => trivial
 | tup l => cases ht
 | _ => exact RV_top hE hbl h
theorem Ok.top {P : Program} {f : FuncId} {xs : List AV} {v : Value} (ht : ∀ x ∈ xs, notTup x = true) (h : Ok P f xs [] (.sc v) []) : Ok P f (xs.map tagT) [] (.sc v) [] := by
 refine ⟨h.fn, h.new, fun w E vals hce => ?_⟩
 have hr := hce.rel
 have hbl : ∀ i, E.bl i = none := fun i => by
  cases hq : E.bl i with
  | none => rfl
  | some z => exact absurd (hr.us i (by rw [hq]; simp)) (by show ¬ (false = true); simp)
 have hE : ∀ b, E.fa b ∨ E.fn b → E.top.fn b := fun b h => h
 have hce2 : CallEnv w E.top xs vals [] [] := by
  refine ⟨hce.base, rfl, ?_⟩
  refine { df := rfl, sz := by have := hr.sz; rw [List.length_map] at this; exact this, sl := fun i => ?_, me := fun id ty av h => (by cases h), us := fun id h => absurd rfl h, inj := fun i j b s t h => (by cases h), free := fun id b s h => absurd rfl h, lt := fun b hb => hr.lt b (by rcases hb with hb | hb; exact .inl hb; exact hb), fnb := fun b hb => .inr hb, blt := fun i b s h => (by cases h), ble := hr.ble, kept := ⟨rfl, rfl, rfl, lr_ _, fun _ _ _ => rfl⟩, own := ⟨fun id ty av c i b s h => (by cases h), fun id ty av c i b s id' ty' av' c' i' s' h => (by cases h)⟩ }
  have h1 : RS w E (look .undef (enumAt 0 (xs.map tagT)) i) (vals.getD i Go.undef) := hr.sl i
  show RS w E.top (look .undef (enumAt 0 xs) i) (vals.getD i Go.undef)
  rw [look_enum] at h1 ⊢
  simp only [Nat.not_lt_zero, if_false, Nat.sub_zero] at h1 ⊢
  rw [gd_, List.getElem?_map] at h1
  rw [gd_]
  cases hq : xs[i]? with
  | none => trivial
  | some y =>
   rw [hq] at h1
   exact RS_top (ht y (List.mem_of_getElem? hq)) hE hbl h1
 refine Calls.mono (h.run w _ _ hce2) ?_
 rintro e w' ⟨v', E', rfl, hx, hr2⟩
 have hk := hr2.kept
 refine ⟨v', E, rfl, Env.Ext.refl E, ?_⟩
 have hsz := hk.size
 refine { df := rfl, sz := rfl, sl := fun i => ?_, me := fun id ty av h => (by cases h), us := fun id h => absurd (hbl id) h, inj := fun i j b s t h => (by rw [hbl] at h; cases h), free := fun id b s h => absurd rfl h, lt := fun b hb => Nat.lt_of_lt_of_le (hr.lt b hb) hsz, fnb := hr.fnb, blt := fun i b s h => (by rw [hbl] at h; cases h), ble := Nat.le_trans hr.ble hsz, kept := ⟨hk.os, hk.tape, hk.output, hsz, fun k h1 h2 => hk.block k (by rw [hx.base]; exact h1) (by rw [hx.io]; exact fun h => h)⟩, own := ⟨fun id ty av c i b s h => (by cases h), fun id ty av c i b s id' ty' av' c' i' s' h => (by cases h)⟩ }
 have h3 := hr2.sl i
 cases i with
 | zero => exact h3
 | succ i => trivial
end Go.Am

namespace Go.Am.Seat
open Go Go.Am
section
variable {cu : Nat → Bool}
theorem shp_setW {n : Nat} {x : AV} (hx : ShpC (lookO tab) cu (n + 2) 54 x) : ∃ s : Nat → Bool, RSub x (setA s) := by
 obtain ⟨f, rfl, hf⟩ : ∃ f : Nat → AV, x = .ar 4 1 f ∧ ∀ i, i < 4 → ShpC (lookO tab) cu (n + 1) 52 (f i) := hx
 have hg : ∀ i, ∃ m : Int, 0 ≤ m ∧ m < 18446744073709551616 ∧ (i < 4 → f i = .sc (.int .u64 m)) := by
  intro i
  by_cases hi : i < 4
  ·obtain ⟨m, h1, h2⟩ : ∃ m, f i = .sc (.int .u64 m) ∧ (Lit.int .u64 m).wf = true := hf i hi
   have h3 : 0 ≤ m ∧ m ≤ 18446744073709551615 := by simpa [Lit.wf, IntKind.min, IntKind.max, IntKind.signed, IntKind.bits] using h2
   exact ⟨m, h3.1, by omega, fun _ => h1⟩
  ·exact ⟨0, by omega, by omega, fun h => absurd h hi⟩
 obtain ⟨g, hg⟩ := Classical.axiomOfChoice hg
 refine ⟨hasS g, RSub.ar fun i hi => RSub.of_eq ?_⟩
 rw [(hg i).2.2 hi, word_hasS (hg i).1 (hg i).2.1]
theorem shp_nfa {n : Nat} {x : AV} (hc3 : cu 3 = false) (hc56 : cu 56 = false) (hx : ShpC (lookO tab) cu (n + 5) 36 x) : ∃ N : Nfa, RSub x (nfaA true N) ∧ isAg x = true ∧ plainAV x := by
 obtain ⟨a, r1, rfl, h1, b, r2, rfl, h2, rfl⟩ : ∃ a r1, x = .cons 1 a r1 ∧ ShpC (lookO tab) cu (n + 4) 3 a ∧ ∃ b r2, r1 = .cons 1 b r2 ∧ ShpC (lookO tab) cu (n + 4) 34 b ∧ r2 = .nil := hx
 obtain ⟨st, rfl, _⟩ := shp_int h1
 have h2 : bif cu 56 then b = .undef else ∃ (len : Nat) (f : Nat → AV), b = .vec true 7 len len f ∧ len * 72 ≤ reachBytes ∧ ∀ i, i < len → ShpC (lookO tab) cu (n + 3) 56 (f i) := h2
 rw [hc56, cond_false] at h2
 obtain ⟨nk, rows, rfl, hnk, hrows⟩ := h2
 have hrow : ∀ i, ∃ q : (Nat → Bool) × Int × Nat × (Nat → Int) × Int, i < nk → RSub (rows i) (.cons 4 (setA q.1) (.cons 1 (.sc (.int .i64 q.2.1)) (.cons 1 (.vec true 1 q.2.2.1 q.2.2.1 (fun j => .sc (.int .i64 (q.2.2.2.1 j)))) (.cons 1 (.sc (.int .i64 q.2.2.2.2)) .nil)))) := by
  intro i
  by_cases hi : i < nk
  ·obtain ⟨a, r1, e0, h1, b, r2, rfl, h2, c, r3, rfl, h3, e, r4, rfl, h4, rfl⟩ : ∃ a r1, rows i = .cons 4 a r1 ∧ ShpC (lookO tab) cu (n + 2) 54 a ∧ ∃ b r2, r1 = .cons 1 b r2 ∧ ShpC (lookO tab) cu (n + 2) 3 b ∧
    ∃ c r3, r2 = .cons 1 c r3 ∧ ShpC (lookO tab) cu (n + 2) 24 c ∧ ∃ e r4, r3 = .cons 1 e r4 ∧ ShpC (lookO tab) cu (n + 2) 3 e ∧ r4 = .nil := hrows i hi
   obtain ⟨s, hs⟩ := shp_setW h1
   obtain ⟨to, rfl, _⟩ := shp_int h2
   obtain ⟨k, f, h, _⟩ := shp_row hc3 h3
   obtain ⟨ru, rfl, _⟩ := shp_int h4
   refine ⟨(s, to, k, f, ru), fun _ => ?_⟩
   rw [e0]
   exact RSub.cons hs (RSub.cons (RSub.refl _) (RSub.cons h (RSub.refl _)))
  ·exact ⟨(fun _ => false, 0, 0, fun _ => 0, 0), fun h => absurd h hi⟩
 obtain ⟨q, hq⟩ := Classical.axiomOfChoice hrow
 refine ⟨{ st := st, n := nk, set := fun i => (q i).1, to := fun i => (q i).2.1, fn := fun i => (q i).2.2.1, fr := fun i => (q i).2.2.2.1, ru := fun i => (q i).2.2.2.2 }, ?_, rfl, trivial⟩
 exact RSub.cons (RSub.refl _) (RSub.cons (RSub.vec id (lr_ _) (lr_ _) fun i hi => hq i hi) (RSub.refl _))
end
def nbigL (fn : Nat → Nat) (most : Nat) : Nat → Nat → Nat → Bool
 | 0, _, k => decide (k > most)
 | m + 1, i, k => if k ≤ most then nbigL fn most m (i + 1) (k + min (fn i) (most + 1)) else decide (k > most)
def nbigS (N : Nfa) (most : Nat) : Bool := nbigL N.fn most N.n 0 N.n
theorem nbigL_false {fn : Nat → Nat} {most : Nat} : ∀ {m i k : Nat}, nbigL fn most m i k = false → k ≤ most
 | 0, i, k, h => by
  unfold nbigL at h
  have := df_ h
  omega
 | m + 1, i, k, h => by
  unfold nbigL at h
  split at h
  ·assumption
  ·have := df_ h
   omega
theorem nbig_le {N : Nfa} {most : Nat} (h : nbigS N most = false) : N.n ≤ most := nbigL_false h
theorem nmin (n most : Nat) (h : most ≤ 1000000) : (if false = true then if IntKind.i64.wrap ((most : Int) + 1) > (n : Int) then IntKind.i64.wrap ((most : Int) + 1) else (n : Int) else if IntKind.i64.wrap ((most : Int) + 1) < (n : Int) then IntKind.i64.wrap ((most : Int) + 1) else (n : Int)) = ((min n (most + 1) : Nat) : Int) := by
 rw [if_neg (by decide), wrapSucc (by omega)]
 split <;> omega
theorem nbig_loop (N : Nfa) (most : Nat) (hm : most ≤ 1000000) : ∀ (m i k : Nat), i + m = N.n → N.n ≤ 9223372036854775807 →
  L16_0 (most : Int) (k : Int) (i : Int) N.st N.n (fun i j => ((word (N.set i) j : Nat) : Int)) N.to N.fn N.fr N.ru (.sc (.bool (nbigL N.fn most m i k))) := by
 intro m
 induction m with
 | zero =>
  intro i k hi hn
  apply r16_0
  refine ⟨fun h => by have := dt_ h; omega, fun _ => ?_⟩
  have e : decide ((k : Int) > (most : Int)) = nbigL N.fn most 0 i k := by
   show _ = decide (k > most)
   exact decide_eq_decide.2 (by omega)
  rw [e]
  exact Sub.refl _
 | succ m ih =>
  intro i k hi hn
  apply r16_0
  refine ⟨fun _ => ⟨fun h => ?_, fun h => ?_⟩, fun h => ?_⟩
  ·have h := dt_ h
   refine ⟨⟨by omega, by omega⟩, ?_⟩
   rw [nmin _ _ hm, show (i : Int).toNat = i from rfl, wrapSucc (by omega), show ((k : Int) + ((min (N.fn i) (most + 1) : Nat) : Int)) = ((k + min (N.fn i) (most + 1) : Nat) : Int) from rfl, wrap_i64 (by omega) (by omega)]
   have e : nbigL N.fn most (m + 1) i k = nbigL N.fn most m (i + 1) (k + min (N.fn i) (most + 1)) := by
    show (if k ≤ most then _ else _) = _
    rw [if_pos (by omega)]
   rw [e]
   exact ih (i + 1) _ (by omega) hn
  ·have h := df_ h
   have e : decide ((k : Int) > (most : Int)) = nbigL N.fn most (m + 1) i k := by
    show _ = if k ≤ most then _ else decide (k > most)
    rw [if_neg (by omega)]
    exact decide_eq_decide.2 (by omega)
   rw [e]
   exact Sub.refl _
  ·have := df_ h
   omega
theorem nbig_ok (N : Nfa) (most : Nat) (hm : most ≤ 1000000) : Ok Proofs.Try.prog 16 [nfaA true N, .sc (.int .i64 (most : Int))] [] (.sc (.bool (nbigS N most))) [] := by
 refine o16 _ _ _ _ _ _ _ _ _ trivial ?_
 apply a16_e
 intro hF
 have hn : N.n ≤ 9223372036854775807 := (hF 0).2.1.1
 apply r16_e
 exact nbig_loop N most hm N.n 0 N.n (by omega) hn
end Go.Am.Seat

namespace Go.Am.Seat
open Go Go.Am
abbrev kBlk (N : Nfa) (k M : Nat) (f : Nat → Int) (g : Nat → Bool) (a : Nat) : List (Nat × Nat × AV) :=
 [(2000, 85, .cons 2 (nfaA false N) (.cons 1 (.rf a 1 0 k) (.cons 1 (.rf 2002 1 0 N.n) .nil))), (a, 3, .ar M 1 (fun i => .sc (.int .i64 (f i)))), (2002, 4, .ar N.n 1 (fun i => .sc (.bool (g i))))]
structure PutI (N : Nfa) (o0 : List Nat) (s0 : Nat) (td o : List Nat) (mk : Nat → Bool) : Prop where
 nd : o.Nodup
 lt : ∀ x ∈ o, x < N.n
 tlt : ∀ x ∈ td, x < N.n
 mq : ∀ x, x < N.n → (mk x = true ↔ x ∈ o)
 sub : ∀ x ∈ o0, x ∈ o
 new : ∀ x, x ∈ o ∨ x ∈ td → x ∈ o0 ∨ FreeR N [s0] x
 st : s0 ∈ o ∨ s0 ∈ td
 cl : ∀ x ∈ o, ∀ j, j < N.fn x → (N.fr x j).toNat ∈ o ∨ (N.fr x j).toNat ∈ td
theorem PutI.was {N : Nfa} {o0 : List Nat} {s0 x : Nat} {t o : List Nat} {mk : Nat → Bool} (h : PutI N o0 s0 (t ++ [x]) o mk) (hm : mk x = true) : PutI N o0 s0 t o mk := by
 have hx : x < N.n := h.tlt x (by simp)
 have hxo := (h.mq x hx).1 hm
 refine ⟨h.nd, h.lt, fun y hy => h.tlt y (by simp [hy]), h.mq, h.sub, fun y hy => h.new y (by rcases hy with hy | hy; exact .inl hy; exact .inr (by simp [hy])), ?_, fun y hy j hj => ?_⟩
 ·rcases h.st with k | k
  ·exact .inl k
  ·rcases ma_.1 k with k | k
   ·exact .inr k
   ·rw [ms_.1 k]; exact .inl hxo
 ·rcases h.cl y hy j hj with k | k
  ·exact .inl k
  ·rcases ma_.1 k with k | k
   ·exact .inr k
   ·rw [ms_.1 k]; exact .inl hxo
theorem PutI.next {N : Nfa} (hv : N.valid) {o0 : List Nat} {s0 x : Nat} {t o R : List Nat} {mk mk' : Nat → Bool} (h : PutI N o0 s0 (t ++ [x]) o mk) (hcl : ∀ y ∈ o0, ∀ j, j < N.fn y → (N.fr y j).toNat ∈ o0) (hm : mk x = false) (h1 : mk' x = true) (h2 : ∀ i, i < N.n → i ≠ x → mk' i = mk i)
  (hrm : ∀ y, y ∈ R → ∃ j, j < N.fn x ∧ y = (N.fr x j).toNat) (hmr : ∀ j, j < N.fn x → (N.fr x j).toNat ∈ R) : PutI N o0 s0 (t ++ R) (o ++ [x]) mk' := by
 have hx : x < N.n := h.tlt x (by simp)
 have hxo : x ∉ o := fun k => by rw [(h.mq x hx).2 k] at hm; cases hm
 refine ⟨?_, fun y hy => ?_, fun y hy => ?_, fun y hy => ?_, fun y hy => by simp [h.sub y hy], fun y hy => ?_, ?_, fun y hy j hj => ?_⟩
 ·rw [List.nodup_append]
  exact ⟨h.nd, by simp, fun a ha b hb => by rw [ms_.1 hb]; exact fun k => hxo (k ▸ ha)⟩
 ·rcases ma_.1 hy with k | k
  ·exact h.lt y k
  ·rw [ms_.1 k]; exact hx
 ·rcases ma_.1 hy with k | k
  ·exact h.tlt y (by simp [k])
  ·obtain ⟨j, j1, rfl⟩ := hrm y k
   have := (hv.2.2 x hx).2.2 j j1
   omega
 ·by_cases he : y = x
  ·subst he; simp [h1]
  ·rw [h2 y hy he, h.mq y hy]; simp [he]
 ·have hx2 := h.new x (.inr (by simp))
  rcases hy with hy | hy
  ·rcases ma_.1 hy with k | k
   ·exact h.new y (.inl k)
   ·rw [ms_.1 k]; exact hx2
  ·rcases ma_.1 hy with k | k
   ·exact h.new y (.inr (by simp [k]))
   ·obtain ⟨j, j1, rfl⟩ := hrm y k
    rcases hx2 with k | k
    ·exact .inl (hcl x k j j1)
    ·exact .inr (.step k j1)
 ·rcases h.st with k | k
  ·exact .inl (by simp [k])
  ·rcases ma_.1 k with k | k
   ·exact .inr (by simp [k])
   ·exact .inl (by rw [ms_.1 k]; simp)
 ·rcases ma_.1 hy with k | k
  ·rcases h.cl y k j hj with q | q
   ·exact .inl (by simp [q])
   ·rcases ma_.1 q with q | q
    ·exact .inr (by simp [q])
    ·rw [ms_.1 q]; exact .inl (by simp)
  ·rw [ms_.1 k] at hj ⊢
   exact .inr (by simp [hmr j hj])
section
variable {N : Nfa}
theorem put_loop (hv : N.valid) (hn4 : N.n ≤ 4096) (o0 : List Nat) (s0 : Nat) (hcl : ∀ y ∈ o0, ∀ j, j < N.fn y → (N.fr y j).toNat ∈ o0) :
  ∀ (k : Nat) (td o : List Nat) (mk : Nat → Bool) (f3 f1 : Nat → Int) (M3 M1 : Nat), td.length + unm N mk N.n = k → k ≤ 1000000 → td.length ≤ M3 → o.length ≤ M1 → isRow f3 td → isRow f1 o → PutI N o0 s0 td o mk →
   ∃ o' mk' f1' M1', PutI N o0 s0 [] o' mk' ∧ isRow f1' o' ∧ o'.length ≤ M1' ∧ unm N mk' N.n ≤ unm N mk N.n ∧
    L55_0 td.length N.st N.n (fun i j => ((word (N.set i) j : Nat) : Int)) N.to N.fn N.fr N.ru o.length N.n N.n mk M3 f3 M1 f1 AV.nil.tup (kBlk N o'.length M1' f1' mk' 1001) := by
 have hmx : 140737488355328 ≤ maxLen := by decide
 have fin : ∀ (o : List Nat) (mk : Nat → Bool) (f3 f1 : Nat → Int) (M3 M1 : Nat), L55_0 ([] : List Nat).length N.st N.n (fun i j => ((word (N.set i) j : Nat) : Int)) N.to N.fn N.fr N.ru o.length N.n N.n mk M3 f3 M1 f1 AV.nil.tup (kBlk N o.length M1 f1 mk 1001) := fun o mk f3 f1 M3 M1 => by
  apply r55_0
  exact ⟨fun h => by have := dt_ h; simp at this, fun _ => ⟨Sub.refl _, rfl, rfl, SubB.refl _, rfl, rfl, SubB.refl _, rfl, rfl, SubB.refl _, trivial⟩⟩
 intro k
 induction k with
 | zero =>
  intro td o mk f3 f1 M3 M1 hk hK h3 h1 hf3 hf1 hI
  obtain rfl : td = [] := List.length_eq_zero_iff.1 (by omega)
  exact ⟨o, mk, f1, M1, hI, hf1, h1, lr_ _, fin o mk f3 f1 M3 M1⟩
 | succ k ih =>
  intro td o mk f3 f1 M3 M1 hk hK h3 h1 hf3 hf1 hI
  by_cases ht : td.length = 0
  ·obtain rfl : td = [] := List.length_eq_zero_iff.1 ht
   exact ⟨o, mk, f1, M1, hI, hf1, h1, lr_ _, fin o mk f3 f1 M3 M1⟩
  ·obtain ⟨t, s, rfl⟩ : ∃ t s, td = t ++ [s] := ⟨td.dropLast, td.getLast (fun h => ht (by rw [h]; rfl)), (List.dropLast_concat_getLast _).symm⟩
   have htl : (t ++ [s]).length = t.length + 1 := by simp
   rw [htl] at hk h3
   have hs : s < N.n := hI.tlt s (by simp)
   have hft : f3 t.length = (s : Int) := by
    have := hf3 t.length (by rw [htl]; omega)
    rw [this, getD_snocL, if_neg (by omega), if_pos rfl]
   have hf3' : isRow f3 t := fun i hi => by
    have := hf3 i (by rw [htl]; omega)
    rw [this, getD_snocL, if_pos hi]
   have hwt : IntKind.i64.wrap (((t ++ [s]).length : Int) - 1) = (t.length : Int) := by rw [htl, wrap_i64 (by omega) (by omega)]; omega
   have e : ((t.length : Int) - 0).toNat = t.length := by omega
   by_cases hms : mk s = true
   ·obtain ⟨o', mk', f1', M1', i1, i2, i3, i4, i5⟩ := ih t o mk f3 f1 M3 M1 (by omega) (by omega) (by omega) h1 hf3' hf1 (hI.was hms)
    refine ⟨o', mk', f1', M1', i1, i2, i3, i4, ?_⟩
    apply r55_0
    simp only [hwt, tn_, hft, hms]
    rw [htl]
    refine ⟨fun _ => ⟨⟨by omega, by omega⟩, by omega, ⟨by omega, by omega, by omega, .inl trivial⟩, ⟨by omega, by omega⟩, by omega, fun _ => ?_, fun h => by cases h⟩, fun h => by have := df_ h; omega⟩
    rw [e]
    exact i5
   ·have hms : mk s = false := by simpa using hms
    have hu := unm_set N (mk' := fun i => bif Nat.beq i s then true else mk i) hms (by simp) (fun i hi => by rw [beqF hi]; rfl) N.n
    rw [if_pos hs] at hu
    have hol := nodup_le hI.nd hI.lt
    have hfr : isRow (N.fr s) ((List.range (N.fn s)).map (fun j => (N.fr s j).toNat)) := fun j hj => by
     have hj : j < N.fn s := by simpa using hj
     have := (hv.2.2 s hs).2.2 j hj
     simp [gd_, hj]
     omega
    have hrl : ((List.range (N.fn s)).map (fun j => (N.fr s j).toNat)).length = N.fn s := by simp
    have hrm : ∀ x, x ∈ (List.range (N.fn s)).map (fun j => (N.fr s j).toNat) → ∃ j, j < N.fn s ∧ x = (N.fr s j).toNat := fun x hx => by
     obtain ⟨j, hj, e⟩ := List.mem_map.1 hx
     exact ⟨j, by simpa using hj, e.symm⟩
    have hmr : ∀ j, j < N.fn s → (N.fr s j).toNat ∈ (List.range (N.fn s)).map (fun j => (N.fr s j).toNat) := fun j hj => List.mem_map.2 ⟨j, by simpa using hj, rfl⟩
    generalize hR : (List.range (N.fn s)).map (fun j => (N.fr s j).toNat) = R at hfr hrl hrm hmr
    obtain ⟨o', mk', f1', M1', i1, i2, i3, i4, i5⟩ := ih (t ++ R) (o ++ [s]) (fun i => bif Nat.beq i s then true else mk i) (fun i => bif Nat.blt i t.length then f3 i else N.fr s (i - t.length)) (fun i => bif Nat.blt i o.length then f1 i else (s : Int)) (t.length + N.fn s) (o.length + 1)
     (by rw [la_, hrl]; omega) (by omega) (by rw [la_, hrl]; omega) (by simp)
     (isRow_app hf3' hfr fun _ => rfl) (isRow_snoc hf1 (fun i hi => by rw [show Nat.blt i o.length = true by simpa using hi]; rfl) (by rw [show Nat.blt o.length o.length = false from Bool.eq_false_iff.2 fun k => by simp at k]; rfl))
     (hI.next hv hcl hms (by simp) (fun i _ hi => by rw [beqF hi]; rfl) hrm hmr)
    refine ⟨o', mk', f1', M1', i1, i2, i3, by omega, ?_⟩
    apply r55_0
    simp only [hwt, tn_, hft, hms]
    rw [htl]
    refine ⟨fun _ => ⟨⟨by omega, by omega⟩, by omega, ⟨by omega, by omega, by omega, .inl trivial⟩, ⟨by omega, by omega⟩, by omega, fun h => (by cases h), fun _ => ⟨⟨by omega, by omega, by omega⟩, ⟨by omega, by omega⟩, ⟨by omega, by omega, by omega⟩, ?_⟩⟩, fun h => by have := df_ h; omega⟩
    rw [e]
    rw [la_, hrl, la_, List.length_singleton] at i5
    exact i5
end
end Go.Am.Seat

namespace Go.Am.Seat
open Go Go.Am
section
variable {N : Nfa}
theorem kBlk_new (N : Nfa) (k M : Nat) (f : Nat → Int) (g : Nat → Bool) (a : Nat) : ∀ q ∈ kBlk N k M f g a, newOnly q.2.2 := by
 intro q hq
 simp only [kBlk, mn_, List.not_mem_nil, or_false] at hq
 rcases hq with rfl | rfl | rfl
 ·exact ⟨⟨trivial, ⟨rfl, fun i hi => ⟨fun j hj => trivial, trivial, ⟨rfl, fun j hj => trivial⟩, trivial, trivial⟩⟩, trivial⟩, trivial, trivial, trivial⟩
 ·exact fun i hi => trivial
 ·exact fun i hi => trivial
theorem put_ok (hv : N.valid) (hn4 : N.n ≤ 4096) (hf : N.freeM N.n ≤ 16384) (s0 : Nat) (hs : s0 < N.n) (o : List Nat) (mk : Nat → Bool) (f1 : Nat → Int) (M1 : Nat) (h1 : o.length ≤ M1) (hf1 : isRow f1 o) (hnd : o.Nodup) (hlt : ∀ x ∈ o, x < N.n) (hm : ∀ x, x < N.n → (mk x = true ↔ x ∈ o)) (hcl : ∀ y ∈ o, ∀ j, j < N.fn y → (N.fr y j).toNat ∈ o) :
  ∃ o' mk' f1' M1', PutI N o s0 [] o' mk' ∧ isRow f1' o' ∧ o'.length ≤ M1' ∧
   Ok Proofs.Try.prog 55 [.pt 2000 [] 0, .sc (.int .i64 (s0 : Int))] (kBlk N o.length M1 f1 mk 2001) AV.nil.tup (kBlk N o'.length M1' f1' mk' 1001) := by
 have hu : unm N mk N.n ≤ 20000 := by
  have h0 := unm_free N hf N.n (lr_ _)
  have : ∀ k, unm N mk k ≤ unm N (fun _ => false) k := fun k => by
   induction k with
   | zero => exact lr_ _
   | succ k ih => unfold unm; simp only [Bool.false_eq_true, if_false]; split <;> omega
  have := this N.n
  omega
 obtain ⟨o', mk', f1', M1', i1, i2, i3, _, i5⟩ := put_loop hv hn4 o s0 hcl (1 + unm N mk N.n) [s0] o mk (fun _ => (s0 : Int)) f1 1 M1 (by simp) (by omega) (by simp) h1 (fun i hi => by
   have : i = 0 := by simpa using hi
   subst this; rfl) hf1
  ⟨hnd, hlt, fun x hx => by rw [ms_.1 hx]; exact hs, hm, fun x hx => hx, fun x hx => by
   rcases hx with hx | hx
   ·exact .inl hx
   ·exact .inr (.base hx), .inr (by simp), fun x hx j hj => .inl (hcl x hx j hj)⟩
 refine ⟨o', mk', f1', M1', i1, i2, i3, ?_⟩
 exact o55 _ _ _ _ _ _ _ _ _ _ _ _ _ _ _ _ ⟨trivial, kBlk_new _ _ _ _ _ _⟩ rfl (r55_e _ _ _ _ _ _ _ _ _ _ _ _ _ _ _ _ i5)
end
end Go.Am.Seat

namespace Go.Am.Seat
open Go Go.Am

section
variable {N : Nfa} {d : Dfa} {lab : Nat → List Nat} {t e : Nat → Bool}
end
end Go.Am.Seat

namespace Go.Am.Seat
open Go Go.Am

theorem ruleGo_is {N : Nfa} : ∀ (l : List Nat) (m : Int), (ruleGo N l m = m ∧ (0 ≤ m ∨ ∀ s ∈ l, N.ru s < 0) ∧ ∀ s ∈ l, 0 ≤ N.ru s → m ≤ N.ru s) ∨ (∃ s ∈ l, N.ru s = ruleGo N l m ∧ 0 ≤ N.ru s ∧ (0 ≤ m → N.ru s < m) ∧ ∀ t ∈ l, 0 ≤ N.ru t → N.ru s ≤ N.ru t)
 | [], m => .inl ⟨rfl, .inr (fun s h => by cases h), fun s h => by cases h⟩
 | s :: l, m => by
  unfold ruleGo
  by_cases hc : 0 ≤ N.ru s ∧ (m < 0 ∨ N.ru s < m)
  ·rw [if_pos hc]
   right
   rcases ruleGo_is (N := N) l (N.ru s) with ⟨h1, h2, h3⟩ | ⟨t, h1, h2, h3, h4, h5⟩
   ·exact ⟨s, mf_, h1.symm, hc.1, fun h => by omega, fun t ht h => by
     rcases mn_.1 ht with rfl | ht
     ·exact Int.le_refl _
     ·exact h3 t ht h⟩
   ·have h6 := h4 hc.1
    exact ⟨t, mc_ _ h1, h2, h3, fun h => by omega, fun u hu h => by
     rcases mn_.1 hu with rfl | hu
     ·omega
     ·exact h5 u hu h⟩
  ·rw [if_neg hc]
   rcases ruleGo_is (N := N) l m with ⟨h1, h2, h3⟩ | ⟨t, h1, h2, h3, h4, h5⟩
   ·left
    refine ⟨h1, ?_, fun t ht h => ?_⟩
    ·by_cases hm : 0 ≤ m
     ·exact .inl hm
     ·right
      intro t ht
      rcases mn_.1 ht with rfl | ht
      ·omega
      ·rcases h2 with h2 | h2
       ·omega
       ·exact h2 t ht
    ·rcases mn_.1 ht with rfl | ht
     ·omega
     ·exact h3 t ht h
   ·by_cases hm : 0 ≤ N.ru s ∧ N.ru s < N.ru t
    ·have := h4
     omega
    ·right
     exact ⟨t, mc_ _ h1, h2, h3, h4, fun u hu h => by
      rcases mn_.1 hu with rfl | hu
      ·omega
      ·exact h5 u hu h⟩
structure Turn (N M : Nfa) (o p : Nat → Nat) : Prop where
 n : M.n = N.n
 st : M.st = (o N.st.toNat : Nat)
 ol : ∀ s, s < N.n → o s < N.n
 pl : ∀ s, s < N.n → p s < N.n
 po : ∀ s, s < N.n → p (o s) = s
 op : ∀ s, s < N.n → o (p s) = s
 set : ∀ s b, s < N.n → b < 256 → M.set (o s) b = N.set s b
 to : ∀ s, s < N.n → 0 ≤ N.to s → M.to (o s) = (o (N.to s).toNat : Nat)
 tn : ∀ s, s < N.n → N.to s < 0 → M.to (o s) < 0
 fn : ∀ s, s < N.n → M.fn (o s) = N.fn s
 fr : ∀ s j, s < N.n → j < N.fn s → M.fr (o s) j = (o (N.fr s (N.fn s - 1 - j)).toNat : Nat)
 ru : ∀ s, s < N.n → M.ru (o s) = N.ru s
section
variable {N M : Nfa} {o p : Nat → Nat}
end
end Go.Am.Seat

namespace Go.Am.Seat
open Go Go.Am
section
variable {N : Nfa}
theorem FreeR.mono {l l' : List Nat} (h : ∀ s ∈ l, s ∈ l') {x : Nat} (hx : FreeR N l x) : FreeR N l' x := by
 induction hx with
 | base k => exact .base (h _ k)
 | step _ hj ih => exact .step ih hj
theorem FreeR.inn {l o : List Nat} (h : ∀ s ∈ l, s ∈ o) (hcl : ∀ y ∈ o, ∀ j, j < N.fn y → (N.fr y j).toNat ∈ o) {x : Nat} (hx : FreeR N l x) : x ∈ o := by
 induction hx with
 | base k => exact h _ k
 | step _ hj ih => exact hcl _ ih _ hj
structure AtS (N : Nfa) (o : List Nat) (mk : Nat → Bool) (l : List Nat) : Prop where
 nd : o.Nodup
 lt : ∀ x ∈ o, x < N.n
 mq : ∀ x, x < N.n → (mk x = true ↔ x ∈ o)
 cl : ∀ y ∈ o, ∀ j, j < N.fn y → (N.fr y j).toNat ∈ o
 mem : ∀ x, x ∈ o ↔ FreeR N l x
theorem AtS.none (mk : Nat → Bool) (h : ∀ x, x < N.n → mk x = false) : AtS N [] mk [] := by
 refine ⟨by simp, fun x hx => (by cases hx), fun x hx => by simp [h x hx], fun x hx => (by cases hx), fun x => ⟨fun h => (by cases h), fun h => ?_⟩⟩
 induction h with
 | base k => cases k
 | step _ _ ih => cases ih
theorem AtS.put {o o' : List Nat} {mk mk' : Nat → Bool} {l : List Nat} {s0 : Nat} (h : AtS N o mk l) (hI : PutI N o s0 [] o' mk') : AtS N o' mk' (l ++ [s0]) := by
 have hcl : ∀ y ∈ o', ∀ j, j < N.fn y → (N.fr y j).toNat ∈ o' := fun y hy j hj => (hI.cl y hy j hj).elim id fun k => by cases k
 refine ⟨hI.nd, hI.lt, hI.mq, hcl, fun x => ⟨fun hx => ?_, fun hx => ?_⟩⟩
 ·rcases hI.new x (.inl hx) with k | k
  ·exact ((h.mem x).1 k).mono fun s hs => by simp [hs]
  ·exact k.mono fun s hs => by simp at hs; simp [hs]
 ·refine FreeR.inn (fun s hs => ?_) hcl hx
  rcases ma_.1 hs with k | k
  ·exact hI.sub s ((h.mem s).2 (.base k))
  ·rw [ms_.1 k]
   exact hI.st.elim id fun k => by cases k
noncomputable def walkL (N : Nfa) (c : List Nat) : List Nat → List Nat
 | [] => c
 | b :: w => walkL N (trL N c b) w
theorem walkL_app (c : List Nat) (w : List Nat) (b : Nat) : walkL N c (w ++ [b]) = trL N (walkL N c w) b := by
 induction w generalizing c with
 | nil => rfl
 | cons x w ih => exact ih _
theorem walkL_lt {c : List Nat} (hc : ∀ s ∈ c, s < N.n) : ∀ w : List Nat, ∀ s ∈ walkL N c w, s < N.n := by
 intro w
 induction w generalizing c with
 | nil => exact hc
 | cons x w ih => exact ih (fun s hs => trL_lt s hs)
theorem step_mem {a c : List Nat} (h : ∀ x, x ∈ a ↔ x ∈ c) (b : Nat) : ∀ x, x ∈ stepL N a b ↔ x ∈ stepL N c b := by
 intro x
 unfold stepL
 simp only [List.mem_map, List.mem_filter, h]
theorem AtS.on (hv : N.valid) {o c o' : List Nat} {mk' : Nat → Bool} {b : Nat} (ho : ∀ x, x ∈ o ↔ x ∈ c) (hc : ∀ s ∈ c, s < N.n) (h : AtS N o' mk' (stepL N o b)) : ∀ x, x ∈ o' ↔ x ∈ trL N c b := by
 intro x
 rw [h.mem x]
 unfold trL
 rw [mem_clos hv (stepL_lt hv hc b)]
 exact ⟨fun k => k.mono fun s hs => (step_mem ho b s).1 hs, fun k => k.mono fun s hs => (step_mem ho b s).2 hs⟩
theorem dead_walk (hv : N.valid) : ∀ (w : List Nat) (c : List Nat), isB w → (∀ s ∈ c, s < N.n) → ¬ AlN N c → ¬ AlN N (walkL N c w)
 | [], c, _, _, h => h
 | b :: w, c, hw, hc, h => dead_walk hv w _ hw.tail (fun s hs => trL_lt s hs) fun k => h (al_back hv hc hw.head k)
theorem dead_rule {c : List Nat} (h : ¬ AlN N c) : ruleGo N c (-1) = -1 :=
 ruleGo_none fun s hs => by
  by_cases k : N.ru s < 0
  ·exact k
  ·exact absurd ⟨s, hs, .rule (by omega)⟩ h
theorem tells_is (hv : N.valid) {d : Dfa} {lab : Nat → List Nat} (hd : IsDfa N d lab) (hk : d.nk ≤ 2048) : ∀ (w : List Nat) (n : Nat), isB w → n < d.nk → tellsF d (n : Int) w = ruleGo N (walkL N (lab n) w) (-1)
 | [], n, _, hn => by
  unfold tellsF ruleAt
  show (if _ then _ else _) = ruleGo N (lab n) (-1)
  have h1 := (ruleGo_lt hv (lab n) (-1) (IsDfa.lab_lt hv hd n hn) (by omega) (by omega)).1
  rw [← hd.rule n hn] at h1 ⊢
  show (if (n : Int) < 0 ∨ d.ru n < 0 then (-1 : Int) else d.ru n) = d.ru n
  split <;> omega
 | b :: w, n, hw, hn => by
  have hb := hw.head
  have e : tellsF d (n : Int) (b :: w) = tellsF d (goS d (n : Int) b) w := rfl
  have eg : goS d (n : Int) b = d.nx n (d.cl b) := by
   unfold goS
   rw [if_neg (by omega)]
   have := (hd.ge hn hb).1
   show (if d.nx n (d.cl b) < 0 then (-1 : Int) else d.nx n (d.cl b)) = _
   split <;> omega
  rw [e, eg]
  show _ = ruleGo N (walkL N (trL N (lab n) b) w) (-1)
  by_cases ha : AlN N (trL N (lab n) b)
  ·obtain ⟨m, m1, m2, m3⟩ := hd.go n b hn hb ha
   rw [m1, ← m3]
   exact tells_is hv hd hk w m hw.tail m2
  ·rw [hd.no n b hn hb ha, dead_rule (dead_walk hv w _ hw.tail (fun s hs => trL_lt s hs) ha)]
   unfold tellsF ruleAt
   have := walkS_neg (d := d) (s := -1) w (by omega)
   rw [if_pos (.inl this)]
end
end Go.Am.Seat

namespace Go.Am.Seat
open Go Go.Am
section
variable {N : Nfa}
theorem on_loop (hv : N.valid) (hn4 : N.n ≤ 4096) (hf : N.freeM N.n ≤ 16384) (b : Nat) (hb : b < 256) (o : List Nat) (ho : ∀ x ∈ o, x < N.n) (M1 : Nat) (f1 : Nat → Int) (h1 : o.length ≤ M1) (hf1 : isRow f1 o) (hol : o.length ≤ 4096) : ∀ (m i : Nat) (o' : List Nat) (mk' : Nat → Bool) (f2 : Nat → Int) (M2 : Nat), i + m = o.length → AtS N o' mk' (stepL N (o.take i) b) → isRow f2 o' → o'.length ≤ M2 →
  ∃ (o2 : List Nat) (mk2 : Nat → Bool) (f3 : Nat → Int) (M3 : Nat), AtS N o2 mk2 (stepL N o b) ∧ isRow f3 o2 ∧ o2.length ≤ M3 ∧
   L56_0 (b : Int) o.length (o.length : Int) (i : Int) N.st N.n (fun i j => ((word (N.set i) j : Nat) : Int)) N.to N.fn N.fr N.ru o'.length N.n N.n mk' M1 f1 M2 f2 AV.nil.tup (kBlk N o2.length M3 f3 mk2 1001) := by
 intro m
 induction m with
 | zero =>
  intro i o' mk' f2 M2 hi hA hr hM
  obtain rfl : i = o.length := by omega
  rw [List.take_length] at hA
  refine ⟨o', mk', f2, M2, hA, hr, hM, ?_⟩
  apply r56_0
  exact ⟨fun h => by have := dt_ h; omega, fun _ => ⟨Sub.refl _, rfl, rfl, SubB.refl _, rfl, rfl, SubB.refl _, rfl, rfl, SubB.refl _, trivial⟩⟩
 | succ m ih =>
  intro i o' mk' f2 M2 hi hA hr hM
  have hil : i < o.length := by omega
  have hs : o.getD i 0 < N.n := getD_lt ho hil
  have hfi : f1 i = ((o.getD i 0 : Nat) : Int) := hf1 i hil
  have ht := take_snoc hil
  have hw := hv.2.2 _ hs
  have stay : ¬ ((decide (0 ≤ N.to (o.getD i 0)) && N.set (o.getD i 0) b) = true) → ∃ (o2 : List Nat) (mk2 : Nat → Bool) (f3 : Nat → Int) (M3 : Nat), AtS N o2 mk2 (stepL N o b) ∧ isRow f3 o2 ∧ o2.length ≤ M3 ∧
   L56_1 (b : Int) o.length (o.length : Int) (i : Int) N.st N.n (fun i j => ((word (N.set i) j : Nat) : Int)) N.to N.fn N.fr N.ru o'.length N.n N.n mk' M1 f1 M2 f2 AV.nil.tup (kBlk N o2.length M3 f3 mk2 1001) := fun hno => by
   obtain ⟨o2, mk2, f3, M3, i1, i2, i3, i4⟩ := ih (i + 1) o' mk' f2 M2 (by omega) (by rw [ht, stepL_snoc, if_neg hno]; exact hA) hr hM
   refine ⟨o2, mk2, f3, M3, i1, i2, i3, ?_⟩
   apply r56_1
   rw [wrapSucc (by omega)]
   exact i4
  by_cases h0 : 0 ≤ N.to (o.getD i 0)
  ·by_cases hset : N.set (o.getD i 0) b = true
   ·have hto : N.to (o.getD i 0) = (((N.to (o.getD i 0)).toNat : Nat) : Int) := by omega
    obtain ⟨o3, mk3, f4, M4, j1, j2, j3, j4⟩ := put_ok hv hn4 hf (N.to (o.getD i 0)).toNat (by omega) o' mk' f2 M2 hM hr hA.nd hA.lt hA.mq hA.cl
    rw [← hto] at j4
    obtain ⟨o2, mk2, f3, M3, i1, i2, i3, i4⟩ := ih (i + 1) o3 mk3 f4 M4 (by omega) (by rw [ht, stepL_snoc, if_pos (by rw [ba_]; exact ⟨decide_eq_true h0, hset⟩)]; exact hA.put j1) j2 j3
    refine ⟨o2, mk2, f3, M3, i1, i2, i3, ?_⟩
    apply r56_0
    rw [show (i : Int).toNat = i from rfl, hfi, show ((o.getD i 0 : Nat) : Int).toNat = o.getD i 0 from rfl]
    refine ⟨fun _ => ⟨⟨by omega, by omega⟩, by omega, ⟨by omega, by omega⟩, fun _ => ⟨_, has_ok (N.set (o.getD i 0)) b hb, fun _ => ⟨(N.st, N.n, (fun i j => ((word (N.set i) j : Nat) : Int)), N.to, N.fn, N.fr, N.ru, o3.length, N.n, M4, f4, N.n, mk3), j4, ?_⟩, fun h => by rw [hset] at h; cases h⟩, fun h => by have := df_ h; omega⟩, fun h => by have := df_ h; omega⟩
    apply r56_1
    rw [wrapSucc (by omega)]
    exact i4
   ·obtain ⟨o2, mk2, f3, M3, i1, i2, i3, i4⟩ := stay (fun k => by rw [ba_] at k; exact hset k.2)
    refine ⟨o2, mk2, f3, M3, i1, i2, i3, ?_⟩
    apply r56_0
    rw [show (i : Int).toNat = i from rfl, hfi, show ((o.getD i 0 : Nat) : Int).toNat = o.getD i 0 from rfl]
    exact ⟨fun _ => ⟨⟨by omega, by omega⟩, by omega, ⟨by omega, by omega⟩, fun _ => ⟨_, has_ok (N.set (o.getD i 0)) b hb, fun h => absurd h hset, fun _ => i4⟩, fun _ => i4⟩, fun h => by have := df_ h; omega⟩
  ·obtain ⟨o2, mk2, f3, M3, i1, i2, i3, i4⟩ := stay (fun k => by rw [ba_] at k; exact h0 (dt_ k.1))
   refine ⟨o2, mk2, f3, M3, i1, i2, i3, ?_⟩
   apply r56_0
   rw [show (i : Int).toNat = i from rfl, hfi, show ((o.getD i 0 : Nat) : Int).toNat = o.getD i 0 from rfl]
   exact ⟨fun _ => ⟨⟨by omega, by omega⟩, by omega, ⟨by omega, by omega⟩, fun h => absurd (dt_ h) h0, fun _ => i4⟩, fun h => by have := df_ h; omega⟩
structure WkI (N : Nfa) (o : List Nat) (mk : Nat → Bool) (M : Nat) (f : Nat → Int) (c : List Nat) : Prop where
 nd : o.Nodup
 lt : ∀ x ∈ o, x < N.n
 row : isRow f o
 len : o.length ≤ M
 mem : ∀ x, x ∈ o ↔ x ∈ c
theorem on_ok (hv : N.valid) (hn4 : N.n ≤ 4096) (hf : N.freeM N.n ≤ 16384) (b : Nat) (hb : b < 256) {o : List Nat} {mk : Nat → Bool} {M : Nat} {f : Nat → Int} {c : List Nat} (h : WkI N o mk M f c) (hc : ∀ s ∈ c, s < N.n) :
  ∃ (o2 : List Nat) (mk2 : Nat → Bool) (M2 : Nat) (f2 : Nat → Int), WkI N o2 mk2 M2 f2 (trL N c b) ∧ Ok Proofs.Try.prog 56 [.pt 2000 [] 0, .sc (.int .u8 (b : Int))] (kBlk N o.length M f mk 2001) AV.nil.tup (kBlk N o2.length M2 f2 mk2 1001) := by
 obtain ⟨o2, mk2, f3, M3, i1, i2, i3, i4⟩ := on_loop hv hn4 hf b hb o h.lt M f h.len h.row (by have := nodup_le h.nd h.lt; omega) o.length 0 [] (fun i => bif Nat.ble 0 i && i.blt (0 + N.n) then false else mk i) (fun i => Int.ofNat 0) 0 (by omega) (AtS.none _ fun x hx => by
  rw [show (Nat.ble 0 x && x.blt (0 + N.n)) = true by simp [hx]]; rfl) (fun i hi => absurd hi (by simp)) (by simp)
 refine ⟨o2, mk2, M3, f3, ⟨i1.nd, i1.lt, i2, i3, AtS.on hv h.mem hc i1⟩, ?_⟩
 exact o56 _ _ _ _ _ _ _ _ _ _ _ _ _ _ _ _ ⟨trivial, kBlk_new _ _ _ _ _ _⟩ rfl (r56_e _ _ _ _ _ _ _ _ _ _ _ _ _ _ _ _ ⟨by omega, i4⟩)
end
end Go.Am.Seat

namespace Go.Am
open Go
def Hp (k n : Nat) (h : Nat → Int) : Prop := ∀ i c, k ≤ i → (c = 2 * i + 1 ∨ c = 2 * i + 2) → c < n → h c ≤ h i
structure HpBut (k n r : Nat) (h : Nat → Int) : Prop where
 ok : ∀ i c, k ≤ i → i ≠ r → (c = 2 * i + 1 ∨ c = 2 * i + 2) → c < n → h c ≤ h i
 up : ∀ p c, k ≤ p → (r = 2 * p + 1 ∨ r = 2 * p + 2) → (c = 2 * r + 1 ∨ c = 2 * r + 2) → c < n → h c ≤ h p
theorem Hp.top {n : Nat} {h : Nat → Int} (hp : Hp 0 n h) : ∀ (k i : Nat), i < k → i < n → h i ≤ h 0
 | 0, i, hk, _ => by omega
 | k + 1, i, hk, hi => by
  by_cases h0 : i = 0
  ·subst h0; exact Int.le_refl _
  ·have h1 := hp ((i - 1) / 2) i (by omega) (by omega) hi
   exact Int.le_trans h1 (Hp.top hp k ((i - 1) / 2) (by omega) (by omega))
theorem HpBut.down {k n r c : Nat} {h : Nat → Int} (hb : HpBut k n r h) (hk : k ≤ r) (hc : c = 2 * r + 1 ∨ c = 2 * r + 2) (hcn : c < n) (hmax : ∀ d, (d = 2 * r + 1 ∨ d = 2 * r + 2) → d < n → h d ≤ h c) (hlt : h r < h c) : HpBut k n c (swapF h r c) := by
 have hrc : r ≠ c := by omega
 have sr : swapF h r c r = h c := by unfold swapF; rw [if_pos rfl]
 have sc : swapF h r c c = h r := by unfold swapF; rw [if_neg (by omega), if_pos rfl]
 have so : ∀ x, x ≠ r → x ≠ c → swapF h r c x = h x := fun x h1 h2 => by unfold swapF; rw [if_neg h1, if_neg h2]
 refine ⟨fun i d hi hic hd hdn => ?_, fun p d hp hpc hd hdn => ?_⟩
 ·by_cases hir : i = r
  ·subst hir
   rw [sr]
   by_cases hdc : d = c
   ·subst hdc; rw [sc]; omega
   ·rw [so d (by omega) hdc]; exact hmax d hd hdn
  ·rw [so i hir hic]
   by_cases hdc : d = c
   ·subst hdc; omega
   ·by_cases hdr : d = r
    ·subst hdr
     rw [sr]
     exact hb.up i c hi hd hc hcn
    ·rw [so d hdr hdc]; exact hb.ok i d hi hir hd hdn
 ·have hpr : p = r := by omega
  subst hpr
  rw [sr, so d (by omega) (by omega)]
  exact hb.ok c d (by omega) (by omega) hd hdn
theorem HpBut.stop {k n r : Nat} {h : Nat → Int} (hb : HpBut k n r h) (hmax : ∀ d, (d = 2 * r + 1 ∨ d = 2 * r + 2) → d < n → h d ≤ h r) : Hp k n h := by
 intro i c hi hc hcn
 by_cases e : i = r
 ·subst e; exact hmax c hc hcn
 ·exact hb.ok i c hi e hc hcn
theorem Hp.but {k n : Nat} {h : Nat → Int} (hp : Hp (k + 1) n h) : HpBut k n k h :=
 ⟨fun i c hi hne hc hcn => hp i c (by omega) hc hcn, fun p c hp' hr hc hcn => by omega⟩
def offF (f : Nat → Int) (a : Nat) : Nat → Int := fun i => f (a + i)
theorem offF_swap (f : Nat → Int) (a i j : Nat) : offF (swapF f (a + i) (a + j)) a = swapF (offF f a) i j := by
 funext k
 unfold offF swapF
 by_cases h1 : k = i
 ·rw [if_pos h1, if_pos (by omega)]
 ·rw [if_neg h1, if_neg (by omega)]
  by_cases h2 : k = j
  ·rw [if_pos h2, if_pos (by omega)]
  ·rw [if_neg h2, if_neg (by omega)]
end Go.Am

namespace Go.Am.Seat
open Go Go.Am

theorem swapF_comm (f : Nat → Int) (i j : Nat) : swapF f i j = swapF f j i := by
 funext k
 unfold swapF
 by_cases h1 : k = i <;> by_cases h2 : k = j
 ·rw [if_pos h1, if_pos h2, ← h1, ← h2]
 ·rw [if_pos h1, if_neg h2, if_pos h1]
 ·rw [if_neg h1, if_pos h2, if_pos h2]
 ·rw [if_neg h1, if_neg h2, if_neg h2, if_neg h1]
theorem bifBeq' {α : Type} (i n : Nat) (x y : α) : (bif Nat.beq i n then x else y) = if i = n then x else y := by
 by_cases h : i = n
 ·subst h; rw [if_pos rfl, show Nat.beq i i = true by simp]; rfl
 ·rw [if_neg h, show Nat.beq i n = false from by
   cases hb : Nat.beq i n with
   | false => rfl
   | true => exact absurd (Nat.eq_of_beq_eq_true hb) h]; rfl
theorem bifSwap (f : Nat → Int) (i j : Nat) : (fun k => bif Nat.beq k i then f j else bif Nat.beq k j then f i else f k) = swapF f i j := by
 funext k
 rw [bifBeq', bifBeq']
 rfl
theorem w2 {n : Nat} (hn : n ≤ 1000000000) : IntKind.i64.wrap (2 * (n : Int)) = ((2 * n : Nat) : Int) := by
 rw [wrap_i64 (by omega) (by omega)]; omega
theorem wS {n m : Nat} (hm : m = n + 1) (hn : n ≤ 3000000000) : IntKind.i64.wrap ((n : Int) + 1) = (m : Int) := by
 rw [wrap_i64 (by omega) (by omega)]; omega
theorem wA {n m : Nat} (hn : n ≤ 3000000000) (hm : m ≤ 3000000000) : IntKind.i64.wrap ((n : Int) + (m : Int)) = ((n + m : Nat) : Int) := by
 rw [wrap_i64 (by omega) (by omega)]; omega
theorem wB {n m : Nat} (hn : n ≤ m) (hm : m ≤ 3000000000) : IntKind.i64.wrap ((m : Int) - (n : Int)) = ((m - n : Nat) : Int) := by
 rw [wrap_i64 (by omega) (by omega)]; omega
theorem sift_loop (N n hi first lo : Nat) (hN : n ≤ N) (hb : first + hi ≤ n) (hn : n ≤ 1000000000) : ∀ (m root : Nat) (f : Nat → Int), hi - root ≤ m → lo ≤ root → root < hi ∨ root = hi → HpBut lo hi root (offF f first) →
  ∃ g, Shuf first (first + hi) f g ∧ Hp lo hi (offF g first) ∧ L84_0 n (hi : Int) (first : Int) (root : Int) N f AV.nil.tup (sBlk N g) := by
 intro m
 induction m with
 | zero =>
  intro root f hm hlo hr hp
  refine ⟨f, Shuf.refl _ _ _, hp.stop fun d hd hdn => by omega, ?_⟩
  apply r84_0
  rw [w2 (n := root) (by omega), wS (n := 2 * root) (m := 2 * root + 1) rfl (by omega)]
  exact ⟨fun _ => ⟨Sub.refl _, sOut fun _ => rfl⟩, fun h => by have := df_ h; omega⟩
 | succ m ih =>
  intro root f hm hlo hr hp
  by_cases hc : hi ≤ 2 * root + 1
  ·refine ⟨f, Shuf.refl _ _ _, hp.stop fun d hd hdn => by omega, ?_⟩
   apply r84_0
   rw [w2 (n := root) (by omega), wS (n := 2 * root) (m := 2 * root + 1) rfl (by omega)]
   exact ⟨fun _ => ⟨Sub.refl _, sOut fun _ => rfl⟩, fun h => by have := df_ h; omega⟩
  ·-- the greater child
   have go : ∀ c, (c = 2 * root + 1 ∨ c = 2 * root + 2) → c < hi → (∀ d, (d = 2 * root + 1 ∨ d = 2 * root + 2) → d < hi → f (first + d) ≤ f (first + c)) →
     ∃ g, Shuf first (first + hi) f g ∧ Hp lo hi (offF g first) ∧ L84_1 n (hi : Int) (first : Int) (root : Int) (c : Int) N f AV.nil.tup (sBlk N g) := by
    intro c hcc hci hmax
    by_cases hlt : f (first + root) < f (first + c)
    ·have hd := hp.down hlo hcc hci (fun d h1 h2 => hmax d h1 h2) hlt
     rw [← offF_swap] at hd
     obtain ⟨g, g1, g2, g3⟩ := ih c (swapF f (first + root) (first + c)) (by omega) (by omega) (.inl hci) hd
     refine ⟨g, (Shuf.swap f (by omega) (by omega) (by omega) (by omega)).trans g1, g2, ?_⟩
     apply r84_1
     rw [wA (n := first) (m := root) (by omega) (by omega), wA (n := first) (m := c) (by omega) (by omega)]
     simp only [tn_]
     refine ⟨⟨by omega, by omega⟩, by omega, ⟨by omega, by omega⟩, by omega, decide (f (first + root) < f (first + c)), less_ok _ _, fun h => ?_, fun _ => ?_⟩
     ·rw [decide_eq_true hlt] at h; cases h
     ·rw [bifSwap, swapF_comm]; exact g3
    ·refine ⟨f, Shuf.refl _ _ _, hp.stop fun d h1 h2 => ?_, ?_⟩
     ·have := hmax d h1 h2
      show f (first + d) ≤ f (first + root)
      omega
     ·apply r84_1
      rw [wA (n := first) (m := root) (by omega) (by omega), wA (n := first) (m := c) (by omega) (by omega)]
      simp only [tn_]
      refine ⟨⟨by omega, by omega⟩, by omega, ⟨by omega, by omega⟩, by omega, decide (f (first + root) < f (first + c)), less_ok _ _, fun _ => ⟨Sub.refl _, sOut fun _ => rfl⟩, fun h => ?_⟩
      rw [decide_eq_false hlt] at h; cases h
   have put : ∀ {g : Nat → Int}, (2 * root + 2 < hi → f (first + (2 * root + 1)) < f (first + (2 * root + 2)) → L84_1 n (hi : Int) (first : Int) (root : Int) ((2 * root + 2 : Nat) : Int) N f AV.nil.tup (sBlk N g)) →
     (¬ (2 * root + 2 < hi ∧ f (first + (2 * root + 1)) < f (first + (2 * root + 2))) → L84_1 n (hi : Int) (first : Int) (root : Int) ((2 * root + 1 : Nat) : Int) N f AV.nil.tup (sBlk N g)) →
     L84_0 n (hi : Int) (first : Int) (root : Int) N f AV.nil.tup (sBlk N g) := fun h1 h2 => by
    apply r84_0
    rw [w2 (n := root) (by omega), wS (n := 2 * root) (m := 2 * root + 1) rfl (by omega), wS (n := 2 * root + 1) (m := 2 * root + 2) rfl (by omega), wA (n := first) (m := 2 * root + 1) (by omega) (by omega), wS (n := first + (2 * root + 1)) (m := first + (2 * root + 2)) (by omega) (by omega)]
    simp only [tn_]
    refine ⟨fun h => by have := dt_ h; omega, fun _ => ⟨fun h => ⟨⟨by omega, by omega⟩, by omega, ⟨by omega, ?_⟩, ?_, decide (f (first + (2 * root + 1)) < f (first + (2 * root + 2))), less_ok _ _, fun h3 => ?_, fun h3 => ?_⟩, fun h => ?_⟩⟩
    ·have := dt_ h; omega
    ·have := dt_ h; omega
    ·have := dt_ h
     exact h1 (by omega) (dt_ h3)
    ·have h3 := df_ h3
     exact h2 fun k => h3 k.2
    ·have h : decide (((2 * root + 2 : Nat) : Int) < (hi : Int)) = false := h
     have := df_ h
     exact h2 fun k => by omega
   by_cases hg : 2 * root + 2 < hi ∧ f (first + (2 * root + 1)) < f (first + (2 * root + 2))
   ·obtain ⟨g, g1, g2, g3⟩ := go (2 * root + 2) (.inr rfl) hg.1 (fun d h1 h2 => by
     rcases h1 with rfl | rfl
     ·have := hg.2; omega
     ·exact Int.le_refl _)
    exact ⟨g, g1, g2, put (fun _ _ => g3) (fun h => absurd hg h)⟩
   ·obtain ⟨g, g1, g2, g3⟩ := go (2 * root + 1) (.inl rfl) (by omega) (fun d h1 h2 => by
     rcases h1 with rfl | rfl
     ·exact Int.le_refl _
     ·have : ¬ f (first + (2 * root + 1)) < f (first + (2 * root + 2)) := fun k => hg ⟨h2, k⟩
      omega)
    exact ⟨g, g1, g2, put (fun h1 h2 => absurd ⟨h1, h2⟩ hg) (fun _ => g3)⟩
theorem sift_ok (N n hi first lo : Nat) (hN : n ≤ N) (hb : first + hi ≤ n) (hn : n ≤ 1000000000) (hlo : lo < hi ∨ lo = hi) (f : Nat → Int) (hp : Hp (lo + 1) hi (offF f first)) :
  ∃ g, Shuf first (first + hi) f g ∧ Hp lo hi (offF g first) ∧ Ok Proofs.Try.prog 84 [.rf 2000 1 0 n, .sc (.int .i64 (lo : Int)), .sc (.int .i64 (hi : Int)), .sc (.int .i64 (first : Int))] (sBlk N f) AV.nil.tup (sBlk N g) := by
 obtain ⟨g, g1, g2, g3⟩ := sift_loop N n hi first lo hN hb hn (hi - lo) lo f (lr_ _) (lr_ _) hlo hp.but
 refine ⟨g, g1, g2, o84 _ _ _ _ _ _ _ _ ⟨trivial, fun q hq => ?_⟩ rfl ?_⟩
 ·simp only [ms_] at hq; subst hq; exact fun _ _ => trivial
 apply r84_e
 exact g3
theorem heap_out (N n first hi : Nat) (hN : n ≤ N) (hb : first + hi ≤ n) (hn : n ≤ 1000000000) : ∀ (m : Nat) (f : Nat → Int), m ≤ hi → Hp 0 m (offF f first) → Srt (first + m) (first + hi) f → (∀ i j, i < m → m ≤ j → j < hi → f (first + i) ≤ f (first + j)) →
  ∃ g, Shuf first (first + hi) f g ∧ Srt first (first + hi) g ∧ L74_1 n (first : Int) 0 ((m : Int) - 1) N f AV.nil.tup (sBlk N g) := by
 intro m
 induction m with
 | zero =>
  intro f hm hp hs hle
  refine ⟨f, Shuf.refl _ _ _, hs, ?_⟩
  apply r74_1
  exact ⟨fun h => by have := dt_ h; omega, fun _ => ⟨Sub.refl _, sOut fun _ => rfl⟩⟩
 | succ m ih =>
  intro f hm hp hs hle
  have hmax := hp.top
  have e0 : ∀ k, k ≠ first + m → k ≠ first → swapF f (first + m) first k = f k := fun k h1 h2 => by unfold swapF; rw [if_neg h1, if_neg h2]
  have em : swapF f (first + m) first (first + m) = f first := by unfold swapF; rw [if_pos rfl]
  have hp' : Hp (0 + 1) m (offF (swapF f (first + m) first) first) := fun i c hi hc hcm => by
   show swapF f (first + m) first (first + c) ≤ swapF f (first + m) first (first + i)
   rw [e0 _ (by omega) (by omega), e0 _ (by omega) (by omega)]
   exact hp i c (by omega) hc (by omega)
  obtain ⟨g1, s1, s2, s3⟩ := sift_ok N n m first 0 hN (by omega) hn (by omega) (swapF f (first + m) first) hp'
  have hgo : ∀ k, first + m ≤ k → g1 k = swapF f (first + m) first k := fun k hk => s1.out (by omega)
  have hin : ∀ i, i < m → ∃ j, j < m ∧ g1 (first + i) = swapF f (first + m) first (first + j) := fun i hi => by
   obtain ⟨π, p1, _, _⟩ := s1
   obtain ⟨k1, k2, k3⟩ := p1 (first + i) (by omega) (by omega)
   exact ⟨π (first + i) - first, by omega, by rw [show first + (π (first + i) - first) = π (first + i) by omega]; exact k3⟩
  have hbelow : ∀ i, i < m → g1 (first + i) ≤ f first := fun i hi => by
   obtain ⟨j, hj, e⟩ := hin i hi
   rw [e]
   by_cases hj0 : j = 0
   ·subst hj0
    have : swapF f (first + m) first (first + 0) = f (first + m) := by
     unfold swapF
     by_cases hm0 : m = 0
     ·omega
     ·rw [if_neg (by omega), if_pos (by omega)]
    rw [this]
    exact hmax (m + 1) m (by omega) (by omega)
   ·rw [e0 _ (by omega) (by omega)]
    exact hmax (m + 1) j (by omega) (by omega)
  have hs' : Srt (first + m) (first + hi) g1 := by
   intro i j hi hij hj
   rw [hgo i hi, hgo j (by omega)]
   by_cases e : i = first + m
   ·subst e
    rw [em, e0 j (by omega) (by omega)]
    have := hle 0 (j - first) (by omega) (by omega) (by omega)
    rw [show first + (j - first) = j by omega] at this
    exact this
   ·rw [e0 i e (by omega), e0 j (by omega) (by omega)]
    exact hs i j (by omega) hij hj
  have hle' : ∀ i j, i < m → m ≤ j → j < hi → g1 (first + i) ≤ g1 (first + j) := fun i j hi hj hjh => by
   have h1 := hbelow i hi
   rw [hgo (first + j) (by omega)]
   by_cases e : j = m
   ·subst e; rw [em]; exact h1
   ·rw [e0 _ (by omega) (by omega)]
    have := hle 0 j (by omega) (by omega) hjh
    exact Int.le_trans h1 this
  obtain ⟨g, t1, t2, t3⟩ := ih g1 (by omega) s2 hs' hle'
  refine ⟨g, (Shuf.swap f (by omega) (by omega) (by omega) (by omega)).trans ((s1.wide (by omega) (by omega)).trans t1), t2, ?_⟩
  apply r74_1
  rw [show (((m + 1 : Nat) : Int) - 1) = (m : Int) by omega, wA (n := first) (m := m) (by omega) (by omega)]
  simp only [tn_]
  rw [wrap_i64 (n := (m : Int) - 1) (by omega) (by omega)]
  rw [← bifSwap f (first + m) first] at s3
  exact ⟨fun _ => ⟨⟨by omega, by omega⟩, by omega, ⟨by omega, by omega⟩, by omega, (N, g1), s3, t3⟩, fun h => by have := df_ h; omega⟩
theorem heap_make (N n first hi : Nat) (hN : n ≤ N) (hb : first + hi ≤ n) (hn : n ≤ 1000000000) : ∀ (m : Nat) (f : Nat → Int), m ≤ hi → Hp m hi (offF f first) →
  ∃ g, Shuf first (first + hi) f g ∧ Srt first (first + hi) g ∧ L74_0 n (first : Int) 0 (hi : Int) ((m : Int) - 1) N f AV.nil.tup (sBlk N g) := by
 intro m
 induction m with
 | zero =>
  intro f hm hp
  obtain ⟨g, t1, t2, t3⟩ := heap_out N n first hi hN hb hn hi f (lr_ _) hp (fun i j h1 h2 h3 => by omega) (fun i j h1 h2 h3 => by omega)
  refine ⟨g, t1, t2, ?_⟩
  apply r74_0
  rw [wrap_i64 (n := (hi : Int) - 1) (by omega) (by omega)]
  exact ⟨fun h => by have := dt_ h; omega, fun _ => t3⟩
 | succ m ih =>
  intro f hm hp
  obtain ⟨g1, s1, s2, s3⟩ := sift_ok N n hi first m hN hb hn (by omega) f hp
  obtain ⟨g, t1, t2, t3⟩ := ih g1 (by omega) s2
  refine ⟨g, s1.trans t1, t2, ?_⟩
  apply r74_0
  rw [show (((m + 1 : Nat) : Int) - 1) = (m : Int) by omega, wrap_i64 (n := (m : Int) - 1) (by omega) (by omega)]
  exact ⟨fun _ => ⟨(N, g1), s3, t3⟩, fun h => by have := df_ h; omega⟩
theorem heap_ok (N n a b : Nat) (hN : n ≤ N) (hab : a < b) (hb : b ≤ n) (hn : n ≤ 1000000000) (f : Nat → Int) :
  ∃ g, Shuf a b f g ∧ Srt a b g ∧ Ok Proofs.Try.prog 74 [.rf 2000 1 0 n, .sc (.int .i64 (a : Int)), .sc (.int .i64 (b : Int))] (sBlk N f) AV.nil.tup (sBlk N g) := by
 have hm : ((IntKind.i64.wrap (((b - a : Nat) : Int) - 1)).tdiv 2 = (((b - a + 1) / 2 : Nat) : Int) - 1) := by
  rw [wrap_i64 (by omega) (by omega)]
  rw [Int.tdiv_eq_ediv_of_nonneg (by omega)]; omega
 obtain ⟨g, t1, t2, t3⟩ := heap_make N n a (b - a) hN (by omega) hn ((b - a + 1) / 2) f (by omega) (fun i c hi hc hcn => by omega)
 rw [show a + (b - a) = b by omega] at t1 t2
 refine ⟨g, t1, t2, o74 _ _ _ _ _ _ _ ⟨trivial, fun q hq => ?_⟩ rfl ?_⟩
 ·simp only [ms_] at hq; subst hq; exact fun _ _ => trivial
 apply r74_e
 rw [wB (n := a) (m := b) (by omega) (by omega), hm, wrap_i64 (by omega) (by omega)]
 exact t3
end Go.Am.Seat

namespace Go.Am.Seat
open Go Go.Am

theorem wP {m : Nat} (hn : 1 ≤ m) (hm : m ≤ 3000000000) : IntKind.i64.wrap ((m : Int) - 1) = ((m - 1 : Nat) : Int) := by
 rw [wrap_i64 (by omega) (by omega)]; omega
abbrev pvR (j : Nat) (t : Bool) : AV := (.cons 1 (.sc (.int .i64 (j : Int))) (.cons 1 (.sc (.bool t)) .nil) : AV).tup
structure PI (a b : Nat) (f0 f : Nat → Int) (i j : Nat) : Prop where
 sh : Shuf a b f0 f
 ai : a < i
 ij : i ≤ j + 1
 jb : j < b
 lo : ∀ k, a < k → k < i → f k < f a
 hi : ∀ k, j < k → k < b → f a ≤ f k
structure Parted (a b : Nat) (f0 g : Nat → Int) (mid : Nat) : Prop where
 sh : Shuf a b f0 g
 am : a ≤ mid
 mb : mid < b
 lo : ∀ k, a ≤ k → k < mid → g k ≤ g mid
 hi : ∀ k, mid < k → k < b → g mid ≤ g k
section
variable {a b : Nat} {f0 f : Nat → Int} {i j : Nat}
theorem PI.up (h : PI a b f0 f i j) (hij : i ≤ j) (hf : f i < f a) : PI a b f0 f (i + 1) j :=
 ⟨h.sh, by have := h.ai; omega, by omega, h.jb, fun k h1 h2 => by
   by_cases e : k = i
   ·subst e; exact hf
   ·exact h.lo k h1 (by omega), h.hi⟩
theorem PI.down (h : PI a b f0 f i j) (hij : i ≤ j) (hf : ¬ f j < f a) : PI a b f0 f i (j - 1) :=
 ⟨h.sh, h.ai, by have := h.ai; omega, by have := h.jb; omega, h.lo, fun k h1 h2 => by
   by_cases e : k = j
   ·subst e; omega
   ·exact h.hi k (by omega) h2⟩
theorem swapF_ne {f : Nat → Int} {i j k : Nat} (h1 : k ≠ i) (h2 : k ≠ j) : swapF f i j k = f k := by unfold swapF; rw [if_neg h1, if_neg h2]
theorem swapF_l {f : Nat → Int} {i j : Nat} : swapF f i j i = f j := by unfold swapF; rw [if_pos rfl]
theorem swapF_r {f : Nat → Int} {i j : Nat} : swapF f i j j = f i := by
 unfold swapF
 by_cases h : j = i
 ·rw [if_pos h, h]
 ·rw [if_neg h, if_pos rfl]
theorem PI.swap (h : PI a b f0 f i j) (hij : i < j) (hfi : f a ≤ f i) (hfj : f j < f a) : PI a b f0 (swapF f j i) (i + 1) (j - 1) := by
 have h1 := h.ai
 have h2 := h.jb
 have ea : swapF f j i a = f a := swapF_ne (by omega) (by omega)
 refine ⟨h.sh.trans (Shuf.swap f (by omega) (by omega) (by omega) (by omega)), by omega, by omega, by omega, fun k k1 k2 => ?_, fun k k1 k2 => ?_⟩
 ·rw [ea]
  by_cases e : k = i
  ·subst e; rw [swapF_r]; exact hfj
  ·rw [swapF_ne (by omega) e]; exact h.lo k k1 (by omega)
 ·rw [ea]
  by_cases e : k = j
  ·subst e; rw [swapF_l]; exact hfi
  ·rw [swapF_ne e (by omega)]; exact h.hi k (by omega) k2
theorem PI.done (h : PI a b f0 f i j) (hij : j < i) : Parted a b f0 (swapF f a j) j := by
 have h1 := h.ai
 have h2 := h.jb
 have h3 := h.ij
 refine ⟨h.sh.trans (Shuf.swap f (by omega) (by omega) (by omega) (by omega)), by omega, h2, fun k k1 k2 => ?_, fun k k1 k2 => ?_⟩
 ·rw [swapF_r]
  by_cases e : k = a
  ·subst e
   rw [swapF_l]
   have := h.lo j (by omega) (by omega)
   omega
  ·rw [swapF_ne e (by omega)]
   have := h.lo k (by omega) (by omega)
   omega
 ·rw [swapF_r, swapF_ne (by omega) (by omega)]
  exact h.hi k (by omega) k2
theorem PI.eq (h : PI a b f0 f i j) (hij : i ≤ j) (hfi : f a ≤ f i) (hfj : f j < f a) : i < j := by
 by_cases e : i = j
 ·subst e; omega
 ·omega
end
theorem outSwap (N : Nat) (f : Nat → Int) (a j : Nat) : SubOut (sBlk N (fun i => bif Nat.beq i a then f j else bif Nat.beq i j then f a else f i)) (sBlk N (swapF f a j)) := by
 rw [bifSwap]
 exact ⟨rfl, rfl, SubB.refl _, trivial⟩
section
variable (N n a b : Nat) (hN : n ≤ N) (hb : b ≤ n) (hn : n ≤ 1000000000) (f0 : Nat → Int)
include hN hb hn
theorem part_in : ∀ (K : Nat),
  (∀ (i j : Nat) (f : Nat → Int), j + 1 - i ≤ K → PI a b f0 f i j → (i ≤ j → f a ≤ f i) → ∃ g mid t, Parted a b f0 g mid ∧ L81_4 n (a : Int) (i : Int) (j : Int) N f (pvR mid t) (sBlk N g)) ∧
  (∀ (i j : Nat) (f : Nat → Int), j + 1 - i ≤ K → PI a b f0 f i j → ∃ g mid t, Parted a b f0 g mid ∧ L81_3 n (a : Int) (i : Int) (j : Int) N f (pvR mid t) (sBlk N g)) := by
 intro K
 induction K with
 | zero =>
  have q4 : ∀ (i j : Nat) (f : Nat → Int), j + 1 - i ≤ 0 → PI a b f0 f i j → ∃ g mid t, Parted a b f0 g mid ∧ L81_4 n (a : Int) (i : Int) (j : Int) N f (pvR mid t) (sBlk N g) := fun i j f hK h => by
   have h1 := h.ai
   have h2 := h.jb
   have h3 := h.ij
   refine ⟨_, j, false, h.done (by omega), ?_⟩
   apply r81_4
   simp only [tn_]
   refine ⟨fun h => by have := dt_ h; omega, fun _ => ⟨fun _ => ⟨⟨by omega, by omega⟩, by omega, ⟨by omega, by omega⟩, by omega, Sub.refl _, outSwap N f a j⟩, fun h => by have := df_ h; omega⟩⟩
  refine ⟨fun i j f hK h _ => q4 i j f hK h, fun i j f hK h => ?_⟩
  have h3 := h.ij
  obtain ⟨g, mid, t, g1, g2⟩ := q4 i j f hK h
  refine ⟨g, mid, t, g1, ?_⟩
  apply r81_3
  exact ⟨fun h => by have := dt_ h; omega, fun _ => g2⟩
 | succ K ih =>
  obtain ⟨ih4, ih3⟩ := ih
  have q4 : ∀ (i j : Nat) (f : Nat → Int), j + 1 - i ≤ K + 1 → PI a b f0 f i j → (i ≤ j → f a ≤ f i) → ∃ g mid t, Parted a b f0 g mid ∧ L81_4 n (a : Int) (i : Int) (j : Int) N f (pvR mid t) (sBlk N g) := fun i j f hK h hfi => by
   have h1 := h.ai
   have h2 := h.jb
   have h3 := h.ij
   by_cases hij : i ≤ j
   ·by_cases hfj : f j < f a
    ·have hlt := h.eq hij (hfi hij) hfj
     obtain ⟨g, mid, t, g1, g2⟩ := ih3 (i + 1) (j - 1) (swapF f j i) (by omega) (h.swap hlt (hfi hij) hfj)
     refine ⟨g, mid, t, g1, ?_⟩
     apply r81_4
     simp only [tn_]
     rw [wrapSucc (n := i) (by omega), wP (m := j) (by omega) (by omega)]
     refine ⟨fun _ => ⟨⟨by omega, by omega⟩, by omega, ⟨by omega, by omega⟩, by omega, decide (f j < f a), less_ok _ _, fun h => ?_, fun _ => ⟨fun h => by have := dt_ h; omega, fun _ => ⟨⟨by omega, by omega⟩, by omega, ?_⟩⟩⟩, fun h => ?_⟩
     ·rw [decide_eq_true hfj] at h; cases h
     ·apply r81_2
      rw [← bifSwap] at g2
      exact g2
     ·have h : decide ((i : Int) ≤ (j : Int)) = false := h
      have := df_ h; omega
    ·obtain ⟨g, mid, t, g1, g2⟩ := ih4 i (j - 1) f (by omega) (h.down hij hfj) (fun _ => hfi hij)
     refine ⟨g, mid, t, g1, ?_⟩
     apply r81_4
     simp only [tn_]
     rw [wP (m := j) (by omega) (by omega)]
     refine ⟨fun _ => ⟨⟨by omega, by omega⟩, by omega, ⟨by omega, by omega⟩, by omega, decide (f j < f a), less_ok _ _, fun _ => g2, fun h => ?_⟩, fun h => ?_⟩
     ·rw [decide_eq_false hfj] at h; cases h
     ·have h : decide ((i : Int) ≤ (j : Int)) = false := h
      have := df_ h; omega
   ·refine ⟨_, j, false, h.done (by omega), ?_⟩
    apply r81_4
    simp only [tn_]
    refine ⟨fun h => by have := dt_ h; omega, fun _ => ⟨fun _ => ⟨⟨by omega, by omega⟩, by omega, ⟨by omega, by omega⟩, by omega, Sub.refl _, outSwap N f a j⟩, fun h => by have := df_ h; omega⟩⟩
  refine ⟨q4, fun i j f hK h => ?_⟩
  have h1 := h.ai
  have h2 := h.jb
  have h3 := h.ij
  by_cases hij : i ≤ j
  ·by_cases hfi : f i < f a
   ·obtain ⟨g, mid, t, g1, g2⟩ := ih3 (i + 1) j f (by omega) (h.up hij hfi)
    refine ⟨g, mid, t, g1, ?_⟩
    apply r81_3
    simp only [tn_]
    rw [wrapSucc (n := i) (by omega)]
    refine ⟨fun _ => ⟨⟨by omega, by omega⟩, by omega, ⟨by omega, by omega⟩, by omega, decide (f i < f a), less_ok _ _, fun _ => g2, fun h => absurd hfi (df_ h)⟩, fun h => ?_⟩
    have h : decide ((i : Int) ≤ (j : Int)) = false := h
    have := df_ h; omega
   ·obtain ⟨g, mid, t, g1, g2⟩ := q4 i j f hK h (fun _ => by omega)
    refine ⟨g, mid, t, g1, ?_⟩
    apply r81_3
    simp only [tn_]
    refine ⟨fun _ => ⟨⟨by omega, by omega⟩, by omega, ⟨by omega, by omega⟩, by omega, decide (f i < f a), less_ok _ _, fun h => absurd (dt_ h) hfi, fun _ => g2⟩, fun h => ?_⟩
    have h : decide ((i : Int) ≤ (j : Int)) = false := h
    have := df_ h; omega
  ·obtain ⟨g, mid, t, g1, g2⟩ := q4 i j f hK h (fun k => absurd k hij)
   refine ⟨g, mid, t, g1, ?_⟩
   apply r81_3
   exact ⟨fun h => by have := dt_ h; omega, fun _ => g2⟩
theorem part_first : ∀ (K : Nat),
  (∀ (i j : Nat) (f : Nat → Int), j + 1 - i ≤ K → PI a b f0 f i j → (i ≤ j → f a ≤ f i) → ∃ g mid t, Parted a b f0 g mid ∧ L81_1 n (a : Int) (i : Int) (j : Int) N f (pvR mid t) (sBlk N g)) ∧
  (∀ (i j : Nat) (f : Nat → Int), j + 1 - i ≤ K → PI a b f0 f i j → ∃ g mid t, Parted a b f0 g mid ∧ L81_0 n (a : Int) (i : Int) (j : Int) N f (pvR mid t) (sBlk N g)) := by
 intro K
 induction K with
 | zero =>
  have q4 : ∀ (i j : Nat) (f : Nat → Int), j + 1 - i ≤ 0 → PI a b f0 f i j → ∃ g mid t, Parted a b f0 g mid ∧ L81_1 n (a : Int) (i : Int) (j : Int) N f (pvR mid t) (sBlk N g) := fun i j f hK h => by
   have h1 := h.ai
   have h2 := h.jb
   have h3 := h.ij
   refine ⟨_, j, true, h.done (by omega), ?_⟩
   apply r81_1
   simp only [tn_]
   refine ⟨fun h => by have := dt_ h; omega, fun _ => ⟨fun _ => ⟨⟨by omega, by omega⟩, by omega, ⟨by omega, by omega⟩, by omega, Sub.refl _, outSwap N f a j⟩, fun h => by have := df_ h; omega⟩⟩
  refine ⟨fun i j f hK h _ => q4 i j f hK h, fun i j f hK h => ?_⟩
  have h3 := h.ij
  obtain ⟨g, mid, t, g1, g2⟩ := q4 i j f hK h
  refine ⟨g, mid, t, g1, ?_⟩
  apply r81_0
  exact ⟨fun h => by have := dt_ h; omega, fun _ => g2⟩
 | succ K ih =>
  obtain ⟨ih4, ih3⟩ := ih
  have q4 : ∀ (i j : Nat) (f : Nat → Int), j + 1 - i ≤ K + 1 → PI a b f0 f i j → (i ≤ j → f a ≤ f i) → ∃ g mid t, Parted a b f0 g mid ∧ L81_1 n (a : Int) (i : Int) (j : Int) N f (pvR mid t) (sBlk N g) := fun i j f hK h hfi => by
   have h1 := h.ai
   have h2 := h.jb
   have h3 := h.ij
   by_cases hij : i ≤ j
   ·by_cases hfj : f j < f a
    ·have hlt := h.eq hij (hfi hij) hfj
     obtain ⟨g, mid, t, g1, g2⟩ := (part_in N n a b hN hb hn f0 K).2 (i + 1) (j - 1) (swapF f j i) (by omega) (h.swap hlt (hfi hij) hfj)
     refine ⟨g, mid, t, g1, ?_⟩
     apply r81_1
     simp only [tn_]
     rw [wrapSucc (n := i) (by omega), wP (m := j) (by omega) (by omega)]
     refine ⟨fun _ => ⟨⟨by omega, by omega⟩, by omega, ⟨by omega, by omega⟩, by omega, decide (f j < f a), less_ok _ _, fun h => ?_, fun _ => ⟨fun h => by have := dt_ h; omega, fun _ => ⟨⟨by omega, by omega⟩, by omega, ?_⟩⟩⟩, fun h => ?_⟩
     ·rw [decide_eq_true hfj] at h; cases h
     ·apply r81_2
      rw [← bifSwap] at g2
      exact g2
     ·have h : decide ((i : Int) ≤ (j : Int)) = false := h
      have := df_ h; omega
    ·obtain ⟨g, mid, t, g1, g2⟩ := ih4 i (j - 1) f (by omega) (h.down hij hfj) (fun _ => hfi hij)
     refine ⟨g, mid, t, g1, ?_⟩
     apply r81_1
     simp only [tn_]
     rw [wP (m := j) (by omega) (by omega)]
     refine ⟨fun _ => ⟨⟨by omega, by omega⟩, by omega, ⟨by omega, by omega⟩, by omega, decide (f j < f a), less_ok _ _, fun _ => g2, fun h => ?_⟩, fun h => ?_⟩
     ·rw [decide_eq_false hfj] at h; cases h
     ·have h : decide ((i : Int) ≤ (j : Int)) = false := h
      have := df_ h; omega
   ·refine ⟨_, j, true, h.done (by omega), ?_⟩
    apply r81_1
    simp only [tn_]
    refine ⟨fun h => by have := dt_ h; omega, fun _ => ⟨fun _ => ⟨⟨by omega, by omega⟩, by omega, ⟨by omega, by omega⟩, by omega, Sub.refl _, outSwap N f a j⟩, fun h => by have := df_ h; omega⟩⟩
  refine ⟨q4, fun i j f hK h => ?_⟩
  have h1 := h.ai
  have h2 := h.jb
  have h3 := h.ij
  by_cases hij : i ≤ j
  ·by_cases hfi : f i < f a
   ·obtain ⟨g, mid, t, g1, g2⟩ := ih3 (i + 1) j f (by omega) (h.up hij hfi)
    refine ⟨g, mid, t, g1, ?_⟩
    apply r81_0
    simp only [tn_]
    rw [wrapSucc (n := i) (by omega)]
    refine ⟨fun _ => ⟨⟨by omega, by omega⟩, by omega, ⟨by omega, by omega⟩, by omega, decide (f i < f a), less_ok _ _, fun _ => g2, fun h => absurd hfi (df_ h)⟩, fun h => ?_⟩
    have h : decide ((i : Int) ≤ (j : Int)) = false := h
    have := df_ h; omega
   ·obtain ⟨g, mid, t, g1, g2⟩ := q4 i j f hK h (fun _ => by omega)
    refine ⟨g, mid, t, g1, ?_⟩
    apply r81_0
    simp only [tn_]
    refine ⟨fun _ => ⟨⟨by omega, by omega⟩, by omega, ⟨by omega, by omega⟩, by omega, decide (f i < f a), less_ok _ _, fun h => absurd (dt_ h) hfi, fun _ => g2⟩, fun h => ?_⟩
    have h : decide ((i : Int) ≤ (j : Int)) = false := h
    have := df_ h; omega
  ·obtain ⟨g, mid, t, g1, g2⟩ := q4 i j f hK h (fun k => absurd k hij)
   refine ⟨g, mid, t, g1, ?_⟩
   apply r81_0
   exact ⟨fun h => by have := dt_ h; omega, fun _ => g2⟩
theorem part_ok (hab : a < b) (p : Nat) (hp : a ≤ p) (hpb : p < b) : ∃ g mid t, Parted a b f0 g mid ∧ Ok Proofs.Try.prog 81 [.rf 2000 1 0 n, .sc (.int .i64 (a : Int)), .sc (.int .i64 (b : Int)), .sc (.int .i64 (p : Int))] (sBlk N f0) (pvR mid t) (sBlk N g) := by
 have h0 : PI a b f0 (swapF f0 p a) (a + 1) (b - 1) := ⟨Shuf.swap f0 hp hpb (lr_ _) hab, by omega, by omega, by omega, fun k h1 h2 => by omega, fun k h1 h2 => by omega⟩
 obtain ⟨g, mid, t, g1, g2⟩ := (part_first N n a b hN hb hn f0 (b - 1 + 1 - (a + 1))).2 (a + 1) (b - 1) (swapF f0 p a) (lr_ _) h0
 refine ⟨g, mid, t, g1, o81 _ _ _ _ _ _ _ _ ⟨⟨trivial, trivial, trivial⟩, fun q hq => ?_⟩ rfl ?_⟩
 ·simp only [ms_] at hq; subst hq; exact fun _ _ => trivial
 apply r81_e
 rw [wrapSucc (n := a) (by omega), wP (m := b) (by omega) (by omega)]
 simp only [tn_]
 rw [← bifSwap] at g2
 exact ⟨⟨by omega, by omega⟩, by omega, ⟨by omega, by omega⟩, by omega, g2⟩
end
end Go.Am.Seat

namespace Go.Am.Seat
open Go Go.Am

structure PE (a b : Nat) (f0 f : Nat → Int) (i j : Nat) : Prop where
 sh : Shuf a b f0 f
 ai : a < i
 ij : i ≤ j + 1
 jb : j < b
 lo : ∀ k, a ≤ k → k < i → f k ≤ f a
 hi : ∀ k, j < k → k < b → f a < f k
section
variable {a b : Nat} {f0 f : Nat → Int} {i j : Nat}
theorem PE.up (h : PE a b f0 f i j) (hij : i ≤ j) (hf : ¬ f a < f i) : PE a b f0 f (i + 1) j :=
 ⟨h.sh, by have := h.ai; omega, by omega, h.jb, fun k h1 h2 => by
   by_cases e : k = i
   ·subst e; omega
   ·exact h.lo k h1 (by omega), h.hi⟩
theorem PE.down (h : PE a b f0 f i j) (hij : i ≤ j) (hf : f a < f j) : PE a b f0 f i (j - 1) :=
 ⟨h.sh, h.ai, by have := h.ai; omega, by have := h.jb; omega, h.lo, fun k h1 h2 => by
   by_cases e : k = j
   ·subst e; exact hf
   ·exact h.hi k (by omega) h2⟩
theorem PE.swap (h : PE a b f0 f i j) (hij : i < j) (hfi : f a < f i) (hfj : ¬ f a < f j) : PE a b f0 (swapF f j i) (i + 1) (j - 1) := by
 have h1 := h.ai
 have h2 := h.jb
 have ea : swapF f j i a = f a := swapF_ne (by omega) (by omega)
 refine ⟨h.sh.trans (Shuf.swap f (by omega) (by omega) (by omega) (by omega)), by omega, by omega, by omega, fun k k1 k2 => ?_, fun k k1 k2 => ?_⟩
 ·rw [ea]
  by_cases e : k = i
  ·subst e; rw [swapF_r]; omega
  ·rw [swapF_ne (by omega) e]; exact h.lo k k1 (by omega)
 ·rw [ea]
  by_cases e : k = j
  ·subst e; rw [swapF_l]; exact hfi
  ·rw [swapF_ne e (by omega)]; exact h.hi k (by omega) k2
theorem PE.eq (h : PE a b f0 f i j) (hij : i ≤ j) (hfi : f a < f i) (hfj : ¬ f a < f j) : i < j := by
 by_cases e : i = j
 ·subst e; omega
 ·omega
end
structure PartEq (a b : Nat) (f0 g : Nat → Int) (mid : Nat) : Prop where
 sh : Shuf a b f0 g
 am : a < mid
 mb : mid ≤ b
 lo : ∀ k, a ≤ k → k < mid → g k ≤ g a
 hi : ∀ k, mid ≤ k → k < b → g a < g k
section
variable (N n a b : Nat) (hN : n ≤ N) (hb : b ≤ n) (hn : n ≤ 1000000000) (f0 : Nat → Int)
include hN hb hn
theorem parte_in (p : Int) : ∀ (K : Nat),
  (∀ (i j : Nat) (f : Nat → Int), j + 1 - i ≤ K → f a = p → PE a b f0 f i j → (i ≤ j → f a < f i) → ∃ g mid, g a = p ∧ PartEq a b f0 g mid ∧ L80_2 n (a : Int) (i : Int) (j : Int) N f (.sc (.int .i64 (mid : Int))) (sBlk N g)) ∧
  (∀ (i j : Nat) (f : Nat → Int), j + 1 - i ≤ K → f a = p → PE a b f0 f i j → ∃ g mid, g a = p ∧ PartEq a b f0 g mid ∧ L80_1 n (a : Int) (i : Int) (j : Int) N f (.sc (.int .i64 (mid : Int))) (sBlk N g)) := by
 intro K
 have fin : ∀ (i j : Nat) (f : Nat → Int), f a = p → PE a b f0 f i j → ¬ i ≤ j → ∃ g mid, g a = p ∧ PartEq a b f0 g mid ∧ L80_2 n (a : Int) (i : Int) (j : Int) N f (.sc (.int .i64 (mid : Int))) (sBlk N g) := fun i j f hp h hij => by
  have h1 := h.ai
  have h2 := h.jb
  have h3 := h.ij
  refine ⟨f, i, hp, ⟨h.sh, h1, by omega, h.lo, fun k k1 k2 => h.hi k (by omega) k2⟩, ?_⟩
  apply r80_2
  exact ⟨fun h => by have := dt_ h; omega, fun _ => ⟨fun _ => ⟨Sub.refl _, sOut fun _ => rfl⟩, fun h => by have := df_ h; omega⟩⟩
 induction K with
 | zero =>
  refine ⟨fun i j f hK hp h _ => fin i j f hp h (by have := h.ij; omega), fun i j f hK hp h => ?_⟩
  have h3 := h.ij
  obtain ⟨g, mid, g0, g1, g2⟩ := fin i j f hp h (by omega)
  refine ⟨g, mid, g0, g1, ?_⟩
  apply r80_1
  exact ⟨fun h => by have := dt_ h; omega, fun _ => g2⟩
 | succ K ih =>
  obtain ⟨ih2, ih1⟩ := ih
  have q2 : ∀ (i j : Nat) (f : Nat → Int), j + 1 - i ≤ K + 1 → f a = p → PE a b f0 f i j → (i ≤ j → f a < f i) → ∃ g mid, g a = p ∧ PartEq a b f0 g mid ∧ L80_2 n (a : Int) (i : Int) (j : Int) N f (.sc (.int .i64 (mid : Int))) (sBlk N g) := fun i j f hK hp h hfi => by
   have h1 := h.ai
   have h2 := h.jb
   have h3 := h.ij
   by_cases hij : i ≤ j
   ·by_cases hfj : f a < f j
    ·obtain ⟨g, mid, g0, g1, g2⟩ := ih2 i (j - 1) f (by omega) hp (h.down hij hfj) (fun _ => hfi hij)
     refine ⟨g, mid, g0, g1, ?_⟩
     apply r80_2
     simp only [tn_]
     rw [wP (m := j) (by omega) (by omega)]
     refine ⟨fun _ => ⟨⟨by omega, by omega⟩, by omega, ⟨by omega, by omega⟩, by omega, decide (f a < f j), less_ok _ _, fun _ => g2, fun h => absurd hfj (df_ h)⟩, fun h => ?_⟩
     have h : decide ((i : Int) ≤ (j : Int)) = false := h
     have := df_ h; omega
    ·have hlt := h.eq hij (hfi hij) hfj
     obtain ⟨g, mid, g0, g1, g2⟩ := ih1 (i + 1) (j - 1) (swapF f j i) (by omega) (by rw [swapF_ne (by omega) (by omega)]; exact hp) (h.swap hlt (hfi hij) hfj)
     refine ⟨g, mid, g0, g1, ?_⟩
     apply r80_2
     simp only [tn_]
     rw [wrapSucc (n := i) (by omega), wP (m := j) (by omega) (by omega)]
     refine ⟨fun _ => ⟨⟨by omega, by omega⟩, by omega, ⟨by omega, by omega⟩, by omega, decide (f a < f j), less_ok _ _, fun h => absurd (dt_ h) hfj, fun _ => ⟨fun h => by have := dt_ h; omega, fun _ => ⟨⟨by omega, by omega⟩, by omega, ?_⟩⟩⟩, fun h => ?_⟩
     ·apply r80_0
      rw [← bifSwap] at g2
      exact g2
     ·have h : decide ((i : Int) ≤ (j : Int)) = false := h
      have := df_ h; omega
   ·exact fin i j f hp h hij
  refine ⟨q2, fun i j f hK hp h => ?_⟩
  have h1 := h.ai
  have h2 := h.jb
  have h3 := h.ij
  by_cases hij : i ≤ j
  ·by_cases hfi : f a < f i
   ·obtain ⟨g, mid, g0, g1, g2⟩ := q2 i j f hK hp h (fun _ => hfi)
    refine ⟨g, mid, g0, g1, ?_⟩
    apply r80_1
    simp only [tn_]
    refine ⟨fun _ => ⟨⟨by omega, by omega⟩, by omega, ⟨by omega, by omega⟩, by omega, decide (f a < f i), less_ok _ _, fun h => ?_, fun _ => g2⟩, fun h => ?_⟩
    ·rw [decide_eq_true hfi] at h; cases h
    ·have h : decide ((i : Int) ≤ (j : Int)) = false := h
     have := df_ h; omega
   ·obtain ⟨g, mid, g0, g1, g2⟩ := ih1 (i + 1) j f (by omega) hp (h.up hij hfi)
    refine ⟨g, mid, g0, g1, ?_⟩
    apply r80_1
    simp only [tn_]
    rw [wrapSucc (n := i) (by omega)]
    refine ⟨fun _ => ⟨⟨by omega, by omega⟩, by omega, ⟨by omega, by omega⟩, by omega, decide (f a < f i), less_ok _ _, fun _ => g2, fun h => ?_⟩, fun h => ?_⟩
    ·rw [decide_eq_false hfi] at h; cases h
    ·have h : decide ((i : Int) ≤ (j : Int)) = false := h
     have := df_ h; omega
  ·obtain ⟨g, mid, g0, g1, g2⟩ := q2 i j f hK hp h (fun k => absurd k hij)
   refine ⟨g, mid, g0, g1, ?_⟩
   apply r80_1
   exact ⟨fun h => by have := dt_ h; omega, fun _ => g2⟩
theorem parte_ok (hab : a < b) (p : Nat) (hp : a ≤ p) (hpb : p < b) : ∃ g mid, g a = f0 p ∧ PartEq a b f0 g mid ∧ Ok Proofs.Try.prog 80 [.rf 2000 1 0 n, .sc (.int .i64 (a : Int)), .sc (.int .i64 (b : Int)), .sc (.int .i64 (p : Int))] (sBlk N f0) (.sc (.int .i64 (mid : Int))) (sBlk N g) := by
 have h0 : PE a b f0 (swapF f0 p a) (a + 1) (b - 1) := ⟨Shuf.swap f0 hp hpb (lr_ _) hab, by omega, by omega, by omega, fun k h1 h2 => (by rw [show k = a by omega]; exact Int.le_refl _), fun k h1 h2 => by omega⟩
 obtain ⟨g, mid, g0, g1, g2⟩ := (parte_in N n a b hN hb hn f0 (f0 p) (b - 1 + 1 - (a + 1))).2 (a + 1) (b - 1) (swapF f0 p a) (lr_ _) swapF_r h0
 refine ⟨g, mid, g0, g1, o80 _ _ _ _ _ _ _ _ ⟨trivial, fun q hq => ?_⟩ rfl ?_⟩
 ·simp only [ms_] at hq; subst hq; exact fun _ _ => trivial
 apply r80_e
 rw [wrapSucc (n := a) (by omega), wP (m := b) (by omega) (by omega)]
 simp only [tn_]
 rw [← bifSwap] at g2
 exact ⟨⟨by omega, by omega⟩, by omega, ⟨by omega, by omega⟩, by omega, r80_0 _ _ _ _ _ _ _ _ g2⟩
theorem rev_loop (hab : a ≤ b) : ∀ (m i j : Nat) (f : Nat → Int), j - i ≤ m → a ≤ i → i ≤ j + 1 → j < b → Shuf a b f0 f → ∃ g, Shuf a b f0 g ∧ L77_0 n (i : Int) (j : Int) N f AV.nil.tup (sBlk N g) := by
 intro m
 induction m with
 | zero =>
  intro i j f hm hi hij hj hS
  refine ⟨f, hS, ?_⟩
  apply r77_0
  exact ⟨fun h => by have := dt_ h; omega, fun _ => ⟨Sub.refl _, sOut fun _ => rfl⟩⟩
 | succ m ih =>
  intro i j f hm hi hij hj hS
  by_cases hlt : i < j
  ·obtain ⟨g, g1, g2⟩ := ih (i + 1) (j - 1) (swapF f j i) (by omega) (by omega) (by omega) (by omega) (hS.trans (Shuf.swap f (by omega) (by omega) (by omega) (by omega)))
   refine ⟨g, g1, ?_⟩
   apply r77_0
   simp only [tn_]
   rw [wrapSucc (n := i) (by omega), wP (m := j) (by omega) (by omega)]
   rw [← bifSwap] at g2
   exact ⟨fun _ => ⟨⟨by omega, by omega⟩, by omega, ⟨by omega, by omega⟩, by omega, g2⟩, fun h => by have := df_ h; omega⟩
  ·refine ⟨f, hS, ?_⟩
   apply r77_0
   exact ⟨fun h => by have := dt_ h; omega, fun _ => ⟨Sub.refl _, sOut fun _ => rfl⟩⟩
theorem rev_ok (hab : a < b) : ∃ g, Shuf a b f0 g ∧ Ok Proofs.Try.prog 77 [.rf 2000 1 0 n, .sc (.int .i64 (a : Int)), .sc (.int .i64 (b : Int))] (sBlk N f0) AV.nil.tup (sBlk N g) := by
 obtain ⟨g, g1, g2⟩ := rev_loop N n a b hN hb hn f0 (by omega) (b - 1 - a) a (b - 1) f0 (lr_ _) (lr_ _) (by omega) (by omega) (Shuf.refl _ _ _)
 refine ⟨g, g1, o77 _ _ _ _ _ _ _ ⟨trivial, fun q hq => ?_⟩ rfl ?_⟩
 ·simp only [ms_] at hq; subst hq; exact fun _ _ => trivial
 apply r77_e
 rw [wP (m := b) (by omega) (by omega)]
 exact g2
end
end Go.Am.Seat
