import Derived.Test.YthmhipkaiepokaaTxtLawDfaRuns1
import Derived.Test.YthmhipkaiepokaaTxtLawDfaRuns0
import Derived.Test.YthmhipkaiepokaaRul0LawDfaRuns
import Derived.Test.YthmhipkaiepokaaRul1LawDfaRuns
section
/-! Machine: dfa.Of. -/
namespace Go.Am.Seat
open Go Go.Am
set_option linter.unusedVariables false

theorem newV (d : Dfa) (e : Int) : newOnly (ofV d e) := ⟨⟨trivial, fun _ _ => trivial, ⟨rfl, fun _ _ => ⟨rfl, fun _ _ => trivial⟩⟩, ⟨rfl, fun _ _ => trivial⟩, trivial⟩, trivial, trivial⟩
section
variable {M : Nat} (hM : SortOk M) (N : Nfa) (hn : N.n ≤ M)
theorem of_err (he : N.err ≠ 0) : Ok Proofs.Try.prog 18 [nfaA false N] [] (ofV dfaZ N.err) [] := by
 refine o18 _ _ _ _ _ _ _ _ (newV _ _) ?_
 apply r18_e
 exact ⟨N.err, ncheck_ok N, fun _ => ofZ_sub _, fun h => absurd (by simpa using h) he⟩
include hM hn
theorem of_ok (he : N.err = 0) : ∃ z, OfRes N z (fun r => newOnly r → Ok Proofs.Try.prog 18 [nfaA false N] [] r []) := by
 have hmx : 140737488355328 ≤ maxLen := by decide
 obtain ⟨hb, hv⟩ := nErr_zero.1 he
 have hn4 : N.n ≤ 4096 := by omega
 have hfm : N.freeM N.n ≤ 16384 := by omega
 obtain ⟨lv, hlv, hlive⟩ := live_ok N hv hn4 hfm
 obtain ⟨bs, lk, hsrt, hsort⟩ := sort_nil N hn4 lv
 have hst := hv.1
 have hst2 := hv.2.1
 have hl : ∀ s ∈ [N.st.toNat], s < N.n := fun s hs => by
  rw [List.mem_singleton] at hs; omega
 obtain ⟨c, hc, hreach⟩ := reach_ok hM ((bld0 N lv).srt bs lk) hv hn hn4 hfm [N.st.toNat] hl (by simp) 1 (Nat.le_refl _) (fun _ => N.st) (fun i hi => by
  have hi : i < 1 := by simpa using hi
  obtain rfl : i = 0 := by omega
  simp; omega)
 have hce : c = clos N [N.st.toNat] := hc.eq hv hl
 have hclt : ∀ s ∈ c, s < N.n := fun s hs => by rw [hce] at hs; exact clos_lt s hs
 have hcl : c.length ≤ 4096 := Nat.le_trans (nodup_le (hc.srt.imp fun h => Nat.ne_of_lt h) hclt) hn4
 have hnewall : ∀ (z : Nat) (L : AV → Prop), OfRes N z L → (∀ r, newOnly r → L r → Ok Proofs.Try.prog 18 [nfaA false N] [] r []) → OfRes N z (fun r => newOnly r → Ok Proofs.Try.prog 18 [nfaA false N] [] r []) := by
  intro z L h hL
  rcases h with ⟨B, k1, k0, k2, k3⟩ | ⟨B, ofl, first, k1, k2, k3, k4, k5, k6, k7⟩
  ·exact .inl ⟨B, k1, k0, k2, fun hr => hL _ hr k3⟩
  ·exact .inr ⟨B, ofl, first, k1, k2, k3, k4, k5, k6, fun hr => hL _ hr k7⟩
 by_cases hany : c.any lv = true
 ·have hc5 : smallL c := fun s hs => by have := hclt s hs; omega
  have hne : c.length ≠ 0 := fun h => by
   rw [List.length_eq_zero_iff.1 h] at hany; cases hany
  have hinv : OfInv N (((bld0 N lv).srt bs lk).put c) 0 := {
   N_ := rfl, lv := hlv, srt := hsrt
   num := NumMap.empty.put 0 (Nat.le_refl _) hc5 rfl
   zero := .inl ⟨rfl, hce, by rw [← hce]; exact hany⟩
   pos := by show 1 ≤ ([] ++ [c]).length; simp
   srow := fun k hk => by
    have hk : k < 1 := hk
    obtain rfl : k = 0 := by omega
    exact ⟨hclt, hcl⟩
   aliv := fun k _ hk => by
    have hk : k < 1 := hk
    obtain rfl : k = 0 := by omega
    exact hany
   xlen := fun k hk => by have hk : k < 0 := hk; omega
   val := fun k j hk => by have hk : k < 0 := hk; omega
   bfs := fun m h1 h2 => by have h2 : m < 1 := h2; omega }
  refine ⟨0, hnewall 0 _ (of_loop hM N hv hn hn4 hfm 0 2049 (((bld0 N lv).srt bs lk).put c) _ _ _ _ rfl hinv (by show 0 ≤ _; omega) (by show 1 ≤ 2400; omega) (AgN.self _) (AgZ.self _)) fun r hr hL => ?_⟩
  refine o18 _ _ _ _ _ _ _ _ hr ?_
  apply r18_e
  refine ⟨N.err, ncheck_ok N, fun h => (by rw [he] at h; simp at h), fun _ => ⟨(N.n, lv), hlive, (((bld0 N lv).srt bs lk).N.st, ((bld0 N lv).srt bs lk).N.n, (fun i j => (word (((bld0 N lv).srt bs lk).N.set i) j : Int)), ((bld0 N lv).srt bs lk).N.to, ((bld0 N lv).srt bs lk).N.fn, ((bld0 N lv).srt bs lk).N.fr, ((bld0 N lv).srt bs lk).N.ru, ((bld0 N lv).srt bs lk).N.n, ((bld0 N lv).srt bs lk).lv, ((bld0 N lv).srt bs lk).bs.length, (fun i => (((bld0 N lv).srt bs lk).lk i : Int)), ((bld0 N lv).srt bs lk).S.length, ((bld0 N lv).srt bs lk).X.length, ((bld0 N lv).srt bs lk).bs.length, (fun i => ((((bld0 N lv).srt bs lk).bs.getD i 0 : Nat) : Int)), ((bld0 N lv).srt bs lk).mn, ((bld0 N lv).srt bs lk).mc, ((bld0 N lv).srt bs lk).mm, ((bld0 N lv).srt bs lk).S.length, (fun i => (((bld0 N lv).srt bs lk).S.getD i []).length), (fun i j => (((((bld0 N lv).srt bs lk).S.getD i []).getD j 0 : Nat) : Int)), ((bld0 N lv).srt bs lk).X.length, (fun i => (((bld0 N lv).srt bs lk).X.getD i []).length), (fun i j => (((bld0 N lv).srt bs lk).X.getD i []).getD j 0)), hsort, .inr ?_⟩⟩
  unfold reachV at hreach
  rw [if_pos (show c.any ((bld0 N lv).srt bs lk).lv = true from hany)] at hreach
  refine ⟨(c.length, (fun j => ((c.getD j 0 : Nat) : Int)), ((bld0 N lv).srt bs lk).N.st, ((bld0 N lv).srt bs lk).N.n, (fun i j => (word (((bld0 N lv).srt bs lk).N.set i) j : Int)), ((bld0 N lv).srt bs lk).N.to, ((bld0 N lv).srt bs lk).N.fn, ((bld0 N lv).srt bs lk).N.fr, ((bld0 N lv).srt bs lk).N.ru, ((bld0 N lv).srt bs lk).N.n, ((bld0 N lv).srt bs lk).lv, ((bld0 N lv).srt bs lk).bs.length, (fun i => (((bld0 N lv).srt bs lk).lk i : Int)), ((bld0 N lv).srt bs lk).S.length, ((bld0 N lv).srt bs lk).X.length, ((bld0 N lv).srt bs lk).bs.length, (fun i => ((((bld0 N lv).srt bs lk).bs.getD i 0 : Nat) : Int)), ((bld0 N lv).srt bs lk).mn, ((bld0 N lv).srt bs lk).mc, ((bld0 N lv).srt bs lk).mm, ((bld0 N lv).srt bs lk).S.length, (fun i => (((bld0 N lv).srt bs lk).S.getD i []).length), (fun i j => (((((bld0 N lv).srt bs lk).S.getD i []).getD j 0 : Nat) : Int)), ((bld0 N lv).srt bs lk).X.length, (fun i => (((bld0 N lv).srt bs lk).X.getD i []).length), (fun i j => (((bld0 N lv).srt bs lk).X.getD i []).getD j 0)), hreach, fun b hb => ⟨fun _ => ⟨(0, (((bld0 N lv).srt bs lk).put c).N.st, (((bld0 N lv).srt bs lk).put c).N.n, (fun i j => (word ((((bld0 N lv).srt bs lk).put c).N.set i) j : Int)), (((bld0 N lv).srt bs lk).put c).N.to, (((bld0 N lv).srt bs lk).put c).N.fn, (((bld0 N lv).srt bs lk).put c).N.fr, (((bld0 N lv).srt bs lk).put c).N.ru, (((bld0 N lv).srt bs lk).put c).N.n, (((bld0 N lv).srt bs lk).put c).lv, (((bld0 N lv).srt bs lk).put c).bs.length, (fun i => ((((bld0 N lv).srt bs lk).put c).lk i : Int)), (((bld0 N lv).srt bs lk).put c).S.length, (((bld0 N lv).srt bs lk).put c).X.length, (((bld0 N lv).srt bs lk).put c).bs.length, (fun i => (((((bld0 N lv).srt bs lk).put c).bs.getD i 0 : Nat) : Int)), (((bld0 N lv).srt bs lk).put c).mn, (((bld0 N lv).srt bs lk).put c).mc, (((bld0 N lv).srt bs lk).put c).mm, (((bld0 N lv).srt bs lk).put c).S.length, (fun i => ((((bld0 N lv).srt bs lk).put c).S.getD i []).length), (fun i j => ((((((bld0 N lv).srt bs lk).put c).S.getD i []).getD j 0 : Nat) : Int)), (((bld0 N lv).srt bs lk).put c).X.length, (fun i => ((((bld0 N lv).srt bs lk).put c).X.getD i []).length), (fun i j => ((((bld0 N lv).srt bs lk).put c).X.getD i []).getD j 0)), number_new ((bld0 N lv).srt bs lk) c hc5 (by omega) (by show 0 ≤ 1000000; omega) rfl, ?_⟩, fun h => ?_⟩⟩
  ·apply r18_0
   exact hL
  ·cases b
   ·cases h
   ·exact absurd (hb rfl) hne
 ·have hany : c.any lv = false := by simpa using hany
  have hinv : OfInv N { (bld0 N lv).srt bs lk with S := [[]] } 1 := {
   N_ := rfl, lv := hlv, srt := hsrt
   num := NumMap.one (fun v hv => by cases hv)
   zero := .inr ⟨rfl, rfl, by rw [← hce]; exact hany⟩
   pos := Nat.le_refl _
   srow := fun k hk => by
    have hk : k < 1 := hk
    obtain rfl : k = 0 := by omega
    exact ⟨fun t ht => (by cases ht), by show 0 ≤ 4096; omega⟩
   aliv := fun k hz hk => by
    have hk : k < 1 := hk
    omega
   xlen := fun k hk => by have hk : k < 0 := hk; omega
   val := fun k j hk => by have hk : k < 0 := hk; omega
   bfs := fun m h1 h2 => by have h2 : m < 1 := h2; omega }
  refine ⟨1, hnewall 1 _ (of_loop hM N hv hn hn4 hfm 1 2049 { (bld0 N lv).srt bs lk with S := [[]] } (fun i => bif Nat.blt i 0 then (([] : List (List Nat)).getD i []).length else 0) (fun i j => bif Nat.blt i 0 then (((([] : List (List Nat)).getD i []).getD j 0 : Nat) : Int) else Int.ofNat 0) _ _ rfl hinv (by show 0 ≤ _; omega) (by show 1 ≤ 2400; omega) (fun i hi => ?_) (AgZ.self _)) fun r hr hL => ?_⟩
  ·have hi : i < 1 := hi
   obtain rfl : i = 0 := by omega
   exact ⟨rfl, rfl⟩
  refine o18 _ _ _ _ _ _ _ _ hr ?_
  apply r18_e
  refine ⟨N.err, ncheck_ok N, fun h => (by rw [he] at h; simp at h), fun _ => ⟨(N.n, lv), hlive, (((bld0 N lv).srt bs lk).N.st, ((bld0 N lv).srt bs lk).N.n, (fun i j => (word (((bld0 N lv).srt bs lk).N.set i) j : Int)), ((bld0 N lv).srt bs lk).N.to, ((bld0 N lv).srt bs lk).N.fn, ((bld0 N lv).srt bs lk).N.fr, ((bld0 N lv).srt bs lk).N.ru, ((bld0 N lv).srt bs lk).N.n, ((bld0 N lv).srt bs lk).lv, ((bld0 N lv).srt bs lk).bs.length, (fun i => (((bld0 N lv).srt bs lk).lk i : Int)), ((bld0 N lv).srt bs lk).S.length, ((bld0 N lv).srt bs lk).X.length, ((bld0 N lv).srt bs lk).bs.length, (fun i => ((((bld0 N lv).srt bs lk).bs.getD i 0 : Nat) : Int)), ((bld0 N lv).srt bs lk).mn, ((bld0 N lv).srt bs lk).mc, ((bld0 N lv).srt bs lk).mm, ((bld0 N lv).srt bs lk).S.length, (fun i => (((bld0 N lv).srt bs lk).S.getD i []).length), (fun i j => (((((bld0 N lv).srt bs lk).S.getD i []).getD j 0 : Nat) : Int)), ((bld0 N lv).srt bs lk).X.length, (fun i => (((bld0 N lv).srt bs lk).X.getD i []).length), (fun i j => (((bld0 N lv).srt bs lk).X.getD i []).getD j 0)), hsort, .inl ?_⟩⟩
  unfold reachV at hreach
  rw [if_neg (show ¬ c.any ((bld0 N lv).srt bs lk).lv = true from by show ¬ c.any lv = true; rw [hany]; simp)] at hreach
  refine ⟨(((bld0 N lv).srt bs lk).N.st, ((bld0 N lv).srt bs lk).N.n, (fun i j => (word (((bld0 N lv).srt bs lk).N.set i) j : Int)), ((bld0 N lv).srt bs lk).N.to, ((bld0 N lv).srt bs lk).N.fn, ((bld0 N lv).srt bs lk).N.fr, ((bld0 N lv).srt bs lk).N.ru, ((bld0 N lv).srt bs lk).N.n, ((bld0 N lv).srt bs lk).lv, ((bld0 N lv).srt bs lk).bs.length, (fun i => (((bld0 N lv).srt bs lk).lk i : Int)), ((bld0 N lv).srt bs lk).S.length, ((bld0 N lv).srt bs lk).X.length, ((bld0 N lv).srt bs lk).bs.length, (fun i => ((((bld0 N lv).srt bs lk).bs.getD i 0 : Nat) : Int)), ((bld0 N lv).srt bs lk).mn, ((bld0 N lv).srt bs lk).mc, ((bld0 N lv).srt bs lk).mm, ((bld0 N lv).srt bs lk).S.length, (fun i => (((bld0 N lv).srt bs lk).S.getD i []).length), (fun i j => (((((bld0 N lv).srt bs lk).S.getD i []).getD j 0 : Nat) : Int)), ((bld0 N lv).srt bs lk).X.length, (fun i => (((bld0 N lv).srt bs lk).X.getD i []).length), (fun i j => (((bld0 N lv).srt bs lk).X.getD i []).getD j 0)), hreach, ⟨Nat.le_refl _, by show (0 + 1) * 24 ≤ _; omega, by show 0 + 1 ≤ maxLen; omega⟩, SubB_of_rsub (RSub.ar fun i hi => ?_) rfl, ?_⟩
  ·have hi : i < 1 := hi
   obtain rfl : i = 0 := by omega
   exact RSub.nilvec
  ·apply r18_0
   exact hL
end
end Go.Am.Seat
end

section
/-! Plain law: an automaton whose states are told by labels, numbered as they are come to, is one alone. -/
namespace Go.Am
open Go
set_option linter.unusedVariables false
structure Det {α : Type} (a0 : α) (tr : α → Nat → α) (al : α → Prop) (ru : α → Int) (d : Dfa) (lab : Nat → α) : Prop where
 st : d.st = 0
 pos : 1 ≤ d.nk
 rk : d.rk = d.nk
 ml : ∀ i, i < d.nk → d.ml i = d.ml 0
 zero : lab 0 = a0
 aliv : ∀ i, 0 < i → i < d.nk → al (lab i)
 inj : ∀ i j, i < d.nk → j < d.nk → lab i = lab j → i = j
 rule : ∀ i, i < d.nk → d.ru i = ru (lab i)
 cl : ∀ b, b < 256 → d.cl b < d.ml 0
 no : ∀ n b, n < d.nk → b < 256 → ¬ al (tr (lab n) b) → d.nx n (d.cl b) = -1
 go : ∀ n b, n < d.nk → b < 256 → al (tr (lab n) b) → ∃ m : Nat, d.nx n (d.cl b) = m ∧ m < d.nk ∧ lab m = tr (lab n) b
 bfs : ∀ m : Nat, 0 < m → m < d.nk → ∃ n b : Nat, n < m ∧ b < 256 ∧ d.nx n (d.cl b) = m ∧ ∀ n' b' : Nat, b' < 256 → Before n' b' n b → d.nx n' (d.cl b') < (m : Int)
 col : ∀ b b', b < 256 → b' < 256 → (∀ n : Nat, n < d.nk → d.nx n (d.cl b) = d.nx n (d.cl b')) → d.cl b = d.cl b'
 cls : ∀ c, c < d.ml 0 → ∃ b, b < 256 ∧ d.cl b = c ∧ ∀ b', b' < b → d.cl b' < c
section
variable {α β : Type} {a0 : α} {tr : α → Nat → α} {al : α → Prop} {ru : α → Int} {b0 : β} {tr' : β → Nat → β} {al' : β → Prop} {ru' : β → Int}
theorem Det.on {x : Dfa} {lab : Nat → α} (hx : Det a0 tr al ru x lab) {n b : Nat} (hn : n < x.nk) (hb : b < 256) {m : Nat} (hm : x.nx n (x.cl b) = m) : al (tr (lab n) b) ∧ m < x.nk ∧ lab m = tr (lab n) b := by
 by_cases h : al (tr (lab n) b)
 ·obtain ⟨m', h1, h2, h3⟩ := hx.go n b hn hb h
  obtain rfl : m' = m := by omega
  exact ⟨h, h2, h3⟩
 ·have := hx.no n b hn hb h
  omega
theorem Det.ge {x : Dfa} {lab : Nat → α} (hx : Det a0 tr al ru x lab) {n b : Nat} (hn : n < x.nk) (hb : b < 256) : -1 ≤ x.nx n (x.cl b) ∧ x.nx n (x.cl b) < (x.nk : Int) := by
 by_cases h : al (tr (lab n) b)
 ·obtain ⟨m', h1, h2, h3⟩ := hx.go n b hn hb h
  omega
 ·have := hx.no n b hn hb h
  have := hx.pos
  omega
structure Pair (a0 : α) (tr : α → Nat → α) (al : α → Prop) (ru : α → Int) (b0 : β) (tr' : β → Nat → β) (al' : β → Prop) (ru' : β → Int) (ρ : α → β → Prop) : Prop where
 zero : ρ a0 b0
 go : ∀ a b c, c < 256 → ρ a b → ρ (tr a c) (tr' b c)
 aliv : ∀ a b, ρ a b → (al a ↔ al' b)
 rule : ∀ a b, ρ a b → ru a = ru' b
 left : ∀ a a' b, ρ a b → ρ a' b → a = a'
 right : ∀ a b b', ρ a b → ρ a b' → b = b'
theorem Pair.symm {ρ : α → β → Prop} (h : Pair a0 tr al ru b0 tr' al' ru' ρ) : Pair b0 tr' al' ru' a0 tr al ru (fun b a => ρ a b) :=
 ⟨h.zero, fun b a c hc hr => h.go a b c hc hr, fun b a hr => (h.aliv a b hr).symm, fun b a hr => (h.rule a b hr).symm, fun b b' a h1 h2 => h.right a b b' h1 h2, fun b a a' h1 h2 => h.left a a' b h1 h2⟩
theorem Pair.id (a0 : α) (tr : α → Nat → α) (al : α → Prop) (ru : α → Int) : Pair a0 tr al ru a0 tr al ru Eq :=
 ⟨rfl, fun a b c _ h => by rw [h], fun a b h => by rw [h], fun a b h => by rw [h], fun a a' b h h' => h.trans h'.symm, fun a b b' h h' => h.symm.trans h'⟩
variable {ρ : α → β → Prop} {x y : Dfa} {lab : Nat → α} {lab' : Nat → β}
theorem Det.same (hx : Det a0 tr al ru x lab) (hy : Det b0 tr' al' ru' y lab') (h : Pair a0 tr al ru b0 tr' al' ru' ρ) : ∀ (k m : Nat), m < k → m < x.nk → m < y.nk ∧ ρ (lab m) (lab' m) := by
 intro k
 induction k with
 | zero => intro m hm; omega
 | succ k ih =>
  intro m hm hmx
  by_cases h0 : m = 0
  ·subst h0; exact ⟨hy.pos, by rw [hx.zero, hy.zero]; exact h.zero⟩
  obtain ⟨n, b, hn, hb, hg, hfirst⟩ := hx.bfs m (by omega) hmx
  obtain ⟨hny, hal⟩ := ih n (by omega) (by omega)
  obtain ⟨g1, _, g3⟩ := hx.on (by omega) hb hg
  have h1 := h.go _ _ b hb hal
  obtain ⟨m', k1, k2, k3⟩ := hy.go n b hny hb ((h.aliv _ _ h1).1 g1)
  rw [← g3, ← k3] at h1
  by_cases hlo : m' < m
  ·obtain ⟨_, h2⟩ := ih m' (by omega) (by omega)
   have := hx.inj m m' hmx (by omega) (h.left _ _ _ h1 h2)
   omega
  ·by_cases he : m' = m
   ·subst he
    exact ⟨by omega, h1⟩
   ·obtain ⟨n2, b2, hn2, hb2, hg2, hfirst2⟩ := hy.bfs m (by omega) (by omega)
    have hah : Before n2 b2 n b := by
     by_cases hd : Before n2 b2 n b
     ·exact hd
     ·by_cases heq : n2 = n ∧ b2 = b
      ·obtain ⟨rfl, rfl⟩ := heq
       omega
      ·have := hfirst2 n b hb (by unfold Before at hd ⊢; omega)
       omega
    obtain ⟨hn2y, hal2⟩ := ih n2 (by omega) (by omega)
    obtain ⟨y1, _, y3⟩ := hy.on hn2y hb2 hg2
    have h3 := h.go _ _ b2 hb2 hal2
    obtain ⟨j, j1, j2, j3⟩ := hx.go n2 b2 (by omega) hb2 ((h.aliv _ _ h3).2 y1)
    have hlt2 := hfirst n2 b2 hb2 hah
    rw [← y3, ← j3] at h3
    obtain ⟨hjy, hjal⟩ := ih j (by omega) (by omega)
    have := hy.inj j m hjy (by omega) (h.right _ _ _ hjal h3)
    omega
theorem Det.cl_le (hx : Det a0 tr al ru x lab) (hy : Det b0 tr' al' ru' y lab') {b : Nat} (hb : b < 256)
  (hcol : ∀ b b', b < 256 → b' < 256 → (x.cl b = x.cl b' ↔ y.cl b = y.cl b')) (ih : ∀ b', b' < b → x.cl b' = y.cl b') : y.cl b ≤ x.cl b := by
 by_cases hlt : x.cl b < y.cl b
 ·exfalso
  obtain ⟨b0, hb0, hc0, hf0⟩ := hy.cls (x.cl b) (Nat.lt_trans hlt (hy.cl b hb))
  by_cases h1 : b0 < b
  ·have := ih b0 h1
   have := (hcol b0 b hb0 hb).1 (by omega)
   omega
  ·by_cases h2 : b0 = b
   ·subst h2; omega
   ·have := hf0 b (by omega); omega
 ·omega
theorem Det.uniq (hx : Det a0 tr al ru x lab) (hy : Det b0 tr' al' ru' y lab') (h : Pair a0 tr al ru b0 tr' al' ru' ρ) : EqDfa x y := by
 have e1 := hx.same hy h
 have e2 := hy.same hx h.symm
 have hnk : x.nk = y.nk := by
  by_cases hlt : x.nk < y.nk
  ·have := (e2 (x.nk + 1) x.nk (by omega) hlt).1; omega
  ·by_cases hgt : y.nk < x.nk
   ·have := (e1 (y.nk + 1) y.nk (by omega) hgt).1; omega
   ·omega
 have hal : ∀ m : Nat, m < x.nk → ρ (lab m) (lab' m) := fun m hm => (e1 (m + 1) m (by omega) hm).2
 have hgo : ∀ (i b : Nat), i < x.nk → b < 256 → x.nx i (x.cl b) = y.nx i (y.cl b) := by
  intro i b hi hb
  have h1 := h.go _ _ b hb (hal i hi)
  by_cases hn : al (tr (lab i) b)
  ·obtain ⟨m, m1, m2, m3⟩ := hx.go i b hi hb hn
   obtain ⟨m', n1, n2, n3⟩ := hy.go i b (by omega) hb ((h.aliv _ _ h1).1 hn)
   rw [← m3, ← n3] at h1
   have := hx.inj m m' m2 (by omega) (h.left _ _ _ h1 (hal m' (by omega)))
   rw [m1, n1, this]
  ·rw [hx.no i b hi hb hn, hy.no i b (by omega) hb fun k => hn ((h.aliv _ _ h1).2 k)]
 have colx : ∀ b b', b < 256 → b' < 256 → (x.cl b = x.cl b' ↔ ∀ n : Nat, n < x.nk → x.nx n (x.cl b) = x.nx n (x.cl b')) := fun b b' hb hb' =>
  ⟨fun he n hn => by rw [he], fun he => hx.col b b' hb hb' he⟩
 have coly : ∀ b b', b < 256 → b' < 256 → (y.cl b = y.cl b' ↔ ∀ n : Nat, n < y.nk → y.nx n (y.cl b) = y.nx n (y.cl b')) := fun b b' hb hb' =>
  ⟨fun he n hn => by rw [he], fun he => hy.col b b' hb hb' he⟩
 have hcol : ∀ b b', b < 256 → b' < 256 → (x.cl b = x.cl b' ↔ y.cl b = y.cl b') := fun b b' hb hb' => by
  rw [colx b b' hb hb', coly b b' hb hb', ← hnk]
  constructor
  ·intro hh n hn; rw [← hgo n b hn hb, ← hgo n b' hn hb']; exact hh n hn
  ·intro hh n hn; rw [hgo n b hn hb, hgo n b' hn hb']; exact hh n hn
 have hcl : ∀ k b, b < k → b < 256 → x.cl b = y.cl b := by
  intro k
  induction k with
  | zero => intro b hb; omega
  | succ k ih =>
   intro b hk hb
   have a1 := hx.cl_le hy hb hcol (fun b' hb' => ih b' (by omega) (by omega))
   have a2 := hy.cl_le hx hb (fun c c' hc hc' => (hcol c c' hc hc').symm) (fun b' hb' => (ih b' (by omega) (by omega)).symm)
   omega
 have hcl' : ∀ b, b < 256 → x.cl b = y.cl b := fun b hb => hcl (b + 1) b (by omega) hb
 have hml : x.ml 0 = y.ml 0 := by
  by_cases hlt : x.ml 0 < y.ml 0
  ·obtain ⟨b, hb, hc, _⟩ := hy.cls (x.ml 0) hlt
   have := hx.cl b hb; rw [hcl' b hb] at this; omega
  ·by_cases hgt : y.ml 0 < x.ml 0
   ·obtain ⟨b, hb, hc, _⟩ := hx.cls (y.ml 0) hgt
    have := hy.cl b hb; rw [← hcl' b hb] at this; omega
   ·omega
 refine ⟨by rw [hx.st, hy.st], hcl', hnk, fun i hi => ?_, fun i c hi hc => ?_, by rw [hx.rk, hy.rk, hnk], fun i hi => ?_⟩
 ·rw [hx.ml i hi, hy.ml i (by omega), hml]
 ·rw [hx.ml i hi] at hc
  obtain ⟨b, hb, hcb, _⟩ := hx.cls c hc
  rw [← hcb, hgo i b hi hb, hcl' b hb]
 ·rw [hx.rk] at hi
  rw [hx.rule i hi, hy.rule i (by omega)]
  exact h.rule _ _ (hal i hi)
inductive Come (a0 : α) (tr : α → Nat → α) (al : α → Prop) : α → Prop
 | zero : Come a0 tr al a0
 | go {a : α} {c : Nat} : Come a0 tr al a → c < 256 → al (tr a c) → Come a0 tr al (tr a c)
theorem Det.come (hx : Det a0 tr al ru x lab) {a : α} (h : Come a0 tr al a) : ∃ i, i < x.nk ∧ lab i = a := by
 induction h with
 | zero => exact ⟨0, hx.pos, hx.zero⟩
 | go _ hc ha ih =>
  obtain ⟨i, hi, rfl⟩ := ih
  obtain ⟨m, _, h2, h3⟩ := hx.go i _ hi hc ha
  exact ⟨m, h2, h3⟩
theorem Pair.come (h : Pair a0 tr al ru b0 tr' al' ru' ρ) {a : α} (ha : Come a0 tr al a) : ∃ b, ρ a b ∧ Come b0 tr' al' b := by
 induction ha with
 | zero => exact ⟨b0, h.zero, .zero⟩
 | go _ hc ha ih =>
  obtain ⟨b, h1, h2⟩ := ih
  have h3 := h.go _ _ _ hc h1
  exact ⟨_, h3, .go h2 hc ((h.aliv _ _ h3).1 ha)⟩
end
end Go.Am
end

section
/-! Plain law: what dfa.Of makes is the automaton of closed sets of states, numbered as they are come to. -/
namespace Go.Am.Seat
open Go Go.Am
set_option linter.unusedVariables false

def AlN (N : Nfa) (c : List Nat) : Prop := ∃ s, s ∈ c ∧ LiveN N s
def IsDfa (N : Nfa) (d : Dfa) (lab : Nat → List Nat) : Prop := Det (clos N [N.st.toNat]) (trL N) (AlN N) (fun c => ruleGo N c (-1)) d lab
theorem FreeR.live {N : Nfa} {l : List Nat} {s : Nat} (h : FreeR N l s) (hl : LiveN N s) : ∃ t, t ∈ l ∧ LiveN N t := by
 induction h with
 | base h => exact ⟨_, h, hl⟩
 | step h hj ih => exact ih (.go (.inr ⟨_, rfl, hj, rfl⟩) hl)
theorem mem_clos {N : Nfa} (hv : N.valid) {l : List Nat} (hl : ∀ s ∈ l, s < N.n) {s : Nat} : s ∈ clos N l ↔ FreeR N l s := (clos_is hv hl).mem s
theorem al_back {N : Nfa} (hv : N.valid) {c : List Nat} (hc : ∀ s ∈ c, s < N.n) {b : Nat} (hb : b < 256) (h : AlN N (trL N c b)) : AlN N c := by
 obtain ⟨s, hs, hl⟩ := h
 obtain ⟨t, ht, hl⟩ := ((mem_clos hv (stepL_lt hv hc b)).1 hs).live hl
 unfold stepL at ht
 obtain ⟨u, hu, rfl⟩ := List.mem_map.1 ht
 obtain ⟨h1, h2⟩ := List.mem_filter.1 hu
 simp only [Bool.and_eq_true, decide_eq_true_eq] at h2
 exact ⟨u, h1, .go (.inl ⟨rfl, h2.1, ⟨b, hb, h2.2⟩, rfl⟩) hl⟩
theorem stepL_congr {N : Nfa} {l : List Nat} {b c : Nat} (h : ∀ s ∈ l, 0 ≤ N.to s → N.set s b = N.set s c) : stepL N l b = stepL N l c := by
 unfold stepL
 congr 1
 refine List.filter_congr fun s hs => ?_
 by_cases h0 : 0 ≤ N.to s
 ·rw [h s hs h0]
 ·simp [h0]
theorem ruleGo_none {N : Nfa} : ∀ {l : List Nat}, (∀ s ∈ l, N.ru s < 0) → ruleGo N l (-1) = -1
 | [], _ => rfl
 | s :: l, h => by
  unfold ruleGo
  rw [if_neg (fun k => by have := h s List.mem_cons_self; omega)]
  exact ruleGo_none fun t ht => h t (List.mem_cons_of_mem _ ht)
theorem trL_nil {N : Nfa} (hv : N.valid) (b : Nat) : trL N [] b = [] := by
 have h : stepL N [] b = [] := rfl
 unfold trL
 rw [h]
 cases hc : clos N [] with
 | nil => rfl
 | cons s l =>
  have hs : s ∈ clos N [] := by rw [hc]; exact List.mem_cons_self
  have := (mem_clos hv (fun s hs => by cases hs)).1 hs
  exfalso
  clear hs hc
  induction this with
  | base h => cases h
  | step _ _ ih => exact ih
theorem OfInv.nx {N : Nfa} {B : Bld} {z : Nat} (h : OfInv N B z) {ofl first : List Nat} (hO : ofl.length = B.bs.length) (hC : Cls B.X ofl first) {n b : Nat} (hn : n < B.X.length) (hb : b < 256) : (dfaOf B ofl first).nx n ((dfaOf B ofl first).cl b) = (B.X.getD n []).getD (B.lk b) 0 := by
 have hl := h.srt.lt b hb
 obtain ⟨c1, c2⟩ := hC.lt (B.lk b) (by omega)
 have e := congrArg (fun l => l.getD n 0) c2
 rw [colL_at hn, colL_at hn] at e
 obtain ⟨c3, _⟩ := hC.at_ _ c1
 have h1 := (h.lt hn (j := first.getD (ofl.getD (B.lk b) 0) 0) (by omega)).1
 have h2 := (h.lt hn hl).1
 show (B.X.getD n []).getD (first.getD (ofl.getD (B.lk b) 0) 0) 0 = _
 omega
section
variable {N : Nfa} {B : Bld} {z : Nat} (hv : N.valid) (h : OfInv N B z)
include h
theorem OfInv.any {c : List Nat} (hc : ∀ s ∈ c, s < N.n) : c.any B.lv = true ↔ AlN N c := by
 rw [List.any_eq_true]
 exact ⟨fun ⟨s, h1, h2⟩ => ⟨s, h1, (h.lv s (hc s h1)).1 h2⟩, fun ⟨s, h1, h2⟩ => ⟨s, h1, (h.lv s (hc s h1)).2 h2⟩⟩
noncomputable def labB (N : Nfa) (B : Bld) (i : Nat) : List Nat := if i = 0 then clos N [N.st.toNat] else B.S.getD i []
theorem OfInv.lab {i : Nat} (hi : z ≤ i) : labB N B i = B.S.getD i [] := by
 unfold labB
 split
 ·rename_i e
  subst e
  rcases h.zero with ⟨_, e, _⟩ | ⟨e, _⟩
  ·exact e.symm
  ·omega
 ·rfl
theorem OfInv.lab_lt {i : Nat} (hi : i < B.S.length) : ∀ s ∈ labB N B i, s < N.n := by
 unfold labB
 split
 ·exact fun s hs => clos_lt s hs
 ·exact (h.srow i hi).1
theorem OfInv.dead (hz : z = 1) : ¬ AlN N (clos N [N.st.toNat]) := by
 rcases h.zero with ⟨e, _⟩ | ⟨_, _, e⟩
 ·omega
 ·intro ha
  rw [(h.any fun s hs => clos_lt s hs).2 ha] at e
  cases e
theorem OfInv.byte {n b : Nat} (hns : n < B.S.length) (hb : b < 256) : trL N (labB N B n) b = trL N (labB N B n) (B.bs.getD (B.lk b) 0) := by
 unfold trL
 rw [stepL_congr fun s hs h0 => h.srt.same b hb s (h.lab_lt hns s hs) h0]
theorem OfInv.inj {i j : Nat} (hi : i < B.S.length) (hj : j < B.S.length) (he : labB N B i = labB N B j) : i = j := by
 have key : ∀ i j, z ≤ i → z ≤ j → i < B.S.length → j < B.S.length → labB N B i = labB N B j → i = j := fun i j h1 h2 h3 h4 he => by
  rw [h.lab h1, h.lab h2] at he
  obtain ⟨c1, e1⟩ := h.num.has i h1 h3
  obtain ⟨c2, e2⟩ := h.num.has j h2 h4
  rw [he, e2] at e1
  simp only [Option.some.injEq, Prod.mk.injEq] at e1
  omega
 have hd : ∀ j, z ≤ j → j < B.S.length → z = 1 → labB N B 0 ≠ labB N B j := fun j h1 h2 hz he => by
  have h3 := (h.any (h.srow j h2).1).1 (h.aliv j h1 h2)
  rw [← h.lab h1, ← he] at h3
  exact h.dead hz h3
 have hz1 := h.z1
 by_cases h1 : z ≤ i <;> by_cases h2 : z ≤ j
 ·exact key i j h1 h2 hi hj he
 ·obtain rfl : j = 0 := by omega
  exact absurd he.symm (hd i h1 hi (by omega))
 ·obtain rfl : i = 0 := by omega
  exact absurd he (hd j h2 hj (by omega))
 ·omega
include hv
theorem OfInv.at_ {n j : Nat} (hn : n < B.X.length) (hns : n < B.S.length) (hj : j < B.bs.length) :
  (¬ AlN N (trL N (labB N B n) (B.bs.getD j 0)) ∧ (B.X.getD n []).getD j 0 = -1) ∨
  (AlN N (trL N (labB N B n) (B.bs.getD j 0)) ∧ ∃ i : Nat, (B.X.getD n []).getD j 0 = i ∧ z ≤ i ∧ i < B.S.length ∧ labB N B i = trL N (labB N B n) (B.bs.getD j 0)) := by
 have hb8 := (h.srt.at_ j hj).1
 by_cases hzn : z ≤ n
 ·rw [h.lab hzn]
  rcases h.val n j hn hj with ⟨a, e⟩ | ⟨a, i, e1, e2, e3, e4⟩
  ·refine .inl ⟨fun k => ?_, e⟩
   rw [(h.any fun s hs => trL_lt s hs).2 k] at a
   cases a
  ·exact .inr ⟨(h.any fun s hs => trL_lt s hs).1 a, i, e1, e2, e3, by rw [h.lab e2]; exact e4⟩
 ·have hz1 := h.z1
  have hz : z = 1 := by omega
  obtain rfl : n = 0 := by omega
  have hd := h.dead hz
  have h0 : B.S.getD 0 [] = [] := by
   rcases h.zero with ⟨e, _⟩ | ⟨_, e, _⟩
   ·omega
   ·exact e
  refine .inl ⟨fun k => hd (al_back hv (fun s hs => clos_lt s hs) hb8 k), ?_⟩
  rcases h.val 0 j hn hj with ⟨a, e⟩ | ⟨a, _⟩
  ·exact e
  ·rw [h0, trL_nil hv] at a; cases a
theorem OfInv.come (hx : B.X.length ≤ B.S.length) : ∀ (k m : Nat), m < k → m < B.S.length → Come (clos N [N.st.toNat]) (trL N) (AlN N) (labB N B m) := by
 intro k
 induction k with
 | zero => intro m hm; omega
 | succ k ih =>
  intro m hm hms
  by_cases h0 : m = 0
  ·subst h0; exact .zero
  ·obtain ⟨n, j, n1, n2, n3, n4, _⟩ := h.bfs m (by omega) hms
   rcases h.at_ hv n1 (by omega) n3 with ⟨_, e⟩ | ⟨a, i, e1, e2, e3, e4⟩
   ·omega
   ·obtain rfl : i = m := by omega
    rw [e4] at *
    exact .go (ih n (by omega) (by omega)) (h.srt.at_ j n3).1 a
variable {ofl first : List Nat} (hXS : B.X.length = B.S.length) (hO : ofl.length = B.bs.length) (hC : Cls B.X ofl first) (hD : ∀ a b, a < first.length → b < first.length → colL B.X (first.getD a 0) = colL B.X (first.getD b 0) → a = b)
include hXS hO hC
include hD
theorem OfInv.det : IsDfa N (dfaOf B ofl first) (labB N B) := by
 have hz1 := h.z1
 refine { st := rfl, pos := by show 1 ≤ B.X.length; have := h.pos; omega, rk := rfl, ml := fun _ _ => rfl, zero := if_pos rfl, aliv := fun i h0 hi => ?_, inj := fun i j hi hj he => ?_, rule := fun i hi => ?_, cl := fun b hb => ?_, no := fun n b hn hb ha => ?_, go := fun n b hn hb ha => ?_, bfs := fun m h0 hm => ?_, col := fun b b' hb hb' he => ?_, cls := fun c hc => ?_ }
 ·have hi : i < B.X.length := hi
  rw [h.lab (by omega)]
  exact (h.any (h.srow i (by omega)).1).1 (h.aliv i (by omega) (by omega))
 ·have hi : i < B.X.length := hi
  have hj : j < B.X.length := hj
  exact h.inj (by omega) (by omega) he
 ·have hi : i < B.X.length := hi
  show ruleGo B.N (B.S.getD i []) (-1) = ruleGo N (labB N B i) (-1)
  rw [h.N_]
  by_cases hz : z ≤ i
  ·rw [h.lab hz]
  ·obtain rfl : i = 0 := by omega
   rcases h.zero with ⟨e, _⟩ | ⟨e1, e2, _⟩
   ·omega
   ·rw [e2]
    show -1 = ruleGo N (clos N [N.st.toNat]) (-1)
    rw [ruleGo_none fun s hs => ?_]
    by_cases hr : N.ru s < 0
    ·exact hr
    ·exact absurd ⟨s, hs, .rule (by omega)⟩ (h.dead e1)
 ·exact (hC.lt (B.lk b) (by have := h.srt.lt b hb; omega)).1
 ·have hn : n < B.X.length := hn
  have hl := h.srt.lt b hb
  rw [h.nx hO hC hn hb]
  rw [h.byte (by omega) hb] at ha
  rcases h.at_ hv hn (by omega) hl with ⟨_, e⟩ | ⟨a, _⟩
  ·exact e
  ·exact absurd a ha
 ·have hn : n < B.X.length := hn
  have hl := h.srt.lt b hb
  rw [h.nx hO hC hn hb]
  rw [h.byte (by omega) hb] at ha ⊢
  rcases h.at_ hv hn (by omega) hl with ⟨a, _⟩ | ⟨_, i, e1, _, e3, e4⟩
  ·exact absurd ha a
  ·exact ⟨i, e1, by show i < B.X.length; omega, e4⟩
 ·have hm : m < B.X.length := hm
  obtain ⟨n, j, n1, n2, n3, n4, n5⟩ := h.bfs m h0 (by omega)
  obtain ⟨b1, b2, b3⟩ := h.srt.at_ j n3
  refine ⟨n, B.bs.getD j 0, n2, b1, ?_, fun n' b' hb' hbe => ?_⟩
  ·rw [h.nx hO hC n1 b1, b2]; exact n4
  ·have hn' : n' < B.X.length := by unfold Before at hbe; omega
   rw [h.nx hO hC hn' hb']
   refine n5 n' (B.lk b') (h.srt.lt b' hb') ?_
   rcases hbe with hbe | ⟨hbe, hbb⟩
   ·exact .inl hbe
   ·exact .inr ⟨hbe, b3 b' hbb⟩
 ·have hl := h.srt.lt b hb
  have hl' := h.srt.lt b' hb'
  obtain ⟨c1, c2⟩ := hC.lt (B.lk b) (by omega)
  obtain ⟨c1', c2'⟩ := hC.lt (B.lk b') (by omega)
  refine hD _ _ c1 c1' ?_
  show colL B.X (first.getD (ofl.getD (B.lk b) 0) 0) = colL B.X (first.getD (ofl.getD (B.lk b') 0) 0)
  rw [c2, c2']
  apply List.ext_getElem (by rw [colL_len, colL_len])
  intro n n1 n2
  have hn : n < B.X.length := by rw [colL_len] at n1; exact n1
  have := he n hn
  rw [h.nx hO hC hn hb, h.nx hO hC hn hb'] at this
  have e1 := colL_at (i := B.lk b) hn
  have e2 := colL_at (i := B.lk b') hn
  rw [List.getD_eq_getElem?_getD, List.getElem?_eq_getElem n1] at e1
  rw [List.getD_eq_getElem?_getD, List.getElem?_eq_getElem n2] at e2
  have e1 : (colL B.X (B.lk b))[n] = _ := e1
  have e2 : (colL B.X (B.lk b'))[n] = _ := e2
  rw [e1, e2, this]
 ·have hc : c < first.length := hc
  obtain ⟨c1, c2, c3⟩ := hC.at_ c hc
  obtain ⟨b1, b2, b3⟩ := h.srt.at_ (first.getD c 0) (by omega)
  refine ⟨_, b1, ?_, fun b' hb' => ?_⟩
  ·show ofl.getD (B.lk _) 0 = c
   rw [b2]; exact c2
  ·exact c3 _ (b3 b' hb')
end
end Go.Am.Seat
end

section
/-! Machine: what the laws lay beside what they hand over: twins, and whether they are left. -/
namespace Go.Am.Seat
open Go Go.Am
set_option linter.unusedVariables false

theorem sameInts_loop (n : Nat) (hn : n ≤ 9223372036854775807) (f g : Nat → Int) (h : ∀ i, i < n → f i = g i) : ∀ m i, i + m = n → L33_0 n f n g (i : Int) (.sc (.bool true)) := by
 intro m
 induction m with
 | zero =>
  intro i hi
  apply r33_0
  exact ⟨fun h => by have := of_decide_eq_true h; omega, fun _ => Sub.refl _⟩
 | succ m ih =>
  intro i hi
  apply r33_0
  rw [wrapSucc (by omega)]
  simp only [Int.toNat_natCast]
  refine ⟨fun _ => ⟨⟨by omega, by omega⟩, ⟨by omega, by omega⟩, fun hc => ?_, fun _ => ih (i + 1) (by omega)⟩, fun h => by have := of_decide_eq_false h; omega⟩
  exfalso
  rw [h i (by omega)] at hc
  simp at hc
theorem sameInts_true (n : Nat) (f g : Nat → Int) (h : ∀ i, i < n → f i = g i) : Ok Proofs.Try.prog 33 [rowA n f, rowA n g] [] (.sc (.bool true)) [] := by
 refine o33 _ _ _ _ _ trivial ?_
 apply a33_e
 intro hf
 have hn : n ≤ 9223372036854775807 := (hf 0).1
 apply r33_e
 exact ⟨fun h => by simp at h, fun _ => sameInts_loop n hn f g h n 0 (by omega)⟩
def twF (n : Nat) (f : Nat → Int) : Nat → Int := fun j => if j < n then f j else -7000 - ((j - n : Nat) : Int)
abbrev twA (g : Bool) (n : Nat) (f : Nat → Int) : AV := .vec g 1 n (n + 3) (fun j => .sc (.int .i64 (twF n f j)))
theorem twF_lt {n j : Nat} {f : Nat → Int} (h : j < n) : twF n f j = f j := by unfold twF; rw [if_pos h]
theorem wrap7 {i : Nat} (h : i < 3) : IntKind.i64.wrap (-7000 - (i : Int)) = -7000 - (i : Int) := wrap_i64 (by omega) (by omega)
theorem row_bltI' {α : Type} {f : Nat → α} {n i : Nat} {x : α} (h : i < n) : (bif Nat.blt i n then f i else x) = f i := by
 have : Nat.blt i n = true := by simpa using h
 rw [this]; rfl
theorem row_endI' {α : Type} {f : Nat → α} {n i : Nat} {x : α} (h : ¬ i < n) : (bif Nat.blt i n then f i else x) = x := by
 have : Nat.blt i n = false := by
  cases hb : Nat.blt i n with
  | false => rfl
  | true => exact absurd (by simpa using hb) h
 rw [this]; rfl
theorem twin_loop (n : Nat) (f : Nat → Int) (hn : n ≤ 1000000) : ∀ (m i bn : Nat) (g : Nat → Int), i + m = 3 → n + i ≤ bn → (∀ j, j < n + i → g j = twF n f j) →
  L34_0 n f (n + i) (i : Int) bn g (twA false n f) := by
 have hmx : 140737488355328 ≤ maxLen := by decide
 intro m
 induction m with
 | zero =>
  intro i bn g hi hb hg
  obtain rfl : i = 3 := by omega
  apply r34_0
  refine ⟨fun h => by have := of_decide_eq_true h; omega, fun _ => ⟨⟨by omega, by omega, by rw [Int.toNat_natCast]; omega, .inl rfl⟩, by omega, ?_⟩⟩
  have e : ((n : Int) - 0).toNat = n := by omega
  rw [e]
  refine Sub.vec (by omega) (by omega) fun j hj => ?_
  rw [hg j (by omega)]
 | succ m ih =>
  intro i bn g hi hb hg
  apply r34_0
  rw [wrapSucc (by omega), wrap7 (by omega)]
  refine ⟨fun _ => ⟨⟨hb, by omega, by omega⟩, ih (i + 1) (n + i + 1) _ (by omega) (by omega) fun j hj => ?_⟩, fun h => by have := of_decide_eq_false h; omega⟩
  by_cases he : j < n + i
  ·rw [row_bltI' he, hg j he]
  ·rw [row_endI' he]
   obtain rfl : j = n + i := by omega
   unfold twF
   rw [if_neg (by omega)]
   congr 1
   omega
theorem twinInts_ok (n : Nat) (f : Nat → Int) (hn : n ≤ 1000000) : Ok Proofs.Try.prog 34 [rowA n f] [] (twA false n f) [] := by
 refine o34 _ _ _ ⟨rfl, fun _ _ => trivial⟩ ?_
 apply r34_e
 have hmx : 140737488355328 ≤ maxLen := by decide
 refine ⟨⟨by omega, by omega⟩, ?_⟩
 have := twin_loop n f hn 3 0 n (fun i => f (i - 0)) (by omega) (by omega) (fun j hj => by rw [twF_lt (show j < n by omega)]; rfl)
 rw [Nat.zero_add]
 exact this
theorem left_loop (n : Nat) (f : Nat → Int) (hn : n ≤ 1000000) : ∀ (m i : Nat), i + m = 3 → L35_0 n f (n + 3) (twF n f) (i : Int) (.sc (.bool true)) := by
 intro m
 induction m with
 | zero =>
  intro i hi
  apply r35_0
  exact ⟨fun h => by have := of_decide_eq_true h; omega, fun _ => Sub.refl _⟩
 | succ m ih =>
  intro i hi
  apply r35_0
  have e : twF n f (n + i) = -7000 - (i : Int) := by
   unfold twF
   rw [if_neg (by omega)]
   congr 1
   omega
  rw [wrapSucc (n := i) (by omega), wrap7 (by omega), wrapAdd (by omega)]
  simp only [Int.toNat_natCast, e]
  refine ⟨fun _ => ⟨⟨by omega, by omega⟩, fun h => ?_, fun _ => ih (i + 1) (by omega)⟩, fun h => by have := of_decide_eq_false h; omega⟩
  exfalso
  simp at h
theorem leftInts_ok (n : Nat) (f : Nat → Int) (hn : n ≤ 1000000) : Ok Proofs.Try.prog 35 [twA true n f, rowA n f] [] (.sc (.bool true)) [] := by
 refine o35 _ _ _ _ _ _ trivial ?_
 apply r35_e
 have hs := sameInts_true n (twF n f) f (fun i hi => twF_lt hi)
 have ew : IntKind.i64.wrap ((n : Int) + 3) = ((n + 3 : Nat) : Int) := by rw [wrap_i64 (by omega) (by omega)]; rfl
 simp only [ew]
 have e : (((n + 3 : Nat) : Int) - 0).toNat = n + 3 := by omega
 rw [e]
 refine ⟨true, Ok.args (ys := [rowA n (twF n f), rowA n f]) ⟨Sub.vec (Nat.le_refl _) (by omega) (fun _ _ => rfl), Sub.refl _, trivial⟩ hs, fun _ => ⟨by omega, ⟨by omega, by omega⟩, ?_, ?_⟩, fun h => by cases h⟩
 ·refine Sub.vec (Nat.le_refl _) (by omega) fun j hj => ?_
  rfl
 ·exact left_loop n f hn 3 0 (by omega)
def tnF (d : Dfa) (i : Nat) : Nat := if i < d.nk then d.ml i else 1
def tmF (d : Dfa) (i : Nat) : Nat := if i < d.nk then d.ml i + 3 else 1
def tfF (d : Dfa) (i : Nat) : Nat → Int := if i < d.nk then twF (d.ml i) (d.nx i) else fun _ => -7000 - ((i - d.nk : Nat) : Int)
abbrev twD (g : Bool) (d : Dfa) : AV := .cons 1 (.sc (.int .i64 d.st)) (.cons 256 (.ar 256 1 (fun b => .sc (.int .u8 (d.cl b : Int)))) (.cons 1 (.vec g 1 d.nk (d.nk + 3) (fun i => .vec g 1 (tnF d i) (tmF d i) (fun c => .sc (.int .i64 (tfF d i c))))) (.cons 1 (twA g d.rk d.ru) .nil)))
def smallD (d : Dfa) : Prop := d.nk ≤ 1000000 ∧ d.rk ≤ 1000000 ∧ ∀ i, i < d.nk → d.ml i ≤ 1000000
theorem tw_loop2 (d : Dfa) (hd : smallD d) (a : Int) (ca : Nat → Int) : ∀ (m i bn : Nat) (fn fm : Nat → Nat) (ff : Nat → Nat → Int), i + m = 3 → d.nk + i ≤ bn → (∀ j, j < d.nk + i → fn j = tnF d j ∧ fm j = tmF d j ∧ ff j = tfF d j) →
  L13_1 (d.nk + i) (i : Int) d.st (fun b => (d.cl b : Int)) d.nk d.ml d.nx d.rk d.ru a ca bn fn fm ff (twD false d) := by
 have hmx : 140737488355328 ≤ maxLen := by decide
 intro m
 induction m with
 | zero =>
  intro i bn fn fm ff hi hb hg
  obtain rfl : i = 3 := by omega
  apply r13_1
  have h1 := hd.1
  have e : ((d.nk : Int) - 0).toNat = d.nk := by omega
  simp only [e, Int.toNat_natCast]
  refine ⟨fun h => by have := of_decide_eq_true h; omega, fun _ => ⟨⟨by omega, by omega, by omega, .inl trivial⟩, (d.rk, d.rk + 3, twF d.rk d.ru), twinInts_ok d.rk d.ru hd.2.1, by omega, ?_⟩⟩
  refine Sub.of_R (RSub.cons (RSub.refl _) (RSub.cons (RSub.refl _) (RSub.cons (RSub.vec id (by omega) (by omega) fun j hj => RSub.of_eq ?_) (RSub.refl _)))) rfl trivial trivial
  obtain ⟨g1, g2, g3⟩ := hg j (by omega)
  have e3 : plus 0 j = j := rfl
  simp only [g1, g2, g3]
 | succ m ih =>
  intro i bn fn fm ff hi hb hg
  have h1 := hd.1
  apply r13_1
  rw [wrapSucc (n := i) (by omega)]
  simp only [wrap7 (show i < 3 by omega)]
  refine ⟨fun _ => ⟨⟨hb, by omega, by omega⟩, SubB.refl _, ?_⟩, fun h => by have := of_decide_eq_false h; omega⟩
  have := ih (i + 1) (d.nk + i + 1) (fun j => bif Nat.blt j (d.nk + i) then fn j else 1) (fun j => bif Nat.blt j (d.nk + i) then fm j else 1) (fun j c => bif Nat.blt j (d.nk + i) then ff j c else -7000 - (i : Int)) (by omega) (by omega) (fun j hj => ?_)
  ·exact this
  ·by_cases he : j < d.nk + i
   ·obtain ⟨g1, g2, g3⟩ := hg j he
    refine ⟨by rw [row_bltI' he, g1], by rw [row_bltI' he, g2], ?_⟩
    funext c
    rw [row_bltI' (f := fun j => ff j c) he, ← g3]
   ·obtain rfl : j = d.nk + i := by omega
    refine ⟨by rw [row_endI' he]; unfold tnF; rw [if_neg (by omega)], by rw [row_endI' he]; unfold tmF; rw [if_neg (by omega)], ?_⟩
    funext c
    rw [row_endI' (f := fun j => ff j c) he]
    unfold tfF
    rw [if_neg (by omega)]
    congr 1
    omega
theorem tw_loop1 (d : Dfa) (hd : smallD d) (a : Int) (ca : Nat → Int) : ∀ (m i bn : Nat) (fn fm : Nat → Nat) (ff : Nat → Nat → Int), i + m = d.nk → i ≤ bn → (∀ j, j < i → fn j = tnF d j ∧ fm j = tmF d j ∧ ff j = tfF d j) →
  L13_0 i (i : Int) d.st (fun b => (d.cl b : Int)) d.nk d.ml d.nx d.rk d.ru a ca bn fn fm ff (twD false d) := by
 have hmx : 140737488355328 ≤ maxLen := by decide
 intro m
 induction m with
 | zero =>
  intro i bn fn fm ff hi hb hg
  obtain rfl : i = d.nk := by omega
  apply r13_0
  exact ⟨fun h => by have := of_decide_eq_true h; omega, fun _ => tw_loop2 d hd a ca 3 0 bn fn fm ff (by omega) hb hg⟩
 | succ m ih =>
  intro i bn fn fm ff hi hb hg
  have h1 := hd.1
  apply r13_0
  rw [wrapSucc (n := i) (by omega)]
  simp only [Int.toNat_natCast]
  refine ⟨fun _ => ⟨⟨by omega, by omega⟩, (d.ml i, d.ml i + 3, twF (d.ml i) (d.nx i)), twinInts_ok (d.ml i) (d.nx i) (hd.2.2 i (by omega)), ⟨hb, by omega, by omega⟩, ?_⟩, fun h => by have := of_decide_eq_false h; omega⟩
  refine ih (i + 1) (i + 1) _ _ _ (by omega) (by omega) fun j hj => ?_
  by_cases he : j < i
  ·obtain ⟨g1, g2, g3⟩ := hg j he
   refine ⟨by rw [row_bltI' he, g1], by rw [row_bltI' he, g2], ?_⟩
   funext c
   dsimp only
   rw [row_bltI' (f := fun j => ff j c) he, ← g3]
  ·obtain rfl : j = i := by omega
   refine ⟨by rw [row_endI' he]; unfold tnF; rw [if_pos (by omega)], by rw [row_endI' he]; unfold tmF; rw [if_pos (by omega)], ?_⟩
   funext c
   dsimp only
   rw [row_endI' (f := fun j => ff j c) he]
   unfold tfF
   rw [if_pos (by omega)]
theorem twinDfa_ok (d : Dfa) (hd : smallD d) : Ok Proofs.Try.prog 13 [dfaA d] [] (twD false d) [] := by
 refine o13 _ _ _ _ _ _ _ _ ⟨trivial, fun _ _ => trivial, ⟨rfl, fun _ _ => ⟨rfl, fun _ _ => trivial⟩⟩, ⟨rfl, fun _ _ => trivial⟩, trivial⟩ ?_
 apply r13_e
 exact tw_loop1 d hd 0 (fun _ => 0) d.nk 0 0 _ _ _ (by omega) (by omega) (fun j hj => by omega)
theorem twD_sub (d : Dfa) : Sub (twD true d) (dfaA d) := by
 refine Sub.of_R (RSub.cons (RSub.refl _) (RSub.cons (RSub.refl _) (RSub.cons (RSub.vec id (Nat.le_refl _) (by omega) fun i hi => ?_) (RSub.cons (RSub.vec id (Nat.le_refl _) (by omega) fun j hj => RSub.of_eq ?_) (RSub.refl _))))) rfl trivial trivial
 ·unfold tnF tmF tfF
  rw [if_pos hi, if_pos hi, if_pos hi]
  exact RSub.vec id (Nat.le_refl _) (by omega) fun j hj => RSub.of_eq (by rw [twF_lt hj])
 ·rw [twF_lt hj]
theorem sameDfa_loop (d : Dfa) (hn : d.nk ≤ 9223372036854775807) : ∀ m i, i + m = d.nk →
  L20_0 (i : Int) d.st (fun b => (d.cl b : Int)) d.nk d.ml d.nx d.rk d.ru d.st (fun b => (d.cl b : Int)) d.nk d.ml d.nx d.rk d.ru (.sc (.bool true)) := by
 intro m
 induction m with
 | zero =>
  intro i hi
  apply r20_0
  exact ⟨fun h => by have := of_decide_eq_true h; omega, fun _ => Sub.refl _⟩
 | succ m ih =>
  intro i hi
  apply r20_0
  rw [wrapSucc (by omega)]
  simp only [Int.toNat_natCast]
  exact ⟨fun _ => ⟨⟨by omega, by omega⟩, ⟨by omega, by omega⟩, true, sameInts_true _ _ _ (fun _ _ => rfl), fun h => (by cases h), fun _ => ih (i + 1) (by omega)⟩, fun h => by have := of_decide_eq_false h; omega⟩
theorem sameDfa_true (d : Dfa) : Ok Proofs.Try.prog 20 [dfaA d, dfaA d] [] (.sc (.bool true)) [] := by
 refine o20 _ _ _ _ _ _ _ _ _ _ _ _ _ _ _ trivial ?_
 apply a20_e
 intro hf
 have hn : d.nk ≤ 9223372036854775807 := (hf 0).2.2.1.1
 apply r20_e
 refine ⟨fun _ => ⟨fun _ _ => ⟨rfl, rfl⟩, fun _ => ⟨fun _ => ⟨true, sameInts_true _ _ _ (fun _ _ => rfl), fun h => (by cases h), fun _ => sameDfa_loop d hn d.nk 0 (by omega)⟩, fun h => ?_⟩, fun h => ?_⟩, fun h => ?_⟩
 ·exfalso; simp at h
 ·exfalso
  have h : cdec (∀ i, i < 256 → ((d.cl i : Nat) : Int) = ((d.cl i : Nat) : Int)) = false := by simpa using h
  exact cdec_false.1 h fun i hi => rfl
 ·exfalso; simp at h
theorem leftD_loop1 (d : Dfa) (hd : smallD d) : ∀ (m i : Nat), i + m = d.nk →
  L15_1 (i : Int) d.st (fun b => (d.cl b : Int)) d.nk (d.nk + 3) (tnF d) (tmF d) (tfF d) d.rk (d.rk + 3) (twF d.rk d.ru) d.st (fun b => (d.cl b : Int)) d.nk d.ml d.nx d.rk d.ru (.sc (.bool true)) := by
 have h1 := hd.1
 intro m
 induction m with
 | zero =>
  intro i hi
  apply r15_1
  exact ⟨fun h => by have := of_decide_eq_true h; omega, fun _ => Sub.refl _⟩
 | succ m ih =>
  intro i hi
  apply r15_1
  rw [wrapSucc (n := i) (by omega)]
  simp only [Int.toNat_natCast]
  have e1 : tnF d i = d.ml i := by unfold tnF; rw [if_pos (by omega)]
  have e2 : tmF d i = d.ml i + 3 := by unfold tmF; rw [if_pos (by omega)]
  have e3 : tfF d i = twF (d.ml i) (d.nx i) := by unfold tfF; rw [if_pos (by omega)]
  simp only [e1, e2, e3]
  exact ⟨fun _ => ⟨⟨by omega, by omega⟩, ⟨by omega, by omega⟩, true, leftInts_ok _ _ (hd.2.2 i (by omega)), fun h => (by cases h), fun _ => ih (i + 1) (by omega)⟩, fun h => by have := of_decide_eq_false h; omega⟩
theorem leftD_loop0 (d : Dfa) (hd : smallD d) : ∀ (m i : Nat), i + m = 3 →
  L15_0 (d.nk + 3) (d.nk + 3) (tnF d) (tmF d) (tfF d) (i : Int) d.st (fun b => (d.cl b : Int)) d.nk (d.nk + 3) (tnF d) (tmF d) (tfF d) d.rk (d.rk + 3) (twF d.rk d.ru) d.st (fun b => (d.cl b : Int)) d.nk d.ml d.nx d.rk d.ru (.sc (.bool true)) := by
 have h1 := hd.1
 intro m
 induction m with
 | zero =>
  intro i hi
  apply r15_0
  exact ⟨fun h => by have := of_decide_eq_true h; omega, fun _ => leftD_loop1 d hd d.nk 0 (by omega)⟩
 | succ m ih =>
  intro i hi
  apply r15_0
  rw [wrapSucc (n := i) (by omega)]
  simp only [wrap7 (show i < 3 by omega), wrapAdd (show d.nk + i ≤ 9223372036854775807 by omega), Int.toNat_natCast]
  have e1 : tnF d (d.nk + i) = 1 := by unfold tnF; rw [if_neg (by omega)]
  have e2 : tmF d (d.nk + i) = 1 := by unfold tmF; rw [if_neg (by omega)]
  have e3 : tfF d (d.nk + i) = fun _ => -7000 - (i : Int) := by
   unfold tfF; rw [if_neg (by omega)]; funext c; congr 1; omega
  simp only [e1, e2, e3]
  exact ⟨fun _ => ⟨⟨by omega, by omega⟩, true, sameInts_true 1 (fun _ => -7000 - (i : Int)) (fun _ => -7000 - (i : Int)) (fun _ _ => rfl), fun h => (by cases h), fun _ => ih (i + 1) (by omega)⟩, fun h => by have := of_decide_eq_false h; omega⟩
theorem leftDfa_ok (d : Dfa) (hd : smallD d) : Ok Proofs.Try.prog 15 [twD true d, dfaA d] [] (.sc (.bool true)) [] := by
 have h1 := hd.1
 refine o15 _ _ _ _ _ _ _ _ _ _ _ _ _ _ _ _ _ _ trivial ?_
 apply r15_e
 have ew : IntKind.i64.wrap ((d.nk : Int) + 3) = ((d.nk + 3 : Nat) : Int) := by rw [wrap_i64 (by omega) (by omega)]; rfl
 have e : (((d.nk + 3 : Nat) : Int) - 0).toNat = d.nk + 3 := by omega
 simp only [ew, e]
 refine ⟨true, Ok.args (ys := [dfaA d, dfaA d]) ⟨twD_sub d, Sub.refl _, trivial⟩ (sameDfa_true d), fun _ => ⟨by omega, true, leftInts_ok d.rk d.ru hd.2.1, fun h => (by cases h), fun _ => ⟨⟨by omega, by omega⟩, ?_⟩⟩, fun h => by cases h⟩
 exact leftD_loop0 d hd 3 0 (by omega)
end Go.Am.Seat
end

section
/-! Machine: sets of spans, the chapter's automaton A. -/
namespace Go.Am.Seat
open Go Go.Am
set_option linter.unusedVariables false

theorem word_put (p : Nat → Bool) (b : Nat) : word p (b / 64) ||| 2 ^ (b % 64) = word (fun c => p c || c == b) (b / 64) := by
 apply Nat.eq_of_testBit_eq
 intro k
 unfold word
 rw [Nat.testBit_or, ofB_testBit, ofB_testBit, Nat.testBit_two_pow]
 by_cases hk : k < 64
 ·simp only [hk, decide_true, Bool.true_and]
  congr 1
  rw [Bool.eq_iff_iff]
  simp
  omega
 ·simp [hk]; omega
theorem word_off (p : Nat → Bool) {b i : Nat} (he : i ≠ b / 64) : word p i = word (fun c => p c || c == b) i := by
 unfold word
 refine ofB_congr fun k hk => ?_
 have : (64 * i + k == b) = false := by simp; omega
 simp [this]
def spanB (a b : Nat) (c : Nat) : Bool := decide (a ≤ c) && decide (c ≤ b)
theorem idiv {b : Nat} (hb : b < 256) : IntKind.i64.wrap (((b : Nat) : Int).tdiv 64) = ((b / 64 : Nat) : Int) := by
 rw [Int.tdiv_eq_ediv_of_nonneg (by omega), wrap_i64 (by omega) (by omega)]; rfl
theorem span_loop (a b : Nat) (hb : b < 256) : ∀ (m c : Nat) (f g : Nat → Int), (c + m = b + 1 ∨ (m = 0 ∧ b < c)) → (a ≤ c) → (∀ i, i < 4 → g i = ((word (fun x => decide (a ≤ x) && decide (x < c)) i : Nat) : Int)) → (b < c → ∀ i, i < 4 → word (fun x => decide (a ≤ x) && decide (x < c)) i = word (spanB a b) i) →
  L59_0 (b : Int) (c : Int) f g (setA (spanB a b)) := by
 intro m
 induction m with
 | zero =>
  intro c f g hc ha hg he
  apply r59_0
  rw [wrap_i64 (n := (b : Int)) (by omega) (by omega)]
  refine ⟨fun h => by have := of_decide_eq_true h; omega, fun _ => Sub.ar fun i hi => ?_⟩
  rw [hg i hi, he (by omega) i hi]
 | succ m ih =>
  intro c f g hc ha hg he
  have hcb : c ≤ b := by omega
  have hl : 2 ^ (c % 64) < 18446744073709551616 := Nat.lt_of_lt_of_le (Nat.pow_lt_pow_right (by omega) (show c % 64 < 64 by omega)) (by decide)
  have h1 : IntKind.u64.wrap (1 * 2 ^ min (c % 64) IntKind.u64.bits) = ((2 ^ (c % 64) : Nat) : Int) := by
   have hm : min (c % 64) IntKind.u64.bits = c % 64 := Nat.min_eq_left (show c % 64 ≤ 64 by omega)
   rw [hm, Int.one_mul, show ((2 : Int) ^ (c % 64)) = ((2 ^ (c % 64) : Nat) : Int) by rw [Int.natCast_pow]; rfl]
   exact wrap_u64 (Int.natCast_nonneg _) (Int.ofNat_lt.2 hl)
  have h2 := hg (c / 64) (by omega)
  apply r59_0
  simp only [idiv (show c < 256 by omega), imod, Int.toNat_natCast, h1, h2, or64 (word_lt _ _) hl, word_put]
  rw [wrap_i64 (n := (b : Int)) (by omega) (by omega), wrapSucc (n := c) (by omega)]
  refine ⟨fun _ => ⟨⟨by omega, by omega⟩, by omega, by omega, ?_⟩, fun h => by have := of_decide_eq_false h; omega⟩
  have hw : ∀ i, word (fun x => (decide (a ≤ x) && decide (x < c)) || x == c) i = word (fun x => decide (a ≤ x) && decide (x < c + 1)) i := fun i => by
   unfold word
   refine ofB_congr fun k hk => ?_
   rw [Bool.eq_iff_iff]
   simp
   omega
  refine ih (c + 1) f _ (by omega) (by omega) (fun i hi => ?_) (fun hbc i hi => ?_)
  ·rw [bifBeq]
   split
   ·rename_i e; rw [e, hw]
   ·rename_i e; rw [hg i hi, word_off _ e, hw]
  ·unfold word
   refine ofB_congr fun k hk => ?_
   unfold spanB
   rw [Bool.eq_iff_iff]
   simp
   omega
theorem span_ok (a b : Nat) (ha : a < 256) (hb : b < 256) (hab : a ≤ b) : Ok Proofs.Try.prog 59 [.sc (.int .u8 (a : Int)), .sc (.int .u8 (b : Int))] [] (setA (spanB a b)) [] := by
 refine o59 _ _ _ (fun _ _ => trivial) ?_
 apply r59_e
 rw [wrap_i64 (by omega) (by omega)]
 refine span_loop a b hb (b + 1 - a) a _ _ (by omega) (Nat.le_refl _) (fun i hi => ?_) (fun h => by omega)
 have : word (fun x => decide (a ≤ x) && decide (x < a)) i = word (fun _ => false) i := by
  unfold word
  refine ofB_congr fun k hk => ?_
  rw [Bool.eq_iff_iff]
  simp
 rw [this]
 have h0 : ∀ n, ofB n (fun _ => false) = 0 := fun n => by
  induction n with
  | zero => rfl
  | succ n ih => simp [ofB, ih]
 unfold word
 rw [h0]
 rfl
def kN : Nfa where
 st := 0
 n := 6
 set := fun i b => if i = 1 then spanB 105 105 b else if i = 2 then spanB 102 102 b else if i = 4 then spanB 97 122 b else false
 to := fun i => ([-1, 2, 3, -1, 5, -1] : List Int).getD i 0
 fn := fun i => ([2, 0, 0, 0, 0, 1] : List Nat).getD i 0
 fr := fun i j => (([[1, 4], [], [], [], [], [4]] : List (List Int)).getD i []).getD j 0
 ru := fun i => ([-1, -1, -1, 0, -1, 1] : List Int).getD i 0
theorem word_none (i : Nat) : word (fun _ => false) i = 0 := by
 have h0 : ∀ n, ofB n (fun _ => false) = 0 := fun n => by
  induction n with
  | zero => rfl
  | succ n ih => simp [ofB, ih]
 unfold word
 exact h0 64
theorem known_ok : Ok Proofs.Try.prog 32 [] [] (nfaA false kN) [] := by
 refine o32 _ ⟨trivial, ⟨rfl, fun _ _ => ⟨fun _ _ => trivial, trivial, ⟨rfl, fun _ _ => trivial⟩, trivial, trivial⟩⟩, trivial⟩ ?_
 apply r32_e
 have hset : ∀ (f : Nat → Int) (p : Nat → Bool), (∀ k, f k = ((word p k : Nat) : Int)) → RSub (.ar 4 1 (fun k => .sc (.int .u64 (f k)))) (setA p) := fun f p h => RSub.ar fun k hk => RSub.of_eq (by rw [h k])
 have e0 : ∀ k, (0 : Int) = ((word (fun _ => false) k : Nat) : Int) := fun k => by rw [word_none]; rfl
 refine ⟨_, span_ok 105 105 (by omega) (by omega) (by omega), _, span_ok 102 102 (by omega) (by omega) (by omega), _, span_ok 97 122 (by omega) (by omega) (by omega), ?_⟩
 refine Sub.of_R (RSub.cons (RSub.refl _) (RSub.cons (RSub.vec id (Nat.le_refl _) (Nat.le_refl _) fun i hi => ?_) (RSub.refl _))) rfl trivial trivial
 have hi : i < 6 := hi
 have rw2 : ∀ f : Nat → Int, f 0 = 1 → f 1 = 4 → RSub (.vec false 1 2 2 (fun j => .sc (.int .i64 (f j)))) (.vec false 1 2 2 (fun j => .sc (.int .i64 (kN.fr 0 j)))) := fun f h0 h1 =>
  RSub.vec id (Nat.le_refl _) (Nat.le_refl _) fun j hj => RSub.of_eq (by
   rcases (show j = 0 ∨ j = 1 by omega) with rfl | rfl
   ·rw [h0]; rfl
   ·rw [h1]; rfl)
 have rw1 : ∀ f : Nat → Int, f 0 = 4 → RSub (.vec false 1 1 1 (fun j => .sc (.int .i64 (f j)))) (.vec false 1 1 1 (fun j => .sc (.int .i64 (kN.fr 5 j)))) := fun f h0 =>
  RSub.vec id (Nat.le_refl _) (Nat.le_refl _) fun j hj => RSub.of_eq (by
   obtain rfl : j = 0 := by omega
   rw [h0]; rfl)
 rcases (show i = 0 ∨ i = 1 ∨ i = 2 ∨ i = 3 ∨ i = 4 ∨ i = 5 by omega) with rfl | rfl | rfl | rfl | rfl | rfl
 ·exact RSub.cons (hset _ _ e0) (RSub.cons (RSub.refl _) (RSub.cons (rw2 _ rfl rfl) (RSub.cons (RSub.refl _) (RSub.refl _))))
 ·exact RSub.cons (hset _ _ fun k => rfl) (RSub.cons (RSub.refl _) (RSub.cons RSub.nilvec (RSub.cons (RSub.refl _) (RSub.refl _))))
 ·exact RSub.cons (hset _ _ fun k => rfl) (RSub.cons (RSub.refl _) (RSub.cons RSub.nilvec (RSub.cons (RSub.refl _) (RSub.refl _))))
 ·exact RSub.cons (hset _ _ e0) (RSub.cons (RSub.refl _) (RSub.cons RSub.nilvec (RSub.cons (RSub.refl _) (RSub.refl _))))
 ·exact RSub.cons (hset _ _ fun k => rfl) (RSub.cons (RSub.refl _) (RSub.cons RSub.nilvec (RSub.cons (RSub.refl _) (RSub.refl _))))
 ·exact RSub.cons (hset _ _ e0) (RSub.cons (RSub.refl _) (RSub.cons (rw1 _ rfl) (RSub.cons (RSub.refl _) (RSub.refl _))))
end Go.Am.Seat
end

section
/-! Plain law: the automaton without choice of the chapter's automaton A. -/
namespace Go.Am.Seat
open Go Go.Am
set_option linter.unusedVariables false

def kX : Dfa where
 st := 0
 cl := fun b => if b = 102 then 2 else if b = 105 then 3 else if 97 ≤ b ∧ b ≤ 122 then 1 else 0
 nk := 4
 ml := fun _ => 4
 nx := fun i c => (([[-1, 1, 1, 2], [-1, 1, 1, 1], [-1, 1, 3, 1], [-1, 1, 1, 1]] : List (List Int)).getD i []).getD c 0
 rk := 4
 ru := fun i => ([-1, 1, 1, 0] : List Int).getD i 0
def kL (i : Nat) : List Nat := ([[0, 1, 4], [4, 5], [2, 4, 5], [3, 4, 5]] : List (List Nat)).getD i []
theorem kN_valid : kN.valid := by
 refine ⟨by decide, by decide, fun i hi => ?_⟩
 have hi : i < 6 := hi
 rcases (show i = 0 ∨ i = 1 ∨ i = 2 ∨ i = 3 ∨ i = 4 ∨ i = 5 by omega) with rfl | rfl | rfl | rfl | rfl | rfl
 all_goals
  refine ⟨by decide, by decide, fun j hj => ?_⟩
 ·have hj : j < 2 := hj
  rcases (show j = 0 ∨ j = 1 by omega) with rfl | rfl <;> decide
 ·have hj : j < 0 := hj; omega
 ·have hj : j < 0 := hj; omega
 ·have hj : j < 0 := hj; omega
 ·have hj : j < 0 := hj; omega
 ·have hj : j < 1 := hj
  obtain rfl : j = 0 := by omega
  decide
theorem kN_err : kN.err = 0 := by
 rw [nErr_zero]
 exact ⟨by decide, kN_valid⟩
theorem kN_clos {l c : List Nat} (h1 : c.Pairwise (· < ·)) (h2 : ∀ s ∈ l, s ∈ c) (h3 : ∀ s ∈ c, s ∈ l ∨ (s = 1 ∧ 0 ∈ l) ∨ (s = 4 ∧ (0 ∈ l ∨ 5 ∈ l))) (h4 : 0 ∈ c → 1 ∈ c ∧ 4 ∈ c) (h5 : 5 ∈ c → 4 ∈ c) (hl : ∀ s ∈ l, s < 6) : clos kN l = c := by
 refine (IsClos.eq (N := kN) kN_valid hl ⟨h1, fun s => ⟨fun hs => ?_, fun hs => ?_⟩⟩).symm
 ·rcases h3 s hs with h | ⟨rfl, h⟩ | ⟨rfl, h | h⟩
  ·exact .base h
  ·exact FreeR.step (s := 0) (j := 0) (.base h) (by decide)
  ·exact FreeR.step (s := 0) (j := 1) (.base h) (by decide)
  ·exact FreeR.step (s := 5) (j := 0) (.base h) (by decide)
 ·induction hs with
  | base h => exact h2 _ h
  | @step s j hs hj ih =>
   have hs6 : s < 6 := hs.lt kN_valid hl
   rcases (show s = 0 ∨ s = 1 ∨ s = 2 ∨ s = 3 ∨ s = 4 ∨ s = 5 by omega) with rfl | rfl | rfl | rfl | rfl | rfl
   ·have hj : j < 2 := hj
    rcases (show j = 0 ∨ j = 1 by omega) with rfl | rfl
    ·exact (h4 ih).1
    ·exact (h4 ih).2
   ·have hj : j < 0 := hj; omega
   ·have hj : j < 0 := hj; omega
   ·have hj : j < 0 := hj; omega
   ·have hj : j < 0 := hj; omega
   ·have hj : j < 1 := hj
    obtain rfl : j = 0 := by omega
    exact h5 ih
theorem kC0 : clos kN [0] = [0, 1, 4] := kN_clos (by decide) (by decide) (by decide) (by decide) (by decide) (by decide)
theorem kC5 : clos kN [5] = [4, 5] := kN_clos (by decide) (by decide) (by decide) (by decide) (by decide) (by decide)
theorem kC25 : clos kN [2, 5] = [2, 4, 5] := kN_clos (by decide) (by decide) (by decide) (by decide) (by decide) (by decide)
theorem kC35 : clos kN [3, 5] = [3, 4, 5] := kN_clos (by decide) (by decide) (by decide) (by decide) (by decide) (by decide)
theorem kCn : clos kN [] = [] := kN_clos (by decide) (by decide) (by decide) (by decide) (by decide) (by decide)
theorem kset1 (b : Nat) : kN.set 1 b = decide (b = 105) := by
 show spanB 105 105 b = _
 unfold spanB
 rw [Bool.eq_iff_iff]; simp; omega
theorem kset2 (b : Nat) : kN.set 2 b = decide (b = 102) := by
 show spanB 102 102 b = _
 unfold spanB
 rw [Bool.eq_iff_iff]; simp; omega
theorem kset4 (b : Nat) : kN.set 4 b = decide (97 ≤ b ∧ b ≤ 122) := by
 show spanB 97 122 b = _
 unfold spanB
 rw [Bool.eq_iff_iff]; simp
theorem kTo : kN.to 0 = -1 ∧ kN.to 1 = 2 ∧ kN.to 2 = 3 ∧ kN.to 3 = -1 ∧ kN.to 4 = 5 ∧ kN.to 5 = -1 := by decide
theorem k_tr (n b : Nat) (hn : n < 4) : trL kN (kL n) b = if kX.cl b = 0 then [] else kL (kX.nx n (kX.cl b)).toNat := by
 obtain ⟨t0, t1, t2, t3, t4, t5⟩ := kTo
 have s1 := kset1 b
 have s2 := kset2 b
 have s4 := kset4 b
 unfold trL
 by_cases h102 : b = 102
 ·subst h102
  have e : kX.cl 102 = 2 := rfl
  rw [e, if_neg (by decide)]
  rcases (show n = 0 ∨ n = 1 ∨ n = 2 ∨ n = 3 by omega) with rfl | rfl | rfl | rfl
  ·exact kC5
  ·exact kC5
  ·exact kC35
  ·exact kC5
 ·by_cases h105 : b = 105
  ·subst h105
   have e : kX.cl 105 = 3 := rfl
   rw [e, if_neg (by decide)]
   rcases (show n = 0 ∨ n = 1 ∨ n = 2 ∨ n = 3 by omega) with rfl | rfl | rfl | rfl
   ·exact kC25
   ·exact kC5
   ·exact kC5
   ·exact kC5
  ·by_cases haz : 97 ≤ b ∧ b ≤ 122
   ·have e : kX.cl b = 1 := by show (if b = 102 then 2 else if b = 105 then 3 else if 97 ≤ b ∧ b ≤ 122 then 1 else 0) = 1; rw [if_neg h102, if_neg h105, if_pos haz]
    rw [e, if_neg (by decide)]
    rw [decide_eq_false h105] at s1
    rw [decide_eq_false h102] at s2
    rw [decide_eq_true haz] at s4
    rcases (show n = 0 ∨ n = 1 ∨ n = 2 ∨ n = 3 by omega) with rfl | rfl | rfl | rfl
    ·have : stepL kN (kL 0) b = [5] := by show stepL kN [0, 1, 4] b = [5]; simp [stepL, List.filter, t0, t1, t4, s1, s4]
     rw [this]; exact kC5
    ·have : stepL kN (kL 1) b = [5] := by show stepL kN [4, 5] b = [5]; simp [stepL, List.filter, t4, t5, s4]
     rw [this]; exact kC5
    ·have : stepL kN (kL 2) b = [5] := by show stepL kN [2, 4, 5] b = [5]; simp [stepL, List.filter, t2, t4, t5, s2, s4]
     rw [this]; exact kC5
    ·have : stepL kN (kL 3) b = [5] := by show stepL kN [3, 4, 5] b = [5]; simp [stepL, List.filter, t3, t4, t5, s4]
     rw [this]; exact kC5
   ·have e : kX.cl b = 0 := by show (if b = 102 then 2 else if b = 105 then 3 else if 97 ≤ b ∧ b ≤ 122 then 1 else 0) = 0; rw [if_neg h102, if_neg h105, if_neg haz]
    rw [if_pos e]
    rw [decide_eq_false h105] at s1
    rw [decide_eq_false h102] at s2
    rw [decide_eq_false haz] at s4
    rcases (show n = 0 ∨ n = 1 ∨ n = 2 ∨ n = 3 by omega) with rfl | rfl | rfl | rfl
    ·have : stepL kN (kL 0) b = [] := by show stepL kN [0, 1, 4] b = []; simp [stepL, List.filter, t0, t1, t4, s1, s4]
     rw [this]; exact kCn
    ·have : stepL kN (kL 1) b = [] := by show stepL kN [4, 5] b = []; simp [stepL, List.filter, t4, t5, s4]
     rw [this]; exact kCn
    ·have : stepL kN (kL 2) b = [] := by show stepL kN [2, 4, 5] b = []; simp [stepL, List.filter, t2, t4, t5, s2, s4]
     rw [this]; exact kCn
    ·have : stepL kN (kL 3) b = [] := by show stepL kN [3, 4, 5] b = []; simp [stepL, List.filter, t3, t4, t5, s4]
     rw [this]; exact kCn
theorem kX_cl (b : Nat) : kX.cl b < 4 := by
 show (if b = 102 then 2 else if b = 105 then 3 else if 97 ≤ b ∧ b ≤ 122 then 1 else 0) < 4
 split
 ·omega
 ·split
  ·omega
  ·split <;> omega
theorem k5 : LiveN kN 5 := .rule (by decide)
theorem kX_nx0 {n : Nat} (hn : n < 4) : kX.nx n 0 = -1 := by
 rcases (show n = 0 ∨ n = 1 ∨ n = 2 ∨ n = 3 by omega) with rfl | rfl | rfl | rfl <;> rfl
theorem kX_nx {n c : Nat} (hn : n < 4) (h0 : c ≠ 0) (hc : c < 4) : 1 ≤ kX.nx n c ∧ kX.nx n c < 4 := by
 rcases (show n = 0 ∨ n = 1 ∨ n = 2 ∨ n = 3 by omega) with rfl | rfl | rfl | rfl <;> rcases (show c = 1 ∨ c = 2 ∨ c = 3 by omega) with rfl | rfl | rfl <;> decide
theorem kL_al {m : Nat} (h0 : 0 < m) (hm : m < 4) : AlN kN (kL m) := by
 refine ⟨5, ?_, k5⟩
 rcases (show m = 1 ∨ m = 2 ∨ m = 3 by omega) with rfl | rfl | rfl <;> decide
theorem kX_is : IsDfa kN kX kL where
 st := rfl
 pos := by decide
 rk := rfl
 ml := fun _ _ => rfl
 zero := kC0.symm
 aliv := fun i h0 hi => kL_al h0 hi
 inj := fun i j hi hj he => by
  have hi : i < 4 := hi
  have hj : j < 4 := hj
  revert he
  rcases (show i = 0 ∨ i = 1 ∨ i = 2 ∨ i = 3 by omega) with rfl | rfl | rfl | rfl <;> rcases (show j = 0 ∨ j = 1 ∨ j = 2 ∨ j = 3 by omega) with rfl | rfl | rfl | rfl <;> decide
 rule := fun i hi => by
  have hi : i < 4 := hi
  rcases (show i = 0 ∨ i = 1 ∨ i = 2 ∨ i = 3 by omega) with rfl | rfl | rfl | rfl <;> decide
 cl := fun b _ => kX_cl b
 no := fun n b hn hb ha => by
  have hn : n < 4 := hn
  rw [k_tr n b hn] at ha
  by_cases h0 : kX.cl b = 0
  ·rw [h0]; exact kX_nx0 hn
  ·rw [if_neg h0] at ha
   have := kX_nx hn h0 (kX_cl b)
   exact absurd (kL_al (by omega) (by omega)) ha
 go := fun n b hn hb ha => by
  have hn : n < 4 := hn
  rw [k_tr n b hn] at ha ⊢
  by_cases h0 : kX.cl b = 0
  ·rw [if_pos h0] at ha
   obtain ⟨s, hs, _⟩ := ha
   cases hs
  ·rw [if_neg h0]
   have := kX_nx hn h0 (kX_cl b)
   exact ⟨(kX.nx n (kX.cl b)).toNat, by omega, by show _ < 4; omega, rfl⟩
 bfs := fun m h0 hm => by
  have hm : m < 4 := hm
  rcases (show m = 1 ∨ m = 2 ∨ m = 3 by omega) with rfl | rfl | rfl
  ·refine ⟨0, 97, by omega, by omega, rfl, fun n' b' hb' hB => ?_⟩
   unfold Before at hB
   obtain rfl : n' = 0 := by omega
   have e : kX.cl b' = 0 := by show (if b' = 102 then 2 else if b' = 105 then 3 else if 97 ≤ b' ∧ b' ≤ 122 then 1 else 0) = 0; rw [if_neg (by omega), if_neg (by omega), if_neg (by omega)]
   rw [e]; decide
  ·refine ⟨0, 105, by omega, by omega, rfl, fun n' b' hb' hB => ?_⟩
   unfold Before at hB
   obtain rfl : n' = 0 := by omega
   have e : kX.cl b' < 3 := by
    show (if b' = 102 then 2 else if b' = 105 then 3 else if 97 ≤ b' ∧ b' ≤ 122 then 1 else 0) < 3
    split
    ·omega
    ·rw [if_neg (by omega)]; split <;> omega
   rcases (show kX.cl b' = 0 ∨ kX.cl b' = 1 ∨ kX.cl b' = 2 by omega) with e | e | e <;> rw [e] <;> decide
  ·refine ⟨2, 102, by omega, by omega, rfl, fun n' b' hb' hB => ?_⟩
   have hcl := kX_cl b'
   by_cases h2 : n' = 2
   ·subst h2
    have e : kX.cl b' < 2 := by
     show (if b' = 102 then 2 else if b' = 105 then 3 else if 97 ≤ b' ∧ b' ≤ 122 then 1 else 0) < 2
     unfold Before at hB
     rw [if_neg (by omega), if_neg (by omega)]; split <;> omega
    rcases (show kX.cl b' = 0 ∨ kX.cl b' = 1 by omega) with e | e <;> rw [e] <;> decide
   ·have hn : n' = 0 ∨ n' = 1 := by unfold Before at hB; omega
    rcases hn with rfl | rfl <;> rcases (show kX.cl b' = 0 ∨ kX.cl b' = 1 ∨ kX.cl b' = 2 ∨ kX.cl b' = 3 by omega) with e | e | e | e <;> rw [e] <;> decide
 col := fun b b' hb hb' h => by
  have h1 := h 0 (by decide)
  have h2 := h 2 (by decide)
  have c1 := kX_cl b
  have c2 := kX_cl b'
  revert h1 h2
  rcases (show kX.cl b = 0 ∨ kX.cl b = 1 ∨ kX.cl b = 2 ∨ kX.cl b = 3 by omega) with e | e | e | e <;> rcases (show kX.cl b' = 0 ∨ kX.cl b' = 1 ∨ kX.cl b' = 2 ∨ kX.cl b' = 3 by omega) with e' | e' | e' | e' <;> rw [e, e'] <;> decide
 cls := fun c hc => by
  have hc : c < 4 := hc
  rcases (show c = 0 ∨ c = 1 ∨ c = 2 ∨ c = 3 by omega) with rfl | rfl | rfl | rfl
  ·exact ⟨0, by omega, rfl, fun b' hb' => by omega⟩
  ·refine ⟨97, by omega, rfl, fun b' hb' => ?_⟩
   show (if b' = 102 then 2 else if b' = 105 then 3 else if 97 ≤ b' ∧ b' ≤ 122 then 1 else 0) < 1
   rw [if_neg (by omega), if_neg (by omega), if_neg (by omega)]; omega
  ·refine ⟨102, by omega, rfl, fun b' hb' => ?_⟩
   show (if b' = 102 then 2 else if b' = 105 then 3 else if 97 ≤ b' ∧ b' ≤ 122 then 1 else 0) < 2
   rw [if_neg (by omega), if_neg (by omega)]; split <;> omega
  ·refine ⟨105, by omega, rfl, fun b' hb' => ?_⟩
   show (if b' = 102 then 2 else if b' = 105 then 3 else if 97 ≤ b' ∧ b' ≤ 122 then 1 else 0) < 3
   split
   ·omega
   ·rw [if_neg (by omega)]; split <;> omega
end Go.Am.Seat
end

section
/-! Machine: the document's answer of chapter 7. -/
namespace Go.Am.Seat
open Go Go.Am
set_option linter.unusedVariables false
theorem go_ok (d : Dfa) (hv : d.valid) (s : Int) (hs : s < (d.nk : Int)) (b : Nat) (hb : b < 256) : Ok Proofs.Try.prog 69 [dfaA d, .sc (.int .i64 s), .sc (.int .u8 (b : Int))] [] (.sc (.int .i64 (goS d s b))) [] := by
 refine o69 _ _ _ _ _ _ _ _ _ _ trivial ?_
 apply r69_e
 simp only [Int.toNat_natCast]
 unfold goS
 refine ⟨fun h => ?_, fun h => ?_⟩
 ·rw [if_pos (of_decide_eq_true h)]; exact Sub.refl _
 ·have h := of_decide_eq_false h
  rw [if_neg h]
  have hrow := hv.2.2.2.2.2.2.2.2 s.toNat (by omega)
  have hcl := hv.2.2.2.2.2.2.2.1 b hb
  refine ⟨⟨by omega, hs⟩, ⟨by omega, by omega⟩, hb, ⟨by omega, by omega⟩, fun h1 => ?_, fun h1 => ?_⟩
  ·rw [if_pos (of_decide_eq_true h1)]; exact Sub.refl _
  ·rw [if_neg (of_decide_eq_false h1)]; exact Sub.refl _
theorem goS_lt {d : Dfa} (hv : d.valid) {s : Int} (hs : s < (d.nk : Int)) {b : Nat} (hb : b < 256) : goS d s b < (d.nk : Int) := by
 unfold goS
 split
 ·omega
 ·rename_i h
  split
  ·omega
  ·exact (hv.2.2.2.2.2.2.2.2 s.toNat (by omega)).2.1 _ (hv.2.2.2.2.2.2.2.1 b hb)
theorem walkS_lt {d : Dfa} (hv : d.valid) : ∀ {l : List Nat} (hl : ∀ x ∈ l, x < 256) {s : Int}, s < (d.nk : Int) → walkS d s l < (d.nk : Int)
 | [], _, s, hs => hs
 | b :: l, hl, s, hs => walkS_lt (l := l) (s := goS d s b) hv (fun x hx => hl x (by simp [hx])) (goS_lt hv hs (hl b (by simp)))
theorem ruleAt_ok (d : Dfa) (hv : d.valid) (s : Int) (hs : s < (d.nk : Int)) : Ok Proofs.Try.prog 54 [dfaA d, .sc (.int .i64 s)] [] (.sc (.int .i64 (ruleAt d s))) [] := by
 refine o54 _ _ _ _ _ _ _ _ _ trivial ?_
 apply r54_e
 have hrk := hv.2.1
 unfold ruleAt
 refine ⟨fun h => ⟨⟨by have := of_decide_eq_false h; omega, by omega⟩, fun h1 => ?_, fun h1 => ?_⟩, fun h => ?_⟩
 ·rw [if_pos (.inr (of_decide_eq_true h1))]; exact Sub.refl _
 ·rw [if_neg (by have := of_decide_eq_false h; have := of_decide_eq_false h1; omega)]; exact Sub.refl _
 ·rw [if_pos (.inl (of_decide_eq_true (show decide (s < 0) = true from h)))]; exact Sub.refl _
theorem rcheck_loopC (d : Dfa) (h8 : ∀ b, d.cl b < 256) (hl : ¬ (2048 < d.nk ∨ 2048 < d.rk)) (res : AV) (hbad : ¬ d.valid → Sub (.sc (.int .i64 2)) res) (i : Nat) (hi : i < d.nk) (hml : d.ml i = d.ml 0) (h5 : d.ml 0 ≤ 256)
  (K : (∀ c, c < d.ml 0 → d.nx i c < (d.nk : Int)) → L14_1 (d.nk : Int) (d.ml 0 : Int) ((i + 1 : Nat) : Int) d.st (fun b => (d.cl b : Int)) d.nk d.ml d.nx d.rk d.ru res) :
  ∀ (m c : Nat), c + m = d.ml 0 → (∀ j, j < c → d.nx i j < (d.nk : Int)) → L14_2 (d.nk : Int) (d.ml 0 : Int) (i : Int) (c : Int) d.st (fun b => (d.cl b : Int)) d.nk d.ml d.nx d.rk d.ru res := by
 intro m
 induction m with
 | zero =>
  intro c hc hg
  apply r14_2
  rw [wrapSucc (n := i) (by omega)]
  exact ⟨fun h => by have := of_decide_eq_true h; omega, fun _ => K fun j hj => hg j (by omega)⟩
 | succ m ih =>
  intro c hc hg
  apply r14_2
  rw [wrapSucc (n := c) (by omega)]
  simp only [Int.toNat_natCast]
  refine ⟨fun _ => ⟨⟨by omega, by omega⟩, ⟨by omega, by omega⟩, fun h => ?_, fun h => ?_⟩, fun h => by have := of_decide_eq_false h; omega⟩
  ·have h := of_decide_eq_true h
   exact hbad fun hv => by have := (hv.2.2.2.2.2.2.2.2 i hi).2.1 c (by omega); omega
  ·have h := of_decide_eq_false h
   refine ih (c + 1) (by omega) fun j hj => ?_
   by_cases he : j = c
   ·subst he; omega
   ·exact hg j (by omega)
theorem rcheck_ok (d : Dfa) (h8 : ∀ b, d.cl b < 256) : Ok Proofs.Try.prog 14 [dfaA d] [] (.sc (.int .i64 d.err)) [] := by
 refine o14 _ _ _ _ _ _ _ _ trivial ?_
 apply r14_e
 have long : 2048 < d.nk ∨ 2048 < d.rk → Sub (.sc (.int .i64 3)) (.sc (.int .i64 d.err)) := fun h => by rw [err_long h]; exact Sub.refl _
 refine ⟨fun h => ⟨fun h1 => long (.inr (by have := of_decide_eq_true h1; omega)), fun h1 => ?_⟩, fun h => long (.inl (by have := of_decide_eq_true (show decide ((d.nk : Int) > 2048) = true from h); omega))⟩
 have h := of_decide_eq_false h
 have h1 := of_decide_eq_false h1
 have hl : ¬ (2048 < d.nk ∨ 2048 < d.rk) := by omega
 have bad : ¬ d.valid → Sub (.sc (.int .i64 2)) (.sc (.int .i64 d.err)) := fun h => by rw [err_bad hl h]; exact Sub.refl _
 refine ⟨fun h2 => ⟨fun h3 => ⟨fun h4 => ⟨fun h5 => ?_, fun h5 => ⟨⟨by omega, ?_⟩, ?_⟩⟩, fun h4 => ?_⟩, fun h3 => ?_⟩, fun h2 => ?_⟩
 ·have h5 := of_decide_eq_true h5
  exact bad fun hv => by have := hv.2.2.2.2.1; omega
 ·have h2 := of_decide_eq_false h2
  omega
 ·have h2 := of_decide_eq_false h2
  have h3 : d.rk = d.nk := by simp only [bne_eq_false_iff_eq] at h3; omega
  have h4 := of_decide_eq_false h4
  have h5 := of_decide_eq_false h5
  refine ⟨fun h6 => ⟨fun h7 => ?_, fun h7 => ?_⟩, fun h6 => ?_⟩
  ·have h7 := of_decide_eq_true h7
   exact bad fun hv => by have := hv.2.2.2.2.2.2.1; omega
  ·have h6 := of_decide_eq_false h6
   have h7 := of_decide_eq_false h7
   have rows : (∀ b, b < 256 → d.cl b < d.ml 0) → ∀ (m i : Nat), i + m = d.nk → (∀ j, j < i → d.ml j = d.ml 0 ∧ (∀ c, c < d.ml 0 → d.nx j c < (d.nk : Int)) ∧ d.ru j < 48) →
     L14_1 (d.nk : Int) (d.ml 0 : Int) (i : Int) d.st (fun b => (d.cl b : Int)) d.nk d.ml d.nx d.rk d.ru (.sc (.int .i64 d.err)) := by
    intro hcls m
    induction m with
    | zero =>
     intro i hi hg
     apply r14_1
     refine ⟨fun h => by have := of_decide_eq_true h; omega, fun _ => ?_⟩
     rw [err_ok ⟨by omega, h3, by omega, by omega, by omega, by omega, by omega, hcls, fun j hj => hg j (by omega)⟩]
     exact Sub.refl _
    | succ m ih =>
     intro i hi hg
     apply r14_1
     simp only [Int.toNat_natCast]
     refine ⟨fun _ => ⟨⟨by omega, by omega⟩, fun h => ⟨⟨by omega, by omega⟩, fun h' => ?_, fun h' => ?_⟩, fun h => ?_⟩, fun h => by have := of_decide_eq_false h; omega⟩
     ·have h' := of_decide_eq_true h'
      exact bad fun hv => by have := (hv.2.2.2.2.2.2.2.2 i (by omega)).2.2; omega
     ·have h' := of_decide_eq_false h'
      have hml : d.ml i = d.ml 0 := by simp only [bne_eq_false_iff_eq] at h; omega
      refine rcheck_loopC d h8 hl _ bad i (by omega) hml (by omega) (fun hall => ?_) (d.ml 0) 0 (by omega) (fun j hj => by omega)
      refine ih (i + 1) (by omega) fun j hj => ?_
      by_cases he : j = i
      ·subst he; exact ⟨hml, hall, by omega⟩
      ·exact hg j (by omega)
     ·have hne : d.ml i ≠ d.ml 0 := by
       have h : (((d.ml i : Nat) : Int) != ((d.ml 0 : Nat) : Int)) = true := h
       simp only [bne_iff_ne, ne_eq] at h; omega
      exact bad fun hv => hne (hv.2.2.2.2.2.2.2.2 i (by omega)).1
   have cls : ∀ (m b : Nat), b + m = 256 → (∀ j, j < b → d.cl j < d.ml 0) → L14_0 (d.nk : Int) (d.ml 0 : Int) (b : Int) d.st (fun b => (d.cl b : Int)) d.nk d.ml d.nx d.rk d.ru (.sc (.int .i64 d.err)) := by
    intro m
    induction m with
    | zero =>
     intro b hb hg
     apply r14_0
     exact ⟨fun h => by have := of_decide_eq_true h; omega, fun _ => rows (fun j hj => hg j (by omega)) d.nk 0 (by omega) (fun j hj => by omega)⟩
    | succ m ih =>
     intro b hb hg
     have hb8 := h8 b
     apply r14_0
     rw [wrapSucc (n := b) (by omega)]
     have ew := wrap_i64 (n := (d.cl b : Int)) (by omega) (by omega)
     simp only [Int.toNat_natCast, ew]
     refine ⟨fun _ => ⟨⟨by omega, by omega⟩, by omega, fun h => ?_, fun h => ?_⟩, fun h => by have := of_decide_eq_false h; omega⟩
     ·have h := of_decide_eq_true h
      exact bad fun hv => by have := hv.2.2.2.2.2.2.2.1 b (by omega); omega
     ·have h := of_decide_eq_false h
      refine ih (b + 1) (by omega) fun j hj => ?_
      by_cases he : j = b
      ·subst he; omega
      ·exact hg j (by omega)
   exact cls 256 0 (by omega) (fun j hj => by omega)
  ·have h6 := of_decide_eq_true (show decide ((d.ml 0 : Int) < 1) = true from h6)
   exact bad fun hv => by have := hv.2.2.2.2.2.1; omega
 ·have h4 := of_decide_eq_true (show decide (d.st < 0) = true from h4)
  exact bad fun hv => by have := hv.2.2.2.1; omega
 ·have h3 : d.rk ≠ d.nk := by
   have h3 : (((d.rk : Nat) : Int) != (d.nk : Int)) = true := h3
   simp only [bne_iff_ne, ne_eq] at h3; omega
  exact bad fun hv => h3 hv.2.1
 ·have h2 := of_decide_eq_true (show decide ((d.nk : Int) < 1) = true from h2)
  exact bad fun hv => by have := hv.2.2.1; omega
end Go.Am.Seat
end

section
/-! Machine: what is told of a text. -/
namespace Go.Am.Seat
open Go Go.Am
set_option linter.unusedVariables false
theorem maxI (s : Int) : (if true = true then if -1 > s then -1 else s else if -1 < s then -1 else s) = if s < 0 then (-1 : Int) else s := by
 rw [if_pos rfl]
 split <;> split <;> omega
abbrev nrm (s : Int) : Int := if s < 0 then -1 else s
theorem walk_loop (d : Dfa) (hv : d.valid) (l : List Nat) (hl : ∀ x ∈ l, x < 256) (hn : l.length ≤ 140737488355328) : ∀ (m i : Nat) (s : Int), i + m = l.length → s < (d.nk : Int) →
  L52_0 s (str l) (i : Int) d.st (fun b => (d.cl b : Int)) d.nk d.ml d.nx d.rk d.ru (.sc (.int .i64 (nrm (walkS d s (l.drop i))))) := by
 intro m
 induction m with
 | zero =>
  intro i s hi hs
  apply r52_0
  rw [str_size, List.drop_eq_nil_of_le (by omega)]
  refine ⟨fun h => by have := of_decide_eq_true h; omega, fun _ => ?_⟩
  rw [maxI]
  exact Sub.refl _
 | succ m ih =>
  intro i s hi hs
  have hil : i < l.length := by omega
  have hb := byteAt_strN hil hl
  have hdrop : l.drop i = l.getD i 0 :: l.drop (i + 1) := by
   rw [List.drop_eq_getElem_cons hil]
   congr 1
   simp [List.getD_eq_getElem?_getD, hil]
  have hx : l.getD i 0 < 256 := hl _ (by simp [List.getD_eq_getElem?_getD, hil])
  apply r52_0
  rw [str_size, maxI, show (i : Int).toNat = i from rfl, hb, show ((l.getD i 0 : Nat) : Int).toNat = l.getD i 0 from rfl, wrapSucc (by omega)]
  refine ⟨fun _ => ⟨fun h => ?_, fun h => ?_⟩, fun h => ?_⟩
  ·have h := of_decide_eq_true h
   obtain ⟨t, ht⟩ : ∃ t : Nat, s = t := ⟨s.toNat, by omega⟩
   subst ht
   have hrow := hv.2.2.2.2.2.2.2.2 t (by omega)
   have hcl := hv.2.2.2.2.2.2.2.1 _ hx
   have hlt := hrow.2.1 _ hcl
   refine ⟨⟨by omega, by omega⟩, ⟨by omega, by omega⟩, ⟨by omega, by omega⟩, hx, ⟨by omega, by show ((d.cl (l.getD i 0) : Nat) : Int) < ((d.ml t : Nat) : Int); omega⟩, ?_⟩
   have := ih (i + 1) (d.nx t (d.cl (l.getD i 0))) (by omega) hlt
   rw [hdrop]
   have e : nrm (walkS d (t : Int) (l.getD i 0 :: l.drop (i + 1))) = nrm (walkS d (d.nx t (d.cl (l.getD i 0))) (l.drop (i + 1))) := by
    show nrm (walkS d (goS d t (l.getD i 0)) (l.drop (i + 1))) = _
    unfold goS
    rw [if_neg (by omega), show (t : Int).toNat = t from rfl]
    by_cases hneg : d.nx t (d.cl (l.getD i 0)) < 0
    ·rw [if_pos hneg]
     unfold nrm
     rw [if_pos (walkS_neg _ hneg), if_pos (walkS_neg _ (by omega))]
    ·rw [if_neg hneg]
   rw [e]
   exact this
  ·have h := of_decide_eq_false h
   have e : nrm (walkS d s (l.drop i)) = if s < 0 then -1 else s := by
    unfold nrm
    rw [if_pos (walkS_neg _ (by omega)), if_pos (by omega)]
   rw [e]
   exact Sub.refl _
  ·have h : decide ((i : Int) < (l.length : Int)) = false := h
   have := of_decide_eq_false h
   omega
abbrev ruleV (r e : Int) : AV := (.cons 1 (.sc (.int .i64 r)) (.cons 1 (.sc (.int .i64 e)) .nil) : AV).tup
open Classical in
noncomputable def ruleR (d : Dfa) (l : List Nat) : Int × Int := if d.err ≠ 0 then (0, d.err) else (tellsF d d.st l, 0)
theorem rule_text_ok (d : Dfa) (h8 : ∀ b, d.cl b < 256) (l : List Nat) (hl : ∀ x ∈ l, x < 256) (hn : l.length ≤ 140737488355328) :
  Ok Proofs.Try.prog 26 [dfaA d, .sc (.string (str l))] [] (ruleV (ruleR d l).1 (ruleR d l).2) [] := by
 refine o26 _ _ _ _ _ _ _ _ _ ⟨trivial, trivial, trivial⟩ (r26_e _ _ _ _ _ _ _ _ _ ?_)
 refine ⟨d.err, check_ok d h8, fun h => ?_, fun h => ?_⟩
 ·have h : d.err ≠ 0 := by simpa using h
  unfold ruleR
  rw [if_pos h]
  exact Sub.refl _
 ·have h : d.err = 0 := by simpa using h
  have hv : d.valid := err_zero.1 h
  have hst := hv.2.2.2
  have hw := walkS_lt hv hl (s := d.st) (by omega)
  have hR : ruleR d l = (tellsF d d.st l, 0) := by
   unfold ruleR
   rw [if_neg (by rw [h]; simp)]
  rw [hR]
  refine ⟨nrm (walkS d d.st l), o52 _ _ _ _ _ _ _ _ _ _ trivial (r52_e _ _ _ _ _ _ _ _ _ _ (walk_loop d hv l hl hn l.length 0 d.st (by omega) (by omega))), fun h => ?_, fun h => ?_⟩
  ·have h := of_decide_eq_true h
   have hneg : walkS d d.st l < 0 := by unfold nrm at h; split at h <;> omega
   unfold tellsF
   rw [ruleAt_neg hneg]
   exact Sub.refl _
  ·have h := of_decide_eq_false h
   have hpos : ¬ walkS d d.st l < 0 := fun hneg => by unfold nrm at h; rw [if_pos hneg] at h; omega
   have e : nrm (walkS d d.st l) = walkS d d.st l := if_neg hpos
   rw [e, maxI]
   have hrk := hv.2.1
   refine ⟨⟨by omega, by omega⟩, ?_⟩
   have e2 : tellsF d d.st l = if d.ru (walkS d d.st l).toNat < 0 then -1 else d.ru (walkS d d.st l).toNat := by
    unfold tellsF ruleAt
    by_cases h1 : d.ru (walkS d d.st l).toNat < 0
    ·rw [if_pos (.inr h1), if_pos h1]
    ·rw [if_neg (by rintro (h2 | h2) <;> omega), if_neg h1]
   rw [e2]
   exact Sub.refl _
end Go.Am.Seat
end

section
/-! Machine: dfa.Run; the document's answers Walk, Run, Rule of chapter 7. -/
namespace Go.Am.Seat
open Go Go.Am
set_option linter.unusedVariables false

open Classical in
noncomputable def runR (d : Dfa) (fr : Int) (l : List Nat) : Int × Int := if d.err ≠ 0 then (0, d.err) else if fr < 0 ∨ (d.nk : Int) ≤ fr then (0, 2) else (nrm (walkS d fr l), 0)
theorem run_text_ok (d : Dfa) (h8 : ∀ b, d.cl b < 256) (fr : Int) (l : List Nat) (hl : ∀ x ∈ l, x < 256) (hn : l.length ≤ 140737488355328) :
  Ok Proofs.Try.prog 24 [dfaA d, .sc (.int .i64 fr), .sc (.string (str l))] [] (ruleV (runR d fr l).1 (runR d fr l).2) [] := by
 refine o24 _ _ _ _ _ _ _ _ _ _ ⟨trivial, trivial, trivial⟩ (r24_e _ _ _ _ _ _ _ _ _ _ ?_)
 refine ⟨d.err, check_ok d h8, fun h => ?_, fun h => ?_⟩
 ·have h : d.err ≠ 0 := by simpa using h
  unfold runR
  rw [if_pos h]
  exact Sub.refl _
 ·have h : d.err = 0 := by simpa using h
  have hv : d.valid := err_zero.1 h
  unfold runR
  rw [if_neg (by rw [h]; simp)]
  refine ⟨fun h1 => ⟨fun h2 => ?_, fun h2 => ?_⟩, fun h1 => ?_⟩
  ·have h2 := of_decide_eq_true h2
   rw [if_pos (.inr h2)]
   exact Sub.refl _
  ·have h1 := of_decide_eq_false h1
   have h2 := of_decide_eq_false h2
   rw [if_neg (by rintro (h3 | h3) <;> omega)]
   exact ⟨nrm (walkS d fr l), o52 _ _ _ _ _ _ _ _ _ _ trivial (r52_e _ _ _ _ _ _ _ _ _ _ (walk_loop d hv l hl hn l.length 0 fr (by omega) (by omega))), Sub.refl _⟩
  ·have h1 := of_decide_eq_true (show decide (fr < 0) = true from h1)
   rw [if_pos (.inl h1)]
   exact Sub.refl _
theorem rwalk_loop (d : Dfa) (hv : d.valid) (l : List Nat) (hl : ∀ x ∈ l, x < 256) (hn : l.length ≤ 140737488355328) : ∀ (m i : Nat) (s : Int), i + m = l.length → s < (d.nk : Int) →
  L53_0 s (str l) (i : Int) d.st (fun b => (d.cl b : Int)) d.nk d.ml d.nx d.rk d.ru (.sc (.int .i64 (walkS d s (l.drop i)))) := by
 intro m
 induction m with
 | zero =>
  intro i s hi hs
  apply r53_0
  rw [str_size, List.drop_eq_nil_of_le (by omega)]
  exact ⟨fun h => by have := of_decide_eq_true h; omega, fun _ => Sub.refl _⟩
 | succ m ih =>
  intro i s hi hs
  have hil : i < l.length := by omega
  have hb : l[i] < 256 := hl _ (List.getElem_mem hil)
  have hby : (byteAt (str l) i).toNat = l[i] := by
   rw [byteAt_str, List.getD_eq_getElem?_getD, List.getElem?_eq_getElem hil]
   ·show l[i] % 256 = l[i]
    omega
   ·exact hil
  apply r53_0
  rw [str_size, wrapSucc (by omega), Int.toNat_natCast, hby, List.drop_eq_getElem_cons hil]
  exact ⟨fun _ => ⟨⟨by omega, by omega⟩, goS d s l[i], go_ok d hv s hs l[i] hb, ih (i + 1) (goS d s l[i]) (by omega) (goS_lt hv hs hb)⟩, fun h => by have := of_decide_eq_false h; omega⟩
theorem rwalk_ok (d : Dfa) (hv : d.valid) (s : Int) (hs : s < (d.nk : Int)) (l : List Nat) (hl : ∀ x ∈ l, x < 256) (hn : l.length ≤ 140737488355328) :
  Ok Proofs.Try.prog 53 [dfaA d, .sc (.int .i64 s), .sc (.string (str l))] [] (.sc (.int .i64 (walkS d s l))) [] :=
 o53 _ _ _ _ _ _ _ _ _ _ trivial (r53_e _ _ _ _ _ _ _ _ _ _ (rwalk_loop d hv l hl hn l.length 0 s (by omega) hs))
theorem walkS_nrm (d : Dfa) (s : Int) (hs : 0 ≤ s) (l : List Nat) : nrm (walkS d s l) = walkS d s l := by
 have : ∀ (l : List Nat) (s : Int), -1 ≤ s → -1 ≤ walkS d s l := by
  intro l
  induction l with
  | nil => intro s h; exact h
  | cons b l ih => intro s h; exact ih _ (goS_ge d s b)
 have := this l s (by omega)
 unfold nrm
 split <;> omega
theorem rrun_ok (d : Dfa) (h8 : ∀ b, d.cl b < 256) (fr : Int) (l : List Nat) (hl : ∀ x ∈ l, x < 256) (hn : l.length ≤ 140737488355328) :
  Ok Proofs.Try.prog 25 [dfaA d, .sc (.int .i64 fr), .sc (.string (str l))] [] (ruleV (runR d fr l).1 (runR d fr l).2) [] := by
 refine o25 _ _ _ _ _ _ _ _ _ _ ⟨trivial, trivial, trivial⟩ (r25_e _ _ _ _ _ _ _ _ _ _ ?_)
 refine ⟨d.err, rcheck_ok d h8, fun h => ?_, fun h => ?_⟩
 ·have h : d.err ≠ 0 := by simpa using h
  unfold runR
  rw [if_pos h]
  exact Sub.refl _
 ·have h : d.err = 0 := by simpa using h
  have hv : d.valid := err_zero.1 h
  unfold runR
  rw [if_neg (by rw [h]; simp)]
  refine ⟨fun h1 => ⟨fun h2 => ?_, fun h2 => ?_⟩, fun h1 => ?_⟩
  ·have h2 := of_decide_eq_true h2
   rw [if_pos (.inr h2)]
   exact Sub.refl _
  ·have h1 := of_decide_eq_false h1
   have h2 := of_decide_eq_false h2
   rw [if_neg (by rintro (h3 | h3) <;> omega), walkS_nrm d fr (by omega)]
   exact ⟨walkS d fr l, rwalk_ok d hv fr (by omega) l hl hn, Sub.refl _⟩
  ·have h1 := of_decide_eq_true (show decide (fr < 0) = true from h1)
   rw [if_pos (.inl h1)]
   exact Sub.refl _
theorem rrule_ok (d : Dfa) (h8 : ∀ b, d.cl b < 256) (l : List Nat) (hl : ∀ x ∈ l, x < 256) (hn : l.length ≤ 140737488355328) :
  Ok Proofs.Try.prog 27 [dfaA d, .sc (.string (str l))] [] (ruleV (ruleR d l).1 (ruleR d l).2) [] := by
 refine o27 _ _ _ _ _ _ _ _ _ ⟨trivial, trivial, trivial⟩ (r27_e _ _ _ _ _ _ _ _ _ ?_)
 refine ⟨d.err, rcheck_ok d h8, fun h => ?_, fun h => ?_⟩
 ·have h : d.err ≠ 0 := by simpa using h
  unfold ruleR
  rw [if_pos h]
  exact Sub.refl _
 ·have h : d.err = 0 := by simpa using h
  have hv : d.valid := err_zero.1 h
  have hst := hv.2.2.2
  unfold ruleR
  rw [if_neg (by rw [h]; simp)]
  exact ⟨walkS d d.st l, rwalk_ok d hv d.st (by omega) l hl hn, tellsF d d.st l, ruleAt_ok d hv _ (walkS_lt hv hl (by omega)), Sub.refl _⟩
end Go.Am.Seat
end

section
/-! Machine: dfa.Of by its law; the chapter's examples. -/
namespace Go.Am.Seat
open Go Go.Am
set_option linter.unusedVariables false

theorem ruleGo_lt {N : Nfa} (hv : N.valid) : ∀ (l : List Nat) (m : Int), (∀ s ∈ l, s < N.n) → -1 ≤ m → m < 48 → -1 ≤ ruleGo N l m ∧ ruleGo N l m < 48
 | [], m, _, h1, h2 => ⟨h1, h2⟩
 | s :: l, m, hl, h1, h2 => by
  have h3 := (hv.2.2 s (hl s List.mem_cons_self)).2.1
  unfold ruleGo
  refine ruleGo_lt hv l _ (fun t ht => hl t (List.mem_cons_of_mem _ ht)) ?_ ?_
  ·split <;> omega
  ·split <;> omega
theorem IsDfa.lab_lt {N : Nfa} (hv : N.valid) {d : Dfa} {lab : Nat → List Nat} (h : IsDfa N d lab) : ∀ i, i < d.nk → ∀ s ∈ lab i, s < N.n := by
 intro i hi
 by_cases h0 : i = 0
 ·subst h0
  rw [h.zero]
  exact fun s hs => clos_lt s hs
 ·obtain ⟨n, b, n1, b1, e, _⟩ := h.bfs i (by omega) hi
  obtain ⟨_, _, e3⟩ := h.on (by omega) b1 e
  rw [e3]
  exact fun s hs => trL_lt s hs
theorem IsDfa.valid {N : Nfa} (hv : N.valid) {d : Dfa} {lab : Nat → List Nat} (h : IsDfa N d lab) (h1 : d.nk ≤ 2048) (h2 : d.ml 0 ≤ 256) : d.valid := by
 have hp := h.pos
 have hc := h.cl 0 (by omega)
 refine ⟨h1, h.rk, hp, by rw [h.st]; omega, by rw [h.st]; omega, by omega, h2, h.cl, fun i hi => ⟨h.ml i hi, fun c hc => ?_, ?_⟩⟩
 ·obtain ⟨b, hb, e, _⟩ := h.cls c hc
  rw [← e]
  exact (h.ge hi hb).2
 ·rw [h.rule i hi]
  exact (ruleGo_lt hv _ (-1) (h.lab_lt hv i hi) (by omega) (by omega)).2
theorem of_spec {M : Nat} (hM : SortOk M) (N : Nfa) (hn : N.n ≤ M) :
  (N.err ≠ 0 ∧ Ok Proofs.Try.prog 18 [nfaA false N] [] (ofV dfaZ N.err) []) ∨
  (N.err = 0 ∧ (∃ φ : Nat → List Nat, (∀ i, i < 2049 → Come (clos N [N.st.toNat]) (trL N) (AlN N) (φ i)) ∧ (∀ i j, i < 2049 → j < 2049 → φ i = φ j → i = j)) ∧ Ok Proofs.Try.prog 18 [nfaA false N] [] (ofV dfaZ 3) []) ∨
  (N.err = 0 ∧ ∃ (d : Dfa) (lab : Nat → List Nat), IsDfa N d lab ∧ d.nk ≤ 2048 ∧ d.ml 0 ≤ 256 ∧ (∀ b, d.cl b < 256) ∧ Ok Proofs.Try.prog 18 [nfaA false N] [] (ofV d 0) []) := by
 by_cases he : N.err = 0
 ·have hv := (nErr_zero.1 he).2
  obtain ⟨z, h⟩ := of_ok hM N hn he
  rcases h with ⟨B, h, hx, hS, hO⟩ | ⟨B, ofl, first, h, hS, hXS, hO, hC, hD, hL⟩
  ·exact .inr (.inl ⟨he, ⟨labB N B, fun i hi => h.come hv hx (i + 1) i (by omega) (by omega), fun i j hi hj e => h.inj (by omega) (by omega) e⟩, hO (newV _ _)⟩)
  ·have hbl := h.srt.len
   have hfl := hC.len
   refine .inr (.inr ⟨he, dfaOf B ofl first, labB N B, h.det hv hXS hO hC hD, by show B.X.length ≤ 2048; omega, by show first.length ≤ 256; omega, fun b => ?_, hL (newV _ _)⟩)
   show ofl.getD (B.lk b) 0 < 256
   by_cases hlt : B.lk b < ofl.length
   ·have := (hC.lt _ hlt).1; omega
   ·rw [List.getD_eq_getElem?_getD, List.getElem?_eq_none (by omega)]; show 0 < 256; omega
 ·exact .inl ⟨he, of_err N he⟩
end Go.Am.Seat
end

section
/-! Machine: the chapter's examples (alive). -/
namespace Go.Am.Seat
open Go Go.Am
set_option linter.unusedVariables false

theorem eq_goS {x y : Dfa} (h : EqDfa x y) (hx : x.valid) {s : Int} (hs : s < (x.nk : Int)) {b : Nat} (hb : b < 256) : goS x s b = goS y s b := by
 unfold Go.Am.goS
 by_cases h0 : s < 0
 ·rw [if_pos h0, if_pos h0]
 ·have hi : s.toNat < x.nk := by omega
  have hc := hx.2.2.2.2.2.2.2.1 b hb
  have hm := (hx.2.2.2.2.2.2.2.2 s.toNat hi).1
  rw [if_neg h0, if_neg h0, ← h.cl b hb, h.nx s.toNat (x.cl b) hi (by rw [hm]; exact hc)]
theorem eq_walk {x y : Dfa} (h : EqDfa x y) (hx : x.valid) : ∀ (w : List Nat) {s : Int}, isB w → s < (x.nk : Int) → walkS x s w = walkS y s w
 | [], s, _, _ => rfl
 | b :: w, s, hw, hs => by
  have e := eq_goS h hx hs hw.head
  show walkS x (Go.Am.goS x s b) w = walkS y (Go.Am.goS y s b) w
  rw [← e]
  exact eq_walk h hx w hw.tail (goS_lt hx hs hw.head)
theorem eq_tells {x y : Dfa} (h : EqDfa x y) (hx : x.valid) {w : List Nat} (hw : isB w) {s : Int} (hs : s < (x.nk : Int)) : tellsF x s w = tellsF y s w := by
 have hrk := hx.2.1
 unfold tellsF
 rw [← eq_walk h hx w hw hs]
 have hl : walkS x s w < (x.nk : Int) := walkS_lt hx hw hs
 unfold ruleAt
 by_cases h0 : walkS x s w < 0
 ·rw [if_pos (.inl h0), if_pos (.inl h0)]
 ·rw [h.ru _ (by omega)]
def zeroD : Dfa := { st := 0, cl := fun _ => 0, nk := 0, ml := fun _ => 0, nx := fun _ _ => 0, rk := 0, ru := fun _ => 0 }
theorem zeroD_err : zeroD.err = 2 := by
 unfold Dfa.err
 rw [if_neg (show ¬ (2048 < zeroD.nk ∨ 2048 < zeroD.rk) by decide), if_neg fun h => absurd h.2.2.1 (by decide)]
theorem alive7_ok : Ok Proofs.Try.prog 12 [] [] (.sc (.bool true)) [] := by
 refine o12 _ trivial ?_
 apply r12_e
 rcases of_spec sort12 kN (show 6 ≤ 12 by omega) with ⟨h, _⟩ | ⟨_, ⟨φ, h1, h2⟩, _⟩ | ⟨_, d, lab, hd, hk, hm, h8, hok⟩
 ·exact absurd kN_err h
 ·exfalso
  have hc : ∀ i, ∃ j : Nat, i < 2049 → j < 4 ∧ kL j = φ i := fun i => by
   by_cases hi : i < 2049
   ·obtain ⟨j, j1, j2⟩ := kX_is.come (h1 i hi)
    exact ⟨j, fun _ => ⟨j1, j2⟩⟩
   ·exact ⟨0, fun h => absurd h hi⟩
  obtain ⟨ψ, hψ⟩ := Classical.axiomOfChoice hc
  have := pigeonS 4 2049 ψ (fun i hi => (hψ i hi).1) (fun i j hi hj e => h2 i j hi hj (by rw [← (hψ i hi).2, ← (hψ j hj).2, e]))
  omega
 ·have heq : EqDfa d kX := hd.uniq kX_is (Pair.id _ _ _ _)
  have hv := hd.valid kN_valid hk hm
  have he : d.err = 0 := err_zero.2 hv
  have hnk : d.nk = 4 := heq.nk
  have hrk : d.rk = 4 := heq.rk
  have hml : d.ml 2 = 4 := heq.ml 2 (by omega)
  have hst : d.st = 0 := heq.st
  have hrule : ∀ l : List Nat, isB l → ruleR d l = (tellsF kX 0 l, 0) := fun l hl => by
   unfold ruleR
   rw [if_neg (by rw [he]; simp), hst, eq_tells heq hv hl (by omega)]
  have hr1 := rule_text_ok d h8 [105, 102] (by decide) (by decide)
  have hr2 := rule_text_ok d h8 [55] (by decide) (by decide)
  have hr3 := run_text_ok d h8 2 [102] (by decide) (by decide)
  rw [hrule [105, 102] (by unfold isB; decide), show tellsF kX 0 [105, 102] = 0 by decide] at hr1
  rw [hrule [55] (by unfold isB; decide), show tellsF kX 0 [55] = -1 by decide] at hr2
  have hrun : runR d 2 [102] = (3, 0) := by
   unfold runR
   rw [if_neg (by rw [he]; simp), if_neg (by omega), eq_walk heq hv [102] (by unfold isB; decide) (by omega)]
   decide
  rw [hrun] at hr3
  have hz : Ok Proofs.Try.prog 11 [.cons 1 (.sc (.int .i64 0)) (.cons 256 (.ar 256 1 fun i => .sc (.int .u8 0)) (.cons 1 (.sc (.slice none 0 0)) (.cons 1 (.sc (.slice none 0 0)) .nil)))] [] (.sc (.int .i64 2)) [] := by
   rw [← zeroD_err]
   exact Ok.args (ys := [dfaA zeroD]) ⟨Sub.of_R (RSub.cons (RSub.refl _) (RSub.cons (RSub.refl _) (RSub.cons RSub.nilvec (RSub.cons RSub.nilvec (RSub.refl _))))) rfl trivial trivial, trivial⟩ (check_ok zeroD fun _ => by show 0 < 256; omega)
  refine ⟨⟨kN.st, kN.n, (fun i j => ((word (kN.set i) j : Nat) : Int)), kN.to, kN.fn, kN.fr, kN.ru⟩, known_ok, ⟨d.st, (fun b => ((d.cl b : Nat) : Int)), d.nk, d.ml, d.nx, d.rk, d.ru, 0⟩, hok, fun _ => ⟨fun _ => ⟨true, ?_, fun _ => ⟨?_, true, ?_, fun _ => ⟨⟨by omega, by omega⟩, by omega, fun h => ?_, fun _ => ⟨(0, 0), hr1, (-1, 0), hr2, (3, 0), hr3, fun _ => ⟨fun _ => ⟨fun _ => ⟨fun _ => ⟨fun _ => ⟨fun _ => ⟨2, hz, Sub.refl _⟩, fun h => ?_⟩, fun h => ?_⟩, fun h => ?_⟩, fun h => ?_⟩, fun h => ?_⟩, fun h => ?_⟩⟩, fun h => ?_⟩, fun h => ?_⟩, fun h => ?_⟩, fun h => ?_⟩
  ·show Ok Proofs.Try.prog 33 [rowA d.rk d.ru, rowA 4 _] [] _ []
   rw [hrk]
   refine sameInts_true 4 _ _ fun i hi => ?_
   rw [heq.ru i (by rw [hrk]; exact hi)]
   rcases (show i = 0 ∨ i = 1 ∨ i = 2 ∨ i = 3 by omega) with rfl | rfl | rfl | rfl <;> rfl
  ·show (0 : Int) ≤ 2 ∧ 2 < (d.nk : Int)
   omega
  ·show Ok Proofs.Try.prog 33 [rowA (d.ml 2) (d.nx 2), rowA 4 _] [] _ []
   rw [hml]
   refine sameInts_true 4 _ _ fun i hi => ?_
   rw [heq.nx 2 i (by omega) (by rw [hml]; exact hi)]
   rcases (show i = 0 ∨ i = 1 ∨ i = 2 ∨ i = 3 by omega) with rfl | rfl | rfl | rfl <;> rfl
  ·have h : (((d.cl 102 : Nat) : Int) != 2) = true := h
   rw [heq.cl 102 (by omega)] at h
   exact absurd h (by decide)
  ·exact absurd h (by decide)
  ·exact absurd h (by decide)
  ·exact absurd h (by decide)
  ·exact absurd h (by decide)
  ·exact absurd h (by decide)
  ·exact absurd h (by decide)
  ·exact absurd h (by decide)
  ·exact absurd h (by decide)
  ·have h : ((d.nk : Int) != 4) = !false := h
   rw [hnk] at h
   exact absurd h (by decide)
  ·have h : ((0 : Int) != 0) = !false := h
   exact absurd h (by decide)
end Go.Am.Seat
end

section
/-! Rows and automata from outside. -/
namespace Go.Am.Seat
open Go Go.Am
set_option linter.unusedVariables false

theorem str_of (s : ByteArray) : ∃ l : List Nat, s = str l ∧ (∀ x ∈ l, x < 256) ∧ l.length = s.size := by
 refine ⟨s.data.toList.map UInt8.toNat, ?_, ?_, ?_⟩
 ·apply ByteArray.ext
  unfold str
  simp [List.map_map, Function.comp_def]
 ·intro x hx
  obtain ⟨u, _, rfl⟩ := List.mem_map.1 hx
  exact u.toNat_lt
 ·rw [List.length_map]; rfl
section
variable {cu : Nat → Bool}
theorem shp_str {n : Nat} {x : AV} (hx : ShpC (lookO tab) cu (n + 1) 9 x) : ∃ l : List Nat, x = .sc (.string (str l)) ∧ (∀ y ∈ l, y < 256) ∧ l.length ≤ 140737488355328 := by
 obtain ⟨s, rfl, hs⟩ : ∃ s : ByteArray, x = .sc (.string s) ∧ s.size ≤ reachBytes := hx
 obtain ⟨l, rfl, hl, hn⟩ := str_of s
 have hr : reachBytes ≤ 140737488355328 := by decide
 exact ⟨l, rfl, hl, by omega⟩
theorem shp_int {n : Nat} {x : AV} (hx : ShpC (lookO tab) cu (n + 1) 3 x) : ∃ m : Int, x = .sc (.int .i64 m) ∧ -9223372036854775808 ≤ m ∧ m ≤ 9223372036854775807 := by
 obtain ⟨m, rfl, h2⟩ : ∃ m, x = .sc (.int .i64 m) ∧ (Lit.int .i64 m).wf = true := hx
 have h3 : -9223372036854775808 ≤ m ∧ m ≤ 9223372036854775807 := by simpa [Lit.wf, IntKind.min, IntKind.max, IntKind.signed, IntKind.bits] using h2
 exact ⟨m, rfl, h3⟩
theorem shp_row {n : Nat} {x : AV} (hc : cu 3 = false) (hx : ShpC (lookO tab) cu (n + 2) 24 x) : ∃ (k : Nat) (f : Nat → Int), RSub x (rowA k f) ∧ k * 8 ≤ 140737488355328 ∧ isAg x = false ∧ plainAV x := by
 have hx : bif cu 3 then x = .undef else ∃ (len : Nat) (f : Nat → AV), x = .vec true 1 len len f ∧ len * 8 ≤ reachBytes ∧ ∀ i, i < len → ShpC (lookO tab) cu (n + 1) 3 (f i) := hx
 rw [hc, cond_false] at hx
 obtain ⟨len, f, rfl, hlen, hf⟩ := hx
 have hg : ∀ i, ∃ m : Int, i < len → f i = .sc (.int .i64 m) := by
  intro i
  by_cases hi : i < len
  ·obtain ⟨m, h, _⟩ := shp_int (hf i hi)
   exact ⟨m, fun _ => h⟩
  ·exact ⟨0, fun h => absurd h hi⟩
 obtain ⟨g, hg⟩ := Classical.axiomOfChoice hg
 have hr : reachBytes ≤ 140737488355328 := by decide
 exact ⟨len, g, RSub.vec id (Nat.le_refl _) (Nat.le_refl _) fun i hi => RSub.of_eq (hg i hi), by omega, rfl, trivial⟩
theorem shp_dfa {n : Nat} {x : AV} (hc3 : cu 3 = false) (hc24 : cu 24 = false) (hx : ShpC (lookO tab) cu (n + 4) 26 x) : ∃ d : Dfa, RSub x (dfaA d) ∧ (∀ b, d.cl b < 256) ∧ isAg x = true ∧ plainAV x := by
 obtain ⟨a, r1, rfl, h1, b, r2, rfl, h2, c, r3, rfl, h3, e, r4, rfl, h4, rfl⟩ : ∃ a r1, x = .cons 1 a r1 ∧ ShpC (lookO tab) cu (n + 3) 3 a ∧ ∃ b r2, r1 = .cons 256 b r2 ∧ ShpC (lookO tab) cu (n + 3) 22 b ∧
   ∃ c r3, r2 = .cons 1 c r3 ∧ ShpC (lookO tab) cu (n + 3) 23 c ∧ ∃ e r4, r3 = .cons 1 e r4 ∧ ShpC (lookO tab) cu (n + 3) 24 e ∧ r4 = .nil := hx
 obtain ⟨st, rfl, _⟩ := shp_int h1
 obtain ⟨f, rfl, hf⟩ : ∃ f : Nat → AV, b = .ar 256 1 f ∧ ∀ i, i < 256 → ShpC (lookO tab) cu (n + 2) 5 (f i) := h2
 have hg : ∀ i, ∃ m : Nat, m < 256 ∧ (i < 256 → f i = .sc (.int .u8 (m : Int))) := by
  intro i
  by_cases hi : i < 256
  ·obtain ⟨m, h1, h2⟩ : ∃ m, f i = .sc (.int .u8 m) ∧ (Lit.int .u8 m).wf = true := hf i hi
   have h3 : 0 ≤ m ∧ m ≤ 255 := by simpa [Lit.wf, IntKind.min, IntKind.max, IntKind.signed, IntKind.bits] using h2
   exact ⟨m.toNat, by omega, fun _ => by rw [Int.toNat_of_nonneg h3.1]; exact h1⟩
  ·exact ⟨0, by omega, fun h => absurd h hi⟩
 obtain ⟨cl, hcl⟩ := Classical.axiomOfChoice hg
 have h3 : bif cu 24 then c = .undef else ∃ (len : Nat) (f : Nat → AV), c = .vec true 1 len len f ∧ len * 24 ≤ reachBytes ∧ ∀ i, i < len → ShpC (lookO tab) cu (n + 2) 24 (f i) := h3
 rw [hc24, cond_false] at h3
 obtain ⟨nk, rows, rfl, hnk, hrows⟩ := h3
 have hrow : ∀ i, ∃ q : Nat × (Nat → Int), i < nk → RSub (rows i) (rowA q.1 q.2) := by
  intro i
  by_cases hi : i < nk
  ·obtain ⟨k, f, h, _⟩ := shp_row hc3 (hrows i hi)
   exact ⟨(k, f), fun _ => h⟩
  ·exact ⟨(0, fun _ => 0), fun h => absurd h hi⟩
 obtain ⟨q, hq⟩ := Classical.axiomOfChoice hrow
 obtain ⟨rk, ru, hru, _⟩ := shp_row hc3 h4
 refine ⟨{ st := st, cl := cl, nk := nk, ml := fun i => (q i).1, nx := fun i => (q i).2, rk := rk, ru := ru }, ?_, fun b => (hcl b).1, rfl, trivial⟩
 exact RSub.cons (RSub.refl _) (RSub.cons (RSub.ar fun i hi => RSub.of_eq ((hcl i).2 hi)) (RSub.cons (RSub.vec id (Nat.le_refl _) (Nat.le_refl _) fun i hi => hq i hi) (RSub.cons hru (RSub.refl _))))
end
end Go.Am.Seat
end

section
/-! DfaChecks, DfaRuns, DfaJoins. -/
namespace Go.Am.Seat
open Go Go.Am
set_option linter.unusedVariables false

theorem bigL_false {ml : Nat → Nat} {most : Nat} : ∀ {m i k : Nat}, bigL ml most m i k = false → k ≤ most ∧ ∀ j, i ≤ j → j < i + m → ml j ≤ most
 | 0, i, k, h => by
  unfold bigL at h
  have := of_decide_eq_false h
  exact ⟨by omega, fun j h1 h2 => by omega⟩
 | m + 1, i, k, h => by
  unfold bigL at h
  split at h
  ·rename_i hk
   obtain ⟨h1, h2⟩ := bigL_false h
   refine ⟨hk, fun j h3 h4 => ?_⟩
   by_cases he : j = i
   ·subst he; omega
   ·exact h2 j (by omega) (by omega)
  ·have := of_decide_eq_false h
   omega
theorem big_small {d : Dfa} {most : Nat} (hm : most ≤ 1000000) (h : bigS d most = false) : smallD d := by
 unfold bigS at h
 obtain ⟨h1, h2⟩ := bigL_false h
 refine ⟨by omega, by omega, fun i hi => ?_⟩
 have := h2 i (by omega) (by omega)
 omega
theorem law_runsP (d : Dfa) (h8 : ∀ b, d.cl b < 256) (fr : Int) (l : List Nat) (hl : ∀ x ∈ l, x < 256) : Ok Proofs.Try.prog 5 [dfaA d, .sc (.int .i64 fr), .sc (.string (str l))] [] (.sc (.bool true)) [] := by
 refine o5 _ _ _ _ _ _ _ _ _ _ trivial ?_
 apply r5_e
 rw [str_size]
 refine ⟨fun h => ⟨_, big_ok d 20000 (by omega), fun _ => Sub.refl _, fun hb => ?_⟩, fun _ => Sub.refl _⟩
 have h := of_decide_eq_false h
 have hd := big_small (by omega) hb
 refine ⟨(d.st, (fun b => (d.cl b : Int)), d.nk, d.nk + 3, tnF d, tmF d, tfF d, d.rk, d.rk + 3, twF d.rk d.ru), twinDfa_ok d hd, ((runR d fr l).1, (runR d fr l).2), ?_, ((runR d fr l).1, (runR d fr l).2), rrun_ok d h8 fr l hl (by omega), ((ruleR d l).1, (ruleR d l).2), ?_, ((ruleR d l).1, (ruleR d l).2), rrule_ok d h8 l hl (by omega),
  fun _ => ⟨fun _ => ⟨fun _ => ⟨fun _ => ⟨true, leftDfa_ok d hd, fun _ => ⟨_, alive7_ok, Sub.refl _⟩, fun h => (by cases h)⟩, fun h => ?_⟩, fun h => ?_⟩, fun h => ?_⟩, fun h => ?_⟩
 ·exact Ok.args (ys := [dfaA d, .sc (.int .i64 fr), .sc (.string (str l))]) ⟨twD_sub d, Sub.refl _, Sub.refl _, trivial⟩ (run_text_ok d h8 fr l hl (by omega))
 ·exact Ok.args (ys := [dfaA d, .sc (.string (str l))]) ⟨twD_sub d, Sub.refl _, trivial⟩ (rule_text_ok d h8 l hl (by omega))
 all_goals
  exfalso
  simp at h
theorem law_runs_all (xs : List AV) (h : ShpAllC (lookO tab) noCut 20 [26, 3, 9] xs) : Ok Proofs.Try.prog 5 xs [] (.sc (.bool true)) [] := by
 obtain ⟨x, y, z, rfl, hx, hy, hz⟩ := h.three
 obtain ⟨d, h4, h8, h5, h6⟩ := shp_dfa rfl rfl hx
 obtain ⟨a, rfl, _, _⟩ := shp_int hy
 obtain ⟨l, rfl, hl, _⟩ := shp_str hz
 exact Ok.args (ys := [dfaA d, .sc (.int .i64 a), .sc (.string (str l))]) ⟨Sub.of_R h4 h5 h6 trivial, Sub.refl _, Sub.refl _, trivial⟩ (law_runsP d h8 a l hl)
end Go.Am.Seat
end
