import Derived.Test.YtpmgbnlenpgdoaaP1
/-! Plain laws: texts and rows as lists. -/
namespace Go.Am
open Go

/-- A text of bytes. -/
def str (l : List Nat) : ByteArray := ⟨(l.map UInt8.ofNat).toArray⟩
theorem str_size (l : List Nat) : (str l).size = l.length := by
  show (List.toArray _).size = _
  simp
theorem str_append (l m : List Nat) : str l ++ str m = str (l ++ m) := by
  apply ByteArray.ext
  simp [str]
theorem byteAt_str {l : List Nat} {i : Nat} (hi : i < l.length) : byteAt (str l) i = UInt8.ofNat (l.getD i 0) := by
  simp [byteAt, str, List.getD_eq_getElem?_getD, hi]
theorem byteAt_strN {l : List Nat} {i : Nat} (hi : i < l.length) (hl : ∀ x ∈ l, x < 256) : ((byteAt (str l) i).toNat : Int) = (l.getD i 0 : Nat) := by
  rw [byteAt_str hi]
  have : l.getD i 0 < 256 := by
    rw [List.getD_eq_getElem?_getD, List.getElem?_eq_getElem hi]
    exact hl _ (List.getElem_mem hi)
  rw [UInt8.toNat_ofNat', Nat.mod_eq_of_lt this]
/-- A row of the machine's has the numbers of a list. -/
def isRow (f : Nat → Int) (l : List Nat) : Prop := ∀ i, i < l.length → f i = ((l.getD i 0 : Nat) : Int)
theorem isRow_nil (f : Nat → Int) : isRow f [] := fun i hi => by simp at hi
theorem strOf_row {f : Nat → Int} {l : List Nat} (h : isRow f l) : strOf l.length f = str l := by
  apply ByteArray.ext
  show List.toArray _ = List.toArray _
  congr 1
  apply List.ext_getElem
  · simp
  · intro i h1 h2
    simp only [List.getElem_map, List.getElem_range]
    have hi : i < l.length := by simpa using h2
    rw [h i hi]
    simp [List.getD_eq_getElem?_getD, hi]
theorem isRow_snoc {f g : Nat → Int} {l : List Nat} {x : Nat} (h : isRow f l) (h1 : ∀ i, i < l.length → g i = f i) (h2 : g l.length = (x : Int)) : isRow g (l ++ [x]) := by
  intro i hi
  rw [List.length_append, List.length_singleton] at hi
  by_cases he : i < l.length
  · rw [h1 i he, h i he]
    simp [List.getD_eq_getElem?_getD, List.getElem?_append_left he]
  · obtain rfl : i = l.length := by omega
    rw [h2]
    simp [List.getD_eq_getElem?_getD]
theorem row_blt {f : Nat → Int} {n x i : Nat} : i < n → (bif Nat.blt i n then f i else bif Nat.beq (0 + (i - n)) 0 then (x : Int) else 0) = f i := by
  intro h
  have : Nat.blt i n = true := by simpa using h
  rw [this]; rfl
theorem row_end {f : Nat → Int} {n : Nat} {x : Int} : (bif Nat.blt n n then f n else bif Nat.beq (0 + (n - n)) 0 then x else 0) = x := by
  have : Nat.blt n n = false := by
    cases hb : Nat.blt n n with
    | false => rfl
    | true => simp at hb
  rw [this]
  simp
theorem isRow_push {f : Nat → Int} {l : List Nat} {x : Nat} {y : Int} (hy : y = (x : Int)) (h : isRow f l) : isRow (fun i => bif Nat.blt i l.length then f i else bif Nat.beq (0 + (i - l.length)) 0 then y else 0) (l ++ [x]) := by
  subst hy
  exact isRow_snoc h (fun i hi => row_blt hi) row_end
theorem dec_true {p : Prop} [Decidable p] (h : p) : decide p = true := decide_eq_true h
theorem dec_false {p : Prop} [Decidable p] (h : ¬ p) : decide p = false := decide_eq_false h
theorem wrapSucc {n : Nat} (h : n < 9223372036854775807) : IntKind.i64.wrap ((n : Int) + 1) = ((n + 1 : Nat) : Int) := by
  rw [wrap_i64 (by omega) (by omega)]; rfl
theorem wrapAdd {n m : Nat} (h : n + m ≤ 9223372036854775807) : IntKind.i64.wrap ((n : Int) + (m : Int)) = ((n + m : Nat) : Int) := by
  rw [wrap_i64 (by omega) (by omega)]; omega
end Go.Am
