/- Plain words on texts. No condition. -/
import Derived.Test.YtdnlhicbjhgjiaaGreatDoorVxC
import Derived.IntWalk
import Derived.WideShapes
import Derived.Lib.IndexBytes
namespace Go.Vx
open Go.RowKit

theorem toList_inj {x y : ByteArray} (h : x.toList = y.toList) : x = y := by
  rw [ByteArray.toList_eq, ByteArray.toList_eq] at h
  cases x; cases y
  simpa using h

theorem strEq_iff {x y : ByteArray} : strEq x y = true ↔ x = y := by
  simp only [strEq, beq_iff_eq]
  exact ⟨toList_inj, fun h => h ▸ rfl⟩

theorem strEq_false {x y : ByteArray} : strEq x y = false ↔ x ≠ y := by
  rw [← Bool.not_eq_true, strEq_iff]

theorem wrI {x : Int} (h1 : -9223372036854775808 ≤ x) (h2 : x ≤ 9223372036854775807) : Wr .i64 x x := ⟨(IntWalk.i64_in x ⟨h1, h2⟩).symm⟩

theorem wrI' {x y : Int} (h : x = y) (h1 : -9223372036854775808 ≤ x) (h2 : x ≤ 9223372036854775807) : Wr .i64 x y := h ▸ wrI h1 h2

/-- Where a text stands in a list; -1: nowhere. -/
def posOf (xs : List ByteArray) (s : ByteArray) : Int :=
  match xs.findIdx? (fun x => decide (x = s)) with
  | some i => i
  | none => -1

theorem posOf_neg {xs : List ByteArray} {s : ByteArray} (h : s ∉ xs) : posOf xs s = -1 := by
  unfold posOf
  rw [List.findIdx?_eq_none_iff.2 (by intro x hx; simp; rintro rfl; exact h hx)]

theorem posOf_at {xs : List ByteArray} {s : ByteArray} {i : Nat} (hi : i < xs.length) (he : xs[i] = s) (hb : ∀ j (hj : j < i), xs[j]'(by omega) ≠ s) : posOf xs s = i := by
  unfold posOf
  rw [(List.findIdx?_eq_some_iff_getElem (i := i)).2 ⟨hi, by simpa using he, fun j hj => by simpa using hb j hj⟩]

theorem posOf_lt {xs : List ByteArray} {s : ByteArray} : posOf xs s < 0 ↔ s ∉ xs := by
  constructor
  · intro h hs
    unfold posOf at h
    split at h
    · omega
    · rename_i hn
      rw [List.findIdx?_eq_none_iff] at hn
      simpa using hn s hs
  · intro h; rw [posOf_neg h]; decide

/-- Whether a text is in a list. -/
def memB (xs : List ByteArray) (s : ByteArray) : Bool := decide (0 ≤ posOf xs s)
theorem memB_iff {xs : List ByteArray} {s : ByteArray} : memB xs s = true ↔ s ∈ xs := by
  have := @posOf_lt xs s
  simp only [memB, decide_eq_true_eq]
  constructor
  · intro h; by_cases hs : s ∈ xs
    · exact hs
    · have := this.2 hs; omega
  · intro h; by_cases hs : 0 ≤ posOf xs s
    · exact hs
    · exact absurd h (this.1 (by omega))

/-- Whether two lists of texts are one. -/
def listEq : List ByteArray → List ByteArray → Bool
  | [], [] => true
  | x :: xs, y :: ys => strEq x y && listEq xs ys
  | _, _ => false
theorem listEq_iff : ∀ {xs ys : List ByteArray}, listEq xs ys = true ↔ xs = ys
  | [], [] => by simp [listEq]
  | x :: xs, [] => by simp [listEq]
  | [], y :: ys => by simp [listEq]
  | x :: xs, y :: ys => by simp [listEq, strEq_iff, listEq_iff (xs := xs)]

end Go.Vx
