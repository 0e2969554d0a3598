/- From the shelf's words on rows to heaps. No condition. -/
import Derived.Test.YtdnlhicbjhgjiaaGreatDoorVxQ
import Derived.Sort.Grow
import Derived.Shelf.Sort.Plain
import Derived.Shelf.Slices.CompactS
namespace Go.Vx
open Go.RowKit Go.Sort

theorem putCells_list {α : Type} [Inhabited α] (enc : α → Value) (d : Array α) (vs : List Value) (hd : d.size ≤ vs.length) : putCells enc 0 d vs.toArray = (d.toList.map enc ++ vs.drop d.size).toArray := by
  apply Array.ext_getElem?
  intro k
  simp only [putCells, Array.getElem?_mapIdx, List.getElem?_toArray, Nat.zero_le, true_and, Nat.zero_add, Nat.sub_zero]
  rcases Nat.lt_or_ge k d.size with h | h
  · rw [List.getElem?_append_left (by simpa using h), List.getElem?_map, show d.toList[k]? = some d[k] from by simp [h]]
    have hk : k < vs.length := by omega
    simp [h, hk]
  · rw [List.getElem?_append_right (by simpa using h), List.length_map, Array.length_toList, List.getElem?_drop, show d.size + (k - d.size) = k from by omega]
    cases vs[k]? with
    | none => rfl
    | some x => simp [show ¬ k < d.size from by omega]

/-- What a row that is laid leaves. -/
theorem putRow_blk {α : Type} [Inhabited α] {enc : α → Value} {w : World} {b : Nat} {d : Array α} {vs : List Value} {os : Array Obj} (hb : Blk w.heap b vs) (hd : d.size ≤ vs.length) :
    Blk (grow (putRow enc w b 0 d) os).heap b (d.toList.map enc ++ vs.drop d.size) ∧ ∀ c, c < w.heap.size → c ≠ b → (grow (putRow enc w b 0 d) os).heap[c]? = w.heap[c]? := by
  obtain ⟨e, f, hb, hf⟩ := hb.out
  have hlt := get_lt hb
  have hold : ∀ c, c < w.heap.size → (grow (putRow enc w b 0 d) os).heap[c]? = (putRow enc w b 0 d).heap[c]? := fun c hc => heap_grow_old _ _ (by simpa [putRow, mapBlock] using hc)
  refine ⟨⟨e, f, ?_, fun o ho => hf o (by simp at ho; omega)⟩, fun c hc hne => ?_⟩
  · rw [hold b hlt]
    simp only [putRow, mapBlock, Array.getElem?_modify, if_true, hb, Option.map_some, onCells, putCells_list enc d vs hd]
  · rw [hold c hc]
    simp only [putRow, mapBlock, Array.getElem?_modify]
    rw [if_neg (Ne.symm hne)]

theorem below0_of {w w' : World} (h1 : w'.os = w.os) (h2 : w'.tape = w.tape) (h3 : w'.output = w.output) (h4 : w.heap.size ≤ w'.heap.size) : Below 0 w w' := ⟨h1, h2, h3, h4, fun _ h => absurd h (Nat.not_lt_zero _)⟩

theorem holds_blk {α : Type} [Inhabited α] {enc : α → Value} {w : World} {b : Nat} {d : Array α} {zs : List Value} (hb : Blk w.heap b (d.toList.map enc ++ zs)) : Holds enc w b 0 d := by
  intro j hj
  constructor
  · rw [cell?_eq, Nat.zero_add, hb.cell, List.getElem?_append_left (by simpa using hj), List.getElem?_map, show d.toList[j]? = some d[j] from by simp [hj]]
    simp [hj]
  · rw [frozen?_eq]
    have := hb.can (o := 0) (k := d.size) (by simp)
    exact (this.at_ j hj).2

theorem setCells_ofList : ∀ (vs : List Value) (b o : Nat) (w : World), (w.setCells b o vs).heap = setCells w.heap b o vs := by
  intro vs
  induction vs with
  | nil => intro b o w; rfl
  | cons v vs ih => intro b o w; exact ih b (o + 1) _

end Go.Vx
