/- From a row's reading to data in the heap, and back. No condition. -/
import Derived.Test.YtdnlhicbjhgjiaaGreatDoorVxV
import Derived.Carry
import Derived.SliceStrings
import Derived.WideShapes
import Derived.ProofKit
namespace Go.Vx
open Go.RowKit Go.ChangeShapes Go.WideShapes

/-- A slice of texts that came in. -/
theorem sl_of_row {H : Type} {enc : TypeId × Value → H} {P : Program} {W : World} {t e : TypeId} {base : Nat} {v : Value} {d : DataW H} {ps : List MemPlace} (ht : P.underlying t = some (.slice e)) (he : P.underlying e = some .string) (hc : P.cellsOf e = 1)
    (hv : Value.okWide P W .any base t v) (hd : DataW.Trod enc P W 0 (fun _ => true) true t v d ps) : ∃ xs, Sl eStr (Al W.heap) W.heap v xs := by
  obtain ⟨a0, len0, cap0, rfl⟩ := okWide_slice ht hv
  obtain ⟨fuel, hf⟩ := hd
  rcases open_strings ht he hc (by simpa [Value.cells] using hf) with ⟨hcs, _⟩ | ⟨a, len, cap, ss, hcs, _, hl, hm, hz, _, hcell, _⟩
  · simp at hcs
    obtain ⟨rfl, rfl, rfl⟩ := hcs
    exact ⟨[], Sl.nil⟩
  · simp at hcs
    obtain ⟨rfl, rfl, rfl⟩ := hcs
    simp only [if_true] at hz
    simp only [Value.okWide, ht, Cell.okWide, Cell.ok] at hv
    obtain ⟨_, _, _, hspot, row, cells, hsh, _⟩ := hv
    obtain ⟨b, o, sp⟩ := a
    simp only at hspot
    subst hspot
    have hb : b < W.heap.size := by
      unfold World.shape? at hsh
      cases hg : W.heap[b]? with
      | none => simp [hg] at hsh
      | some o => exact get_lt hg
    refine ⟨ss.take len0, _, cap0, ?_, by simp; omega, .inr ⟨b, o, rfl, hb, fun i hi => ?_⟩⟩
    · rw [List.length_take, Nat.min_eq_left (by omega)]
    · have hi' : i < len0 ∧ i < ss.length := by rw [List.length_take] at hi; omega
      refine ⟨[.string (ss.take len0)[i]], rfl, fun j hj => ?_⟩
      obtain rfl : j = 0 := by simpa using hj
      have := hcell i hi'.2
      rw [show (Addr.add ⟨b, o, none⟩ i) = ⟨b, o + i, none⟩ from by unfold Addr.add; split <;> simp_all] at this
      rw [cell?_eq] at this
      simp only [eStr, Nat.mul_one, Nat.add_zero, List.getElem_cons_zero]
      rw [this, List.getElem_take]
      simp [List.getD, hi'.2]

/-- Behind a call: below the old size nothing has turned. -/
theorem below_of_ext {W W' : World} (hb : Below 0 W W') (he : Ext (Al W.heap) W.heap W'.heap) : Below W.heap.size W W' := ⟨hb.os, hb.tape, hb.output, hb.size, fun k hk => he.same k hk⟩

theorem kept_of_below {W W' : World} (hb : Below W.heap.size W W') (S : MemPlace → Prop) : W.keptBut W' S := by
  refine ⟨hb.os, hb.output, fun i hi => ?_⟩
  rw [hb.block i hi]
  cases hg : W.heap[i]? with
  | none => rfl
  | some o => cases o <;> simp

/-- A contract as the row's step asks it. -/
theorem calls_of_callK {P : Program} {f : FuncId} {args : List Value} {W : World} {K : Value → Heap → Prop} (hc : CallK P f args W.heap K fun _ _ => False) :
    Calls P f args.toArray W fun e W' => ∃ v, e = .returned v ∧ Below 0 W W' ∧ K v W'.heap := by
  refine (hc.call.2 W rfl).mono fun e W' ⟨hb, he⟩ => ?_
  cases e with
  | returned v => exact ⟨v, rfl, hb, he⟩
  | panicked ch => exact he.elim
  | outgrown => exact he.elim

end Go.Vx
