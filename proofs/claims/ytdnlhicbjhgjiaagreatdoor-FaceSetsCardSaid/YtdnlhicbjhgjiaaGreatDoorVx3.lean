/- The walk by verification conditions: the machine's runs, by operation. No condition. -/
import Derived.Test.YtdnlhicbjhgjiaaGreatDoorVx2
import Derived.Laws.Cells
namespace Go.Vx
open Go.RowKit

/-! Heaps -/
theorem cell?_eq (w : World) (b o : Nat) : w.cell? ⟨b, o, none⟩ = cellAt w.heap b o := by
  simp only [World.cell?, cellAt]
  cases w.heap[b]? with
  | none => rfl
  | some x => cases x <;> simp

theorem frozen?_eq (w : World) (b o : Nat) : w.frozen? ⟨b, o, none⟩ = frozenAt w.heap b o := rfl

theorem add_eq (b o n : Nat) : (⟨b, o, none⟩ : Addr).add n = ⟨b, o + n, none⟩ := by
  unfold Addr.add; split
  · rename_i h; subst h; rfl
  · rfl

theorem setCell_heap (w : World) (b o : Nat) (v : Value) : (w.setCell ⟨b, o, none⟩ v) = { w with heap := setAt w.heap b o v } := rfl

theorem size_setAt (h : Heap) (b o : Nat) (v : Value) : (setAt h b o v).size = h.size := by simp [setAt]

theorem get_setAt_ne {h : Heap} {b o : Nat} {v : Value} {b' : Nat} (hb : b' ≠ b) : (setAt h b o v)[b']? = h[b']? := by
  simp only [setAt, Array.getElem?_modify]
  rw [if_neg (Ne.symm hb)]

theorem get_setAt {h : Heap} {b o : Nat} {v : Value} {cs : Array Value} {e : TypeId} {f : Nat × Nat} (hb : h[b]? = some (.cells cs e f)) :
    (setAt h b o v)[b]? = some (.cells (cs.setIfInBounds o v) e f) := by
  simp [setAt, Array.getElem?_modify, hb]

theorem cellAt_cells {h : Heap} {b o : Nat} {v : Value} (hc : cellAt h b o = some v) : ∃ cs e f, h[b]? = some (.cells cs e f) ∧ cs[o]? = some v := by
  unfold cellAt at hc
  split at hc
  · rename_i cs e f hb; exact ⟨cs, e, f, hb, hc⟩
  · cases hc

theorem cellAt_of {h : Heap} {b o : Nat} {cs : Array Value} {e : TypeId} {f : Nat × Nat} (hb : h[b]? = some (.cells cs e f)) : cellAt h b o = cs[o]? := by
  simp [cellAt, hb]

theorem cellAt_setAt_same {h : Heap} {b o : Nat} {u v : Value} (hc : cellAt h b o = some u) : cellAt (setAt h b o v) b o = some v := by
  obtain ⟨cs, e, f, hb, ho⟩ := cellAt_cells hc
  rw [cellAt_of (get_setAt hb)]
  have : o < cs.size := by
    rcases Nat.lt_or_ge o cs.size with h | h
    · exact h
    · simp [Array.getElem?_eq_none h] at ho
  simp [this]

theorem cellAt_setAt_ne {h : Heap} {b o : Nat} {v : Value} {b' o' : Nat} (hn : b' ≠ b ∨ o' ≠ o) : cellAt (setAt h b o v) b' o' = cellAt h b' o' := by
  by_cases hb : b' = b
  · subst hb
    have ho : o' ≠ o := hn.resolve_left (by simp)
    cases hx : h[b']? with
    | none =>
      have : (setAt h b' o v)[b']? = none := by simp [setAt, Array.getElem?_modify, hx]
      simp [cellAt, this, hx]
    | some x =>
      cases x with
      | cells cs e f => rw [cellAt_of (get_setAt hx), cellAt_of hx, Array.getElem?_setIfInBounds_ne (Ne.symm ho)]
      | _ =>
        have : (setAt h b' o v)[b']? = h[b']? := by simp [setAt, Array.getElem?_modify, hx]
        simp [cellAt, this, hx]
  · simp [cellAt, get_setAt_ne hb]

theorem frozenAt_setAt {h : Heap} {b o : Nat} {v : Value} {b' o' : Nat} : frozenAt (setAt h b o v) b' o' = frozenAt h b' o' := by
  by_cases hb : b' = b
  · subst hb
    cases hx : h[b']? with
    | none =>
      have : (setAt h b' o v)[b']? = none := by simp [setAt, Array.getElem?_modify, hx]
      simp [frozenAt, this, hx]
    | some x =>
      cases x with
      | cells cs e f => simp [frozenAt, get_setAt hx, hx]
      | _ =>
        have : (setAt h b' o v)[b']? = h[b']? := by simp [setAt, Array.getElem?_modify, hx]
        simp [frozenAt, this, hx]
  · simp [frozenAt, get_setAt_ne hb]

theorem size_setCells {b : Nat} : ∀ (vs : List Value) (o : Nat) (h : Heap), (setCells h b o vs).size = h.size
  | [], _, _ => rfl
  | _ :: vs, o, _ => (size_setCells vs (o + 1) _).trans (size_setAt _ _ _ _)

theorem get_setCells_ne {b b' : Nat} (hb : b' ≠ b) : ∀ (vs : List Value) (o : Nat) (h : Heap), (setCells h b o vs)[b']? = h[b']?
  | [], _, _ => rfl
  | _ :: vs, o, _ => (get_setCells_ne hb vs (o + 1) _).trans (get_setAt_ne hb)

theorem Writable.setAt {h : Heap} {b o k : Nat} {b' o' : Nat} {v : Value} (hw : Writable h b o k) : Writable (setAt h b' o' v) b o k := by
  refine ⟨fun j hj => ?_⟩
  obtain ⟨⟨u, hu⟩, hf⟩ := hw.at_ j hj
  refine ⟨?_, by rw [frozenAt_setAt]; exact hf⟩
  by_cases hn : b = b' ∧ o + j = o'
  · obtain ⟨rfl, rfl⟩ := hn; exact ⟨_, cellAt_setAt_same hu⟩
  · refine ⟨u, ?_⟩
    rw [cellAt_setAt_ne (by
      by_cases h1 : b = b'
      · exact .inr fun h2 => hn ⟨h1, h2⟩
      · exact .inl h1)]
    exact hu

section
variable {P : Program} {w : World}

theorem r_info {t : TypeId} {i : TypeInfo} (h : P.info? t = some i) : (typeInfo t).run P w = .ok i w := by simp [typeInfo, h]
theorem r_und {t : TypeId} {d : TypeDesc} (h : P.underlying t = some d) : (underlying t).run P w = .ok d w := by simp [underlying, h]
theorem r_size {t : TypeId} {i : TypeInfo} (h : P.info? t = some i) : (sizeOf t).run P w = .ok i.size w := by simp [sizeOf, r_info h]
theorem r_zero {t : TypeId} {i : TypeInfo} {z : Value} (h : P.info? t = some i) (hz : i.zero = some z) : (zeroValue t).run P w = .ok z w := by simp [zeroValue, r_info h, hz]
theorem r_agg {t : TypeId} {d : TypeDesc} (h : P.underlying t = some d) : (isAgg t).run P w = .ok (isAggD d) w := by
  simp only [isAgg, Sem.run_bind, r_und h, Result.andThen_ok]
  cases d <;> rfl

/-- What 'tiOf' says. -/
structure TIs (P : Program) (t : TypeId) (ti : TI) (i : TypeInfo) (d : TypeDesc) (z : Value) : Prop where
  info : P.info? t = some i
  und : P.underlying t = some d
  zero : i.zero = some z
  len : ti.cks.length = i.size
  zsize : z.cells.size = i.size
  zeq : ti.zero = z.cells.toList
  agg : ti.agg = isAggD d
  kd : ti.kd = kdOf d
  fields : ∀ fs, d = .struct fs → ti.fields = fs.toList.map (fun f => (f.offset, sizeOfT P f.type, aggOfT P f.type)) ∧
    ∀ f ∈ fs.toList, (∃ j, P.info? f.type = some j) ∧ (∃ e, P.underlying f.type = some e) ∧ 0 < sizeOfT P f.type
  slice : ∀ e, d = .slice e → ti.elem = e ∧ ∃ j y, P.info? e = some j ∧ j.zero = some y ∧ y.cells.size = j.size ∧ 0 < j.size ∧ ti.esize = j.size ∧ ti.ebytes = j.bytes ∧ ti.ezero = y.cells.toList
  noarray : ∀ n e, d ≠ .array n e

theorem tiOf_spec {t : TypeId} {ti : TI} (h : tiOf P t = some ti) : ∃ i d z, TIs P t ti i d z := by
  unfold tiOf at h
  split at h
  case h_2 => cases h
  rename_i i d hi hd
  split at h
  case h_2 => cases h
  rename_i z hz
  simp only at h
  split at h
  case isFalse => cases h
  rename_i hl
  refine ⟨i, d, z, ?_⟩
  split at h
  · rename_i fs
    split at h
    case isFalse => cases h
    rename_i hall
    simp only [Option.some.injEq] at h
    subst h
    refine ⟨hi, hd, hz, hl.1, hl.2, rfl, rfl, rfl, ?_, by simp, by simp⟩
    intro fs' he
    simp only [TypeDesc.struct.injEq] at he
    subst he
    refine ⟨rfl, fun f hf => ?_⟩
    have := List.all_eq_true.1 hall f hf
    simp only [Bool.and_eq_true, decide_eq_true_eq, Option.isSome_iff_exists] at this
    exact ⟨this.1.1, this.1.2, this.2⟩
  · rename_i e
    split at h
    case h_2 => cases h
    rename_i ie hie
    split at h
    case h_2 => cases h
    rename_i ze hze
    split at h
    case isFalse => cases h
    rename_i hs
    simp only [Option.some.injEq] at h
    subst h
    refine ⟨hi, hd, hz, hl.1, hl.2, rfl, rfl, rfl, by simp, ?_, by simp⟩
    intro e' he
    simp only [TypeDesc.slice.injEq] at he
    subst he
    exact ⟨rfl, ie, ze, hie, hze, hs.1, hs.2, rfl, rfl, rfl⟩
  · cases h
  · rename_i hns hnsl hna
    split at h
    case isFalse => cases h
    simp only [Option.some.injEq] at h
    subst h
    refine ⟨hi, hd, hz, hl.1, hl.2, rfl, ?_, rfl, ?_, ?_, ?_⟩
    · cases d <;> first | rfl | (exfalso; exact hns _ rfl) | (exfalso; exact hna _ _ rfl)
    · intro fs he; exact absurd he (hns fs)
    · intro e he; exact absurd he (hnsl e)
    · intro n e he; exact absurd he (hna n e)

theorem tiK_spec {t : TypeId} {k : TI → Prop} (h : tiK P t k) : ∃ ti i d z, TIs P t ti i d z ∧ k ti := by
  unfold tiK at h
  split at h
  · rename_i ti hti
    obtain ⟨i, d, z, hs⟩ := tiOf_spec hti
    exact ⟨ti, i, d, z, hs, h⟩
  · cases h

theorem r_loadCells {b o : Nat} (vs : List Value) (hv : ∀ j v, vs[j]? = some v → cellAt w.heap b (o + j) = some v) : (loadCells ⟨b, o, none⟩ vs.length).run P w = .ok vs.toArray w :=
  run_loadCells_list w _ vs fun j v h => by rw [add_eq, cell?_eq]; exact hv j v h

theorem r_load {b o : Nat} {v : Value} (hv : cellAt w.heap b o = some v) : (load ⟨b, o, none⟩).run P w = .ok v w := by
  rw [run_load, cell?_eq, hv]

theorem ldcs_out {h : Heap} {b : Nat} : ∀ {cs : List CK} {o : Nat} {k : List Value → Prop}, ldcs h b cs o k →
    ∃ vs : List Value, vs.length = cs.length ∧ (∀ j v, vs[j]? = some v → cellAt h b (o + j) = some v) ∧ k vs
  | [], o, k, hh => ⟨[], rfl, by simp, hh⟩
  | c :: cs, o, k, hh => by
    obtain ⟨v, hv, hh⟩ := ldc_out hh
    obtain ⟨vs, hl, hvs, hk⟩ := ldcs_out hh
    refine ⟨v :: vs, by simp [hl], fun j u hj => ?_, hk⟩
    cases j with
    | zero => simp at hj; subst hj; exact hv
    | succ j =>
      have := hvs j u (by simpa using hj)
      rw [show o + (j + 1) = o + 1 + j from by omega]; exact this

theorem r_storeCells {b : Nat} : ∀ (vs : List Value) (o i : Nat) (w : World), (∀ c ∈ vs, c.oneCell' = true) → Writable w.heap b (o + i) vs.length →
    (storeCells ⟨b, o, none⟩ vs i).run P w = .ok () { w with heap := setCells w.heap b (o + i) vs }
  | [], o, i, w, _, _ => by simp [storeCells, setCells]
  | v :: vs, o, i, w, h1, hw => by
    obtain ⟨⟨u, hu⟩, hf⟩ := hw.at_ 0 (by simp)
    simp only [Nat.add_zero] at hu hf
    have hst : (store ((⟨b, o, none⟩ : Addr).add i) v).run P w = .ok () { w with heap := setAt w.heap b (o + i) v } := by
      rw [run_store P w _ v _ (h1 v (by simp)), add_eq, cell?_eq, hu]
      simp only [frozen?_eq, hf, Bool.false_eq_true, if_false]
      rfl
    simp only [storeCells, Sem.run_bind, hst, Result.andThen_ok]
    rw [r_storeCells vs o (i + 1) _ (fun c hc => h1 c (by simp [hc])) ?_]
    · simp only [setCells, Nat.add_assoc]
    · refine ⟨fun j hj => ?_⟩
      have := (hw.setAt (b' := b) (o' := o + i) (v := v)).at_ (j + 1) (by simpa using hj)
      rw [show o + (i + 1) + j = o + i + (j + 1) from by omega]
      exact this

end
end Go.Vx
