/- The walk by verification conditions: each operation's condition is enough. No condition. -/
import Derived.Test.YtdnlhicbjhgjiaaGreatDoorVx4
import Derived.Laws.Append
import Derived.Laws.BytesArg
import Derived.IntWalk
namespace Go.Vx
open Go.RowKit

section
variable {P : Program} {w : World} {n : Nat} {a : Act} {r : Regs}

/-- What an operation without a call comes to. -/
def Comes1 (P : Program) (w : World) (s : Sem Next) (K : Value → Heap → Prop) : Prop :=
  ∃ v w', (s.run P w = .ok (.value v) w' ∨ (s.run P w = .ok .skip w' ∧ v = undef)) ∧ Below 0 w w' ∧ K v w'.heap

theorem comes_value {s : Sem Next} {K : Value → Heap → Prop} {v : Value} (h : s.run P w = .ok (.value v) w) (hk : K v w.heap) : Comes1 P w s K :=
  ⟨v, w, .inl h, .refl _ _, hk⟩

theorem loadVar_run {t : TypeId} {ti : TI} {i d z} (ht : TIs P t ti i d z) {b o : Nat} {K : Value → Prop}
    (h : bif ti.agg then ldcs w.heap b ti.cks o fun vs => K (.agg vs.toArray) else match ti.cks with | [c] => ldc c w.heap b o K | _ => False) :
    ∃ v, (loadVar t ⟨b, o, none⟩).run P w = .ok v w ∧ K v := by
  simp only [loadVar, Sem.run_bind, r_agg ht.und, Result.andThen_ok, Sem.run_ite, ← ht.agg]
  cases hagg : ti.agg with
  | true =>
    rw [hagg] at h
    obtain ⟨vs, hl, hvs, hk⟩ := ldcs_out h
    refine ⟨_, ?_, hk⟩
    simp only [if_true, r_size ht.info, Result.andThen_ok, Sem.run_pure]
    rw [← ht.len, ← hl, r_loadCells vs hvs]
    rfl
  | false =>
    rw [hagg] at h
    simp only [cond_false] at h
    split at h
    · obtain ⟨v, hv, hk⟩ := ldc_out h
      exact ⟨v, by simp [r_load hv], hk⟩
    · cases h

theorem storeVar_run {t : TypeId} {ti : TI} {i d z} (ht : TIs P t ti i d z) {b o : Nat} {u : Value} (hl : (vcells u).length = ti.cks.length)
    (h1 : ∀ c ∈ vcells u, c.oneCell' = true) (hw : Writable w.heap b o (vcells u).length) :
    (storeVar t ⟨b, o, none⟩ u).run P w = .ok () { w with heap := setCells w.heap b o (vcells u) } := by
  have hz : u.cells.size = i.size := by rw [← ht.len, ← hl]; simp [vcells]
  simp only [storeVar, Sem.run_bind, r_size ht.info, Result.andThen_ok]
  rw [if_neg (by simp [hz])]
  exact r_storeCells (vcells u) o 0 w h1 hw

theorem part_run {t : TypeId} {cs : Array Value} {off : Nat} {e : TypeDesc} {j : TypeInfo} (hj : P.info? t = some j) (he : P.underlying t = some e) {K : Value → Prop}
    (h : bif isAggD e then K (.agg (cs.extract off (off + j.size))) else match cs.toList[off]? with | some c => K c | none => False) :
    ∃ v, (part t cs off).run P w = .ok v w ∧ K v := by
  simp only [part, Sem.run_bind, r_agg he, Result.andThen_ok, Sem.run_ite]
  cases hagg : isAggD e with
  | true => rw [hagg] at h; exact ⟨_, by simp [r_size hj], h⟩
  | false =>
    rw [hagg] at h
    simp only [cond_false] at h
    split at h
    · rename_i c hc
      refine ⟨c, ?_, h⟩
      have : cs[off]? = some c := by simpa using hc
      simp [this]
    · cases h


theorem bound_run {v : Value} {y j : Nat} {code : BoundsCode} (h : bndIs (some v) 0 j) (hj : j ≤ y) : (Instr.sliceBound v y code).run P w = .ok j w := by
  cases v <;> simp only [bndIs] at h
  rename_i k i
  subst h
  have : (0 : Int) ≤ (j : Int) ∧ (j : Int) ≤ (y : Int) := by omega
  simp [Instr.sliceBound, asIntOf, this]

theorem bndIs_some {v : Value} {d e j : Nat} (h : bndIs (some v) d j) : bndIs (some v) e j := by cases v <;> exact h

theorem bounds_run {isSlice : Bool} {len cap : Nat} {lo hi mx : Option Value} {l h m : Nat} (hmx : mx = none ∨ hi ≠ none)
    (hl : bndIs lo 0 l) (hh : bndIs hi len h) (hm : bndIs mx cap m) (h1 : l ≤ h) (h2 : h ≤ m) (h3 : m ≤ cap) :
    (Instr.sliceBounds isSlice len cap lo hi mx).run P w = .ok (l, h, m) w := by
  unfold Instr.sliceBounds
  cases mx with
  | none =>
    simp only [bndIs] at hm; subst hm
    cases hi with
    | none =>
      simp only [bndIs] at hh; subst hh
      cases lo with
      | none => simp only [bndIs] at hl; subst hl; simp
      | some v => simp [bound_run (bndIs_some hl) h1]
    | some u =>
      cases lo with
      | none => simp only [bndIs] at hl; subst hl; simp [bound_run (bndIs_some hh) h2]
      | some v => simp [bound_run (bndIs_some hh) h2, bound_run (bndIs_some hl) h1]
  | some x =>
    cases hi with
    | none => simp at hmx
    | some u =>
      cases lo with
      | none => simp only [bndIs] at hl; subst hl; simp [bound_run (bndIs_some hm) h3, bound_run (bndIs_some hh) h2]
      | some v => simp [bound_run (bndIs_some hm) h3, bound_run (bndIs_some hh) h2, bound_run (bndIs_some hl) h1]

theorem below_push (w : World) (x : Obj) : Below 0 w { w with heap := w.heap.push x } := Below.heap (by simp)

theorem first_slice {xa : Option Addr} {len c size n : Nat} {xs : List Value} (h : RdCells w.heap xa (n * size) xs) :
    (Builtin.firstCells size n (.slice xa len c)).run P w = .ok xs.toArray w := by
  obtain ⟨hl, h⟩ := h
  cases xa with
  | none => simp only at h; rw [h] at hl; have : xs = [] := List.length_eq_zero_iff.1 hl; subst this; rfl
  | some a =>
    obtain ⟨b, o, sp⟩ := a
    simp only at h
    obtain ⟨hsp, h⟩ := h
    subst hsp
    simp only [Builtin.firstCells]
    rw [← hl]
    exact r_loadCells xs h

theorem first_string {s : ByteArray} {size : Nat} : (Builtin.firstCells size s.size (.string s)).run P w = .ok (s.data.toList.map fun b => Value.int .u8 b.toNat).toArray w := by
  simp only [Builtin.firstCells, Sem.run_pure]
  congr 1
  rw [show s.extract 0 s.size = s from by simp]
  apply Array.ext'
  simp

theorem append_run {t u ty : TypeId} {ti ui : TI} {i d z j e y} (ht : TIs P t ti i d z) (hk : ti.kd = .slice) (hu : TIs P u ui j e y) (hku : ui.kd = .slice ∨ ui.kd = .str)
    {sv xv : Value} {K : Option Addr → Nat → Nat → Heap → Prop} (h : vcAppend ti.elem ti.esize ti.ebytes ti.ezero sv xv w.heap K) :
    ∃ sa sn sc w', (Builtin.append_ #[t, u] ty #[sv, xv]).run P w = .ok (.slice sa sn sc) w' ∧ Below 0 w w' ∧ K sa sn sc w'.heap := by
  obtain ⟨sa, n, c, m, xs, rfl, hx, h1, ⟨hbytes, h63⟩, hin, hout⟩ := h
  have hd : ∃ el, d = .slice el := by
    have := ht.kd; rw [hk] at this
    cases d <;> simp [kdOf] at this
    exact ⟨_, rfl⟩
  obtain ⟨el, rfl⟩ := hd
  obtain ⟨hel, je, ye, hie, hze, hys, hpos, hes, heb, hez⟩ := ht.slice el rfl
  have hlen : (Builtin.lenOf xv).run P w = .ok m w := by
    rcases hx with ⟨xa, c', rfl, _⟩ | ⟨s, rfl, rfl, _⟩ <;> simp [Builtin.lenOf]
  have hfirst : ∀ w1 : World, w1.heap = w.heap → (Builtin.firstCells je.size m xv).run P w1 = .ok xs.toArray w1 := by
    intro w1 hw1
    rcases hx with ⟨xa, c', rfl, hr⟩ | ⟨s, rfl, rfl, h1, hxs⟩
    · exact first_slice (by rw [hw1, ← hes]; exact hr)
    · rw [hxs]; exact first_string
  have he : (∃ x, e = .slice x) ∨ e = .string := by
    have := hu.kd
    cases e <;> simp [kdOf] at this <;> (rw [this] at hku; simp at hku) <;> simp
  have hg : n + m ≤ c ∨ Builtin.nextslicecap (n + m) c * je.bytes ≤ 281474976710656 := by
    rcases Nat.lt_or_ge c (n + m) with h | h
    · exact .inr (growslice_fits h (by rw [← heb]; omega))
    · exact .inl h
  by_cases hc : n + m ≤ c
  · rcases hin hc with ⟨rfl, rfl, hk⟩ | ⟨b, o, rfl, hw, hk⟩
    · refine ⟨_, _, _, w, ?_, .refl _ _, hk⟩
      rcases he with ⟨x, rfl⟩ | rfl <;>
        simp [Builtin.append_, r_und ht.und, r_size hie, r_und hu.und, hlen, hfirst w rfl, hc]
    · refine ⟨_, _, _, { w with heap := setCells w.heap b (o + n * ti.esize) xs }, ?_, Below.heap (by rw [size_setCells]; exact Nat.le_refl _), hk⟩
      have hst : (storeCells (⟨b, o + n * je.size, none⟩ : Addr) xs 0).run P w = .ok () { w with heap := setCells w.heap b (o + n * je.size) xs } :=
        r_storeCells xs _ 0 w h1 (by rw [← hes]; exact hw)
      rcases he with ⟨x, rfl⟩ | rfl <;>
        simp [Builtin.append_, r_und ht.und, r_size hie, r_und hu.und, hlen, hfirst w rfl, hc, add_eq, hst, hes]
  · obtain ⟨old, hold, hk⟩ := hout (by omega)
    have hg' := hg.resolve_left hc
    have hcut : ∃ g, n + m ≤ g ∧ (Question.appendCap (n + m) c el).cut (w.tape w.drawn (.appendCap (n + m) c el)) = g := ⟨_, Nat.le_add_right _ _, rfl⟩
    obtain ⟨g, hgm, hcut⟩ := hcut
    refine ⟨some ⟨w.heap.size, 0, none⟩, n + m, g, { w with heap := w.heap.push (.cells (old ++ xs ++ zerosOf ti.ezero (g - (n + m))).toArray ti.elem (0, 0)), drawn := w.drawn + 1 }, ?_, Below.heapd (by simp), hk g hgm⟩
    have hold' : ∀ w1 : World, w1.heap = w.heap → (Builtin.firstCells je.size n (.slice sa n c)).run P w1 = .ok old.toArray w1 := fun w1 hw1 => first_slice (by rw [hw1, ← hes]; exact hold)
    have hzc : Builtin.zeroCells ye.cells (g - (n + m)) = (zerosOf ti.ezero (g - (n + m))).toArray := by rw [hez]; exact zeros_eq _ _
    have hfo : (Question.appendCap (n + m) c el).forced = false := rfl
    have hg2 : ¬ Builtin.nextslicecap (n + m) c * je.bytes > 2 ^ 48 := by omega
    have h63'' : ¬ ((9223372036854775807 : Int) < (n : Int) + (m : Int)) := by omega
    rcases he with ⟨x, rfl⟩ | rfl <;>
      simp [Builtin.append_, r_und ht.und, r_size hie, r_und hu.und, hlen, hc, r_info hie, hcut, hfo, hold' w.drew rfl, hfirst w.drew rfl, r_zero hie hze, hzc, hel, newRow, hg2, h63''] <;>
      rfl

theorem appz_run {t u ty : TypeId} {ti ui : TI} {i d z j e y} {k k' : IntKind} (ht : TIs P t ti i d z) (hk : ti.kd = .slice) (hu : TIs P u ui j e y) (hku : ui.kd = .int k)
    {sv : Value} {q : Int} {K : Option Addr → Nat → Nat → Heap → Prop} (h : vcAppZ ti.elem ti.esize ti.ebytes ti.ezero sv q w.heap K) :
    ∃ sa sn sc w', (Builtin.append_ #[t, u] ty #[sv, .int k' q]).run P w = .ok (.slice sa sn sc) w' ∧ Below 0 w w' ∧ K sa sn sc w'.heap := by
  obtain ⟨sa, n, c, m, rfl, rfl, ⟨hbytes, h63⟩, h1, hin, hout⟩ := h
  have hd : ∃ el, d = .slice el := by
    have := ht.kd; rw [hk] at this
    cases d <;> simp [kdOf] at this
    exact ⟨_, rfl⟩
  obtain ⟨el, rfl⟩ := hd
  obtain ⟨hel, je, ye, hie, hze, hys, hpos, hes, heb, hez⟩ := ht.slice el rfl
  have he : e = .int k := by
    have := hu.kd
    rw [hku] at this
    cases e <;> simp [kdOf] at this
    rw [this]
  subst he
  have hw : IntKind.i64.wrap (m : Int) = m := IntWalk.i64_in _ ⟨by omega, by omega⟩
  have hmb : m * je.bytes ≤ 140737488355328 := by rw [← heb]; exact Nat.le_trans (Nat.mul_le_mul_right _ (Nat.le_add_left _ _)) hbytes
  have hmb' : ¬ ((281474976710656 : Int) < (m : Int) * (je.bytes : Int)) := by
    have : ((m * je.bytes : Nat) : Int) ≤ 140737488355328 := by omega
    rw [Int.natCast_mul] at this
    omega
  have hzc : ∀ x, Builtin.zeroCells ye.cells x = (zerosOf ti.ezero x).toArray := by intro x; rw [hez]; exact zeros_eq _ _
  have hg : n + m ≤ c ∨ Builtin.nextslicecap (n + m) c * je.bytes ≤ 281474976710656 := by
    rcases Nat.lt_or_ge c (n + m) with h | h
    · exact .inr (growslice_fits h (by rw [← heb]; omega))
    · exact .inl h
  have happ : ∀ w1 : World, ((if m * je.size = 0 then pure #[] else do pure (Builtin.zeroCells (← zeroValue el).cells m) : Sem (Array Value))).run P w1 = .ok (zerosOf ti.ezero m).toArray w1 := by
    intro w1
    by_cases h0 : m * je.size = 0
    · have hm0 : m = 0 := by
        rcases Nat.mul_eq_zero.1 h0 with h | h
        · exact h
        · omega
      rw [if_pos h0, hm0]
      simp [zerosOf]
    · rw [if_neg h0]
      simp [r_zero hie hze, hzc]
  have hm0 : ¬ ((m : Int) < 0) := by omega
  have hw0 : IntKind.i64.wrap 0 = 0 := IntWalk.i64_in _ ⟨by omega, by omega⟩
  by_cases hc : n + m ≤ c
  · rcases hin hc with ⟨rfl, rfl, hk⟩ | ⟨b, o, rfl, hw', hk⟩
    · refine ⟨_, _, _, w, ?_, .refl _ _, hk⟩
      simp only [Nat.add_zero] at hc
      simp [Builtin.append_, r_und ht.und, r_size hie, r_und hu.und, r_info hie, hc, asInt, asIntOf, hw0]
    · refine ⟨_, _, _, { w with heap := setCells w.heap b (o + n * ti.esize) (zerosOf ti.ezero m) }, ?_, Below.heap (by rw [size_setCells]; exact Nat.le_refl _), hk⟩
      have hones : ∀ c ∈ zerosOf ti.ezero m, c.oneCell' = true := by
        intro c hc
        simp only [zerosOf, List.mem_flatten, List.mem_replicate] at hc
        obtain ⟨l, ⟨_, rfl⟩, hc⟩ := hc
        exact h1 c hc
      have hst : (storeCells (⟨b, o + n * je.size, none⟩ : Addr) (zerosOf ti.ezero m) 0).run P w = .ok () { w with heap := setCells w.heap b (o + n * je.size) (zerosOf ti.ezero m) } :=
        r_storeCells _ _ 0 w hones (by rw [← hes, length_zerosOf]; rw [show ti.ezero.length = ti.esize from by rw [hez, hes, ← hys]; simp]; exact hw')
      have hm0' : ¬ ((m : Int) < 0) := by omega
      by_cases h0 : m * je.size = 0
      · have hmz : m = 0 := by
          rcases Nat.mul_eq_zero.1 h0 with h | h
          · exact h
          · omega
        subst hmz
        simp only [Nat.add_zero] at hc
        simp [Builtin.append_, r_und ht.und, r_size hie, r_und hu.und, r_info hie, asInt, asIntOf, hw0, hc, add_eq, hes, zerosOf, setCells, storeCells]
      · simp [Builtin.append_, r_und ht.und, r_size hie, r_und hu.und, r_info hie, asInt, asIntOf, hw, hmb', h0, r_zero hie hze, hzc, hc, add_eq, hst, hes, hm0']
  · obtain ⟨old, hold, hk⟩ := hout (by omega)
    have hg' := hg.resolve_left hc
    have hcut : ∃ g, n + m ≤ g ∧ (Question.appendCap (n + m) c el).cut (w.tape w.drawn (.appendCap (n + m) c el)) = g := ⟨_, Nat.le_add_right _ _, rfl⟩
    obtain ⟨g, hgm, hcut⟩ := hcut
    refine ⟨some ⟨w.heap.size, 0, none⟩, n + m, g, { w with heap := w.heap.push (.cells (old ++ zerosOf ti.ezero m ++ zerosOf ti.ezero (g - (n + m))).toArray ti.elem (0, 0)), drawn := w.drawn + 1 }, ?_, Below.heapd (by simp), hk g hgm⟩
    have hold' : ∀ w1 : World, w1.heap = w.heap → (Builtin.firstCells je.size n (.slice sa n c)).run P w1 = .ok old.toArray w1 := fun w1 hw1 => first_slice (by rw [hw1, ← hes]; exact hold)
    have hfo : (Question.appendCap (n + m) c el).forced = false := rfl
    have hg2 : ¬ Builtin.nextslicecap (n + m) c * je.bytes > 2 ^ 48 := by omega
    have h63'' : ¬ ((9223372036854775807 : Int) < (n : Int) + (m : Int)) := by omega
    by_cases h0 : m * je.size = 0
    · have hmz : m = 0 := by
        rcases Nat.mul_eq_zero.1 h0 with h | h
        · exact h
        · omega
      subst hmz
      simp only [Nat.add_zero] at hc hcut hfo hg2 h63'' hgm
      have h63a : ¬ ((9223372036854775807 : Int) < (n : Int)) := by omega
      simp [Builtin.append_, r_und ht.und, r_size hie, r_und hu.und, hc, r_info hie, hcut, hfo, hold' w.drew rfl, r_zero hie hze, hzc, hel, newRow, hg2, h63a, hw0, asInt, asIntOf, zerosOf] <;>
        rfl
    · simp [Builtin.append_, r_und ht.und, r_size hie, r_und hu.und, hc, r_info hie, hcut, hfo, hold' w.drew rfl, h0, hm0, r_zero hie hze, hzc, hel, newRow, hg2, h63'', hw, hmb', asInt, asIntOf] <;>
        rfl

theorem make_run {t : TypeId} {ti : TI} {i d z} {k k' : IntKind} (ht : TIs P t ti i d z) (hk : ti.kd = .slice)
    {l c : Int} {K : Option Addr → Nat → Nat → Heap → Prop} (h : MkK ti.elem ti.esize ti.ebytes ti.ezero l c w.heap K) :
    ∃ sa sn sc w', (Instr.makeSlice t (.int k l) (.int k' c)).run P w = .ok (.slice sa sn sc) w' ∧ Below 0 w w' ∧ K sa sn sc w'.heap := by
  obtain ⟨n, m, rfl, rfl, hnm, h63, hbytes, hK⟩ := h.out
  have hd : ∃ el, d = .slice el := by
    have := ht.kd; rw [hk] at this
    cases d <;> simp [kdOf] at this
    exact ⟨_, rfl⟩
  obtain ⟨el, rfl⟩ := hd
  obtain ⟨hel, je, ye, hie, hze, hys, hpos, hes, heb, hez⟩ := ht.slice el rfl
  refine ⟨_, _, _, { w with heap := w.heap.push (.cells (zerosOf ti.ezero m).toArray ti.elem (0, 0)) }, ?_, Below.heap (by simp), hK⟩
  have hw : IntKind.i64.wrap (n : Int) = n := IntWalk.i64_in _ ⟨by omega, by omega⟩
  have hw2 : IntKind.i64.wrap (m : Int) = m := IntWalk.i64_in _ ⟨by omega, by omega⟩
  have hmb' : ¬ ((281474976710656 : Int) < (je.bytes : Int) * (m : Int)) := by
    have : ((m * ti.ebytes : Nat) : Int) ≤ 140737488355328 := by omega
    rw [heb, Int.natCast_mul, Int.mul_comm] at this
    omega
  have hneg : ¬ ((n : Int) < 0) := by omega
  have hneg2 : ¬ ((m : Int) < 0) := by omega
  have hle : ¬ ((m : Int) < (n : Int)) := by omega
  have hle' : ¬ (m < n) := by omega
  have hc0 : (if m * je.size = 0 then #[] else ye.cells) = #[] ∧ m = 0 ∨ (if m * je.size = 0 then #[] else ye.cells) = ye.cells := by
    by_cases h0 : m * je.size = 0
    · refine .inl ⟨if_pos h0, ?_⟩
      rcases Nat.mul_eq_zero.1 h0 with h | h
      · exact h
      · omega
    · exact .inr (if_neg h0)
  by_cases h0 : m * je.size = 0
  · have hm0 : m = 0 := by
      rcases Nat.mul_eq_zero.1 h0 with h | h
      · exact h
      · omega
    subst hm0
    have hn0 : n = 0 := by omega
    subst hn0
    have hw0 : IntKind.i64.wrap 0 = 0 := IntWalk.i64_in _ ⟨by omega, by omega⟩
    simp [Instr.makeSlice, r_und ht.und, asInt, asIntOf, r_info hie, r_size hie, newRow, hel, zerosOf, hw0]
    have e0 : Array.range 0 = #[] := by simp [Array.range]
    rw [e0, show ∀ f : Nat → Value, Array.map f #[] = #[] from fun f => by simp]
  · have hz := zeros_eq ye.cells m
    rw [hys] at hz
    simp [Instr.makeSlice, r_und ht.und, asInt, asIntOf, r_info hie, r_size hie, newRow, hel, hw, hw2, hmb', hle', h0, r_zero hie hze, hys, hez]
    rw [← hz]
    rfl

theorem bytes_run {src dst e : TypeId} {a : Option Addr} {n c : Nat} {s : ByteArray} (hs : P.underlying src = some (.slice e)) (he : P.underlying e = some (.int .u8)) (hd : P.underlying dst = some .string)
    (hn : s.size = n) (hr : RdCells w.heap a n (strCells s)) : (convert src dst (.slice a n c)).run P w = .ok (.string s) w := by
  subst hn
  cases a with
  | none =>
    have h0 := hr.2
    simp only at h0
    rw [run_convert_bytes_nil w src e hs he _ c dst hd]
    have : s = ByteArray.empty := by
      have : s.data.size = 0 := h0
      cases s with | mk d => simp at this; subst this; rfl
    rw [this]
  | some a =>
    obtain ⟨b, o, sp⟩ := a
    obtain ⟨hsp, h⟩ := hr.2
    subst hsp
    simp only at h
    have hlen : s.data.toList.length = s.size := rfl
    rw [run_convert_bytes_arg w src e hs he b o s.size c (s.data.toList.map fun b => (b.toNat : Int)) (by rw [List.length_map]; exact hlen) ?_ dst hd]
    · congr 2
      unfold strOfNums
      cases s with | mk d =>
        congr 1
        apply Array.ext'
        simp only [List.map_map]
        have : ∀ l : List UInt8, List.map ((fun n : Int => UInt8.ofNat n.toNat) ∘ fun b : UInt8 => (b.toNat : Int)) l = l := by
          intro l
          induction l with
          | nil => rfl
          | cons x l ih => rw [List.map_cons, ih]; congr 1; exact UInt8.toNat_inj.1 (by simp)
        rw [this]
    · intro i hi
      rw [cell?_eq]
      have hi' : i < s.data.toList.length := by rw [hlen]; exact hi
      rw [h i _ (by simp only [strCells]; rw [List.getElem?_map, List.getElem?_eq_getElem hi']; rfl)]
      rw [List.getD_eq_getElem?_getD, List.getElem?_map, List.getElem?_eq_getElem hi']
      rfl

end
end Go.Vx
