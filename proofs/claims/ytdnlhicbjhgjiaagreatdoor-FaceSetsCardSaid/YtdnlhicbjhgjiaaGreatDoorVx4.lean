/- The walk by verification conditions: each operation's condition is enough. No condition. -/
import Derived.Test.YtdnlhicbjhgjiaaGreatDoorVx3
namespace Go.Vx
open Go.RowKit

theorem Below.heap {w : World} {h' : Heap} (hs : w.heap.size ≤ h'.size) : Below 0 w { w with heap := h' } :=
  ⟨rfl, rfl, rfl, hs, fun _ hk => absurd hk (Nat.not_lt_zero _)⟩

theorem Below.heapd {w : World} {h' : Heap} {n : Nat} (hs : w.heap.size ≤ h'.size) : Below 0 w { w with heap := h', drawn := n } :=
  ⟨rfl, rfl, rfl, hs, fun _ hk => absurd hk (Nat.not_lt_zero _)⟩

section
variable {P : Program} {o : Oper} {a : Act} {w : World} {next : Act → World → Prop} {Q' : Exit → Act → World → Prop}

theorem wp_value {v : Value} {w' : World} (hrun : (execOp a.eval o).run P w = .ok (.value v) w') (h : next (a.put o.dst v) w') : o.wp P a w next Q' := by
  unfold Oper.wp; rw [hrun]; exact h

theorem wp_skip' {w' : World} (hrun : (execOp a.eval o).run P w = .ok .skip w') (h : next (a.put o.dst undef) w') : o.wp P a w next Q' := by
  unfold Oper.wp; rw [hrun]; exact h

theorem wp_panic {v : Value} {w' : World} (hrun : (execOp a.eval o).run P w = .halt (.panic v) w') (h : Q' (.panic [{ v, recovered := false }]) a w') : o.wp P a w next Q' := by
  unfold Oper.wp; rw [hrun]; exact h

theorem wp_enter {f : FuncId} {args : Array Value} {w' : World} (hrun : (execOp a.eval o).run P w = .ok (.enter f args) w')
    (h : Calls P f args w' fun
      | .returned v, w'' => next (a.put o.dst v) w''
      | .panicked chain, w'' => Q' (.panic chain) a w''
      | .outgrown, _ => LetsOut Q') : o.wp P a w next Q' := by
  unfold Oper.wp; rw [hrun]; exact h

end

theorem wrap_of {k : IntKind} {y x : Int} (h : Wr k y x) : k.wrap y = x := h.eq.symm

section
variable {P : Program} {w : World}

theorem r_bin {op : BinOp} {t : TypeId} {x y : Value} {K : Value → Prop} (h : vcBin op x y K) : ∃ v, (binOp op t x y).run P w = .ok v w ∧ K v := by
  unfold vcBin at h
  split at h
  case h_24 => cases h
  case h_17 =>
    obtain ⟨h1, h2⟩ := h
    refine ⟨_, ?_, h2⟩
    simp only [binOp, Op.stringOp]
    rw [if_neg (by rw [show IntKind.i64.max = 9223372036854775807 from rfl]; exact Int.not_lt.2 h1)]
    rfl
  case h_12 =>
    obtain ⟨h1, n, hn, h2⟩ := h
    refine ⟨_, ?_, h2⟩
    simp only [binOp, Op.shift]
    rw [if_neg (by omega)]
    simp [wrap_of hn]
  case h_13 =>
    obtain ⟨h1, h2⟩ := h
    refine ⟨_, ?_, h2⟩
    simp only [binOp, Op.shift]
    rw [if_neg (by omega)]
    simp
  case h_4 =>
    obtain ⟨hkk, h1, n, hn, h2⟩ := chk_out h
    simp only [decide_eq_true_eq] at hkk; subst hkk
    refine ⟨_, ?_, h2⟩
    simp [binOp, Op.intDiv, h1, wrap_of hn]
  case h_5 =>
    obtain ⟨hkk, h1, h2⟩ := chk_out h
    simp only [decide_eq_true_eq] at hkk; subst hkk
    refine ⟨_, ?_, h2⟩
    simp [binOp, Op.intDiv, h1]
  case h_1 | h_2 | h_3 =>
    obtain ⟨hkk, n, hn, h2⟩ := chk_out h
    simp only [decide_eq_true_eq] at hkk; subst hkk
    refine ⟨_, ?_, h2⟩
    simp [binOp, Op.intArith, wrap_of hn]
  case h_14 | h_15 | h_16 =>
    obtain ⟨hkk, n, hn, h2⟩ := chk_out h
    simp only [decide_eq_true_eq] at hkk; subst hkk
    refine ⟨_, ?_, h2⟩
    simpa [binOp, Op.intBits] using wrap_of hn
  case h_6 | h_7 | h_8 | h_9 | h_10 | h_11 =>
    obtain ⟨hkk, h2⟩ := chk_out h
    simp only [decide_eq_true_eq] at hkk; subst hkk
    refine ⟨_, ?_, h2⟩
    simp [binOp, Op.intCmp]
  all_goals
    refine ⟨_, ?_, h⟩
    simp [binOp, Op.stringOp, strEq, strLt]

theorem r_eqNil {kd : Kd} {t : TypeId} {ti : TI} {i d z} (ht : TIs P t ti i d z) (hk : ti.kd = kd) {x y : Value} {K : Bool → Prop} (h : vcNil kd x y K) :
    ∃ b, (Op.equal t x y).run P w = .ok b w ∧ K b := by
  subst hk
  have hu := ht.und
  have hkd := ht.kd
  rw [Op.equal, show Op.maxDepth = 9999 + 1 from rfl, Op.equalIn]
  simp only [Sem.run_bind, r_und hu, Result.andThen_ok]
  unfold vcNil at h
  split at h <;> rename_i hkk <;> (try (cases h; done)) <;> rw [hkd] at hkk <;> refine ⟨_, ?_, h⟩ <;>
    (cases d <;> simp [kdOf] at hkk) <;> first | rfl | (rename Option Addr => a; cases a <;> rfl) | (rename Option Nat => a; cases a <;> rfl)


theorem Sub.parts {n : Nat} {a : Act} {r : Regs} (hs : Sub n a r) : ∀ {xs : List (Nat × Operand)} {k : List (Nat × Value) → Prop}, evParts r xs k → k (xs.map fun x => (x.1, a.eval x.2))
  | [], _, he => he
  | _ :: xs, _, he => Sub.parts hs (xs := xs) (hs.eval he)

theorem Sub.opt {n : Nat} {a : Act} {r : Regs} (hs : Sub n a r) : ∀ {x : Option Operand} {k : Option Value → Prop}, optEv r x k → k (x.map a.eval)
  | none, _, he => he
  | some _, _, he => hs.eval he

theorem take_set_succ {α : Type} (l : List α) (i : Nat) (x : α) (h : i < l.length) : (l.set i x).take (i + 1) = l.take i ++ [x] := by
  rw [List.take_succ_eq_append_getElem (by simpa using h)]
  simp only [List.take_set, List.getElem_set_self]
  rw [List.set_eq_of_length_le (by simp; omega)]

theorem foldl_setl {α : Type} (l : List α) : ∀ (cells : Array α) (off k : Nat), off + k + l.length ≤ cells.size →
    ((l.zipIdx k).foldl (fun cs (x : α × Nat) => cs.setIfInBounds (off + x.2) x.1) cells).toList =
      cells.toList.take (off + k) ++ l ++ cells.toList.drop (off + k + l.length) := by
  induction l with
  | nil => intro cells off k _; simp
  | cons x l ih =>
    intro cells off k hl
    simp only [List.zipIdx_cons, List.foldl_cons]
    simp only [List.length_cons] at hl
    rw [ih _ off (k + 1) (by simp; omega)]
    rw [Array.toList_setIfInBounds]
    have hlt : off + k < cells.toList.length := by simp; omega
    rw [show off + (k + 1) = off + k + 1 from rfl, take_set_succ _ _ _ hlt, List.drop_set_of_lt (by omega)]
    simp [Nat.add_assoc, Nat.add_comm 1]

theorem fill_eq {place : Nat → Option (Nat × Nat)} {fields : List (Nat × Nat × Bool)} (hp : ∀ i off size b, fields[i]? = some (off, size, b) → place i = some (off, size)) :
    ∀ (ps : List (Nat × Value)) (cells : Array Value) (cs : List Value), fillL fields cells.toList ps = some cs → Instr.fill place cells ps = some cs.toArray
  | [], cells, cs, h => by simp [fillL] at h; simp [Instr.fill, ← h]
  | (i, v) :: ps, cells, cs, h => by
    simp only [fillL] at h
    split at h
    case h_2 => cases h
    rename_i off size b hf
    split at h
    case isFalse => cases h
    rename_i hsz
    obtain ⟨h1, h2⟩ := hsz
    simp only [Instr.fill, hp i off size b hf]
    have h1' : v.cells.size = size := by simpa [vcells] using h1
    have h2' : off + size ≤ cells.size := by simpa using h2
    rw [if_neg (by simp [h1']; omega)]
    refine fill_eq hp ps _ cs ?_
    have e := foldl_setl v.cells.toList cells off 0 (by simp; omega)
    rw [← Array.foldl_toList, Array.toList_zipIdx, e]
    simpa [vcells, h1'] using h

theorem mapM_run {α β : Type} (g : α → Sem β) (g' : α → β) : ∀ (l : List α) (w : World), (∀ x ∈ l, (g x).run P w = .ok (g' x) w) → (l.mapM g).run P w = .ok (l.map g') w
  | [], w, _ => by simp
  | x :: l, w, h => by
    rw [List.mapM_cons]
    simp only [Sem.run_bind, h x (by simp), Result.andThen_ok, mapM_run g g' l w (fun y hy => h y (by simp [hy])), Sem.run_pure, List.map_cons]

theorem mapM_runA {α β : Type} (g : α → Sem β) (g' : α → β) (l : Array α) (w : World) (h : ∀ x ∈ l.toList, (g x).run P w = .ok (g' x) w) :
    (l.mapM g).run P w = .ok (l.map g') w := by
  rw [Array.mapM_eq_mapM_toList]
  simp only [Sem.run_map, mapM_run g g' l.toList w h, Result.andThen_ok]
  simp only [← Array.toList_map, Array.toArray_toList]

theorem length_zerosOf (ze : List Value) (n : Nat) : (zerosOf ze n).length = n * ze.length := by simp [zerosOf]

theorem zerosOf_get (ze : List Value) : ∀ (n j : Nat), j < n * ze.length → (zerosOf ze n)[j]? = ze[j % ze.length]?
  | 0, j, h => by omega
  | n + 1, j, h => by
    rw [Nat.succ_mul] at h
    simp only [zerosOf, List.replicate_succ, List.flatten_cons]
    by_cases hj : j < ze.length
    · rw [List.getElem?_append_left hj, Nat.mod_eq_of_lt hj]
    · rw [List.getElem?_append_right (by omega)]
      have := zerosOf_get ze n (j - ze.length) (by omega)
      rw [zerosOf] at this
      rw [this, ← Nat.mod_eq_sub_mod (by omega)]

theorem zeros_eq (zero : Array Value) (n : Nat) : (Array.range (n * zero.size)).map (fun j => zero[j % zero.size]!) = (zerosOf zero.toList n).toArray := by
  apply Array.ext'
  apply List.ext_getElem?
  intro j
  by_cases hj : j < n * zero.size
  · have h0 : 0 < zero.size := by
      rcases Nat.eq_zero_or_pos zero.size with h | h
      · rw [h] at hj; omega
      · exact h
    have hm := Nat.mod_lt j h0
    rw [zerosOf_get _ _ _ (by simpa using hj)]
    simp [hj, hm]
  · simp [hj, length_zerosOf]

end
end Go.Vx
