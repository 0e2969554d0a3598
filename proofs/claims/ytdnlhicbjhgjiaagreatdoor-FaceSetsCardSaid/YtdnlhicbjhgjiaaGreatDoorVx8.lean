/- The walk by verification conditions: regions that draw their order. No condition. -/
import Derived.Test.YtdnlhicbjhgjiaaGreatDoorVx7
namespace Go.Vx
open Go.RowKit

section
variable {P : Program} {ops : Array Oper} {Q : Exit → Act → World → Prop} {md : Region.Mode}

/-- In this state and world the operation leaves 'v' and does nothing else. -/
def YieldsAt (P : Program) (ops : Array Oper) (o : Oper) (v : Value) (a : Act) (w : World) : Prop :=
  (Region.wanted o (yielded ops a.tmps) = true ∧ (execOp a.eval o).run P w = .ok (.value v) w) ∨
  (Region.wanted o (yielded ops a.tmps) = false ∧ v = undef)

theorem YieldsAt.wpOp {i : Nat} {o : Oper} {v : Value} {a : Act} {w : World} (hi : ops[i]? = some o) (hy : YieldsAt P ops o v a w)
    {K : Act → World → Prop} (h : K (a.put o.dst v) w) : wpOp P ops Q i K a w := by
  unfold Go.wpOp
  simp only [hi]
  rcases hy with ⟨hw, hv⟩ | ⟨hw, rfl⟩
  · simp only [hw, if_true, Oper.wp, hv, Oper.upon]; exact .inl h
  · simp only [hw, Bool.false_eq_true, if_false]; exact h

theorem YieldsAt.of_same {o : Oper} {v : Value} {a a' : Act} {w : World} (hy : YieldsAt P ops o v a w) (he : execOp a'.eval o = execOp a.eval o)
    (hw : Region.wanted o (yielded ops a'.tmps) = Region.wanted o (yielded ops a.tmps)) : YieldsAt P ops o v a' w := by
  unfold YieldsAt at *
  rw [he, hw]
  exact hy

def NoSel (ops : Array Oper) : Prop := ∀ (j : Nat) (o : Oper) cs b, ops[j]? = some o → o.op ≠ .select cs b

theorem YieldsAt.put {i : Nat} {o : Oper} {v : Value} {a : Act} {w : World} (hs : NoSel ops) (hi : ops[i]? = some o) (hy : YieldsAt P ops o v a w) {d : Option Tmp} {u : Value}
    (hd : ∀ t, d = some t → t ∉ o.looksAt ops) : YieldsAt P ops o v (a.put d u) w :=
  hy.of_same (execOp_put o (fun cs b => hs i o cs b hi) a d u hd) (wanted_put o a d u hd)

theorem YieldsAt.unput {i : Nat} {o : Oper} {v : Value} {a : Act} {w : World} (hs : NoSel ops) (hi : ops[i]? = some o) {d : Option Tmp} {u : Value}
    (hy : YieldsAt P ops o v (a.put d u) w) (hd : ∀ t, d = some t → t ∉ o.looksAt ops) : YieldsAt P ops o v a w :=
  hy.of_same (execOp_put o (fun cs b => hs i o cs b hi) a d u hd).symm (wanted_put o a d u hd).symm

/-- Must 'j' wait for 'i'? -/
def waits (md : Region.Mode) (ops : Array Oper) : Nat → Nat → Nat → Bool
  | 0, _, _ => false
  | n + 1, j, i => match ops[j]? with
    | some o => o.after.toList.any fun e => Region.binds md e && (e.on == i || waits md ops n e.on i)
    | none => false

def Closed (md : Region.Mode) (ops : Array Oper) (listed : Array Bool) : Prop :=
  ∀ k o, listed.getD k false = true → ops[k]? = some o → ∀ e ∈ o.after, Region.binds md e = true → listed.getD e.on false = true

theorem Closed.set {listed : Array Bool} (hc : Closed md ops listed) {j : Nat} (hj : j ∈ Region.ready md ops listed) : Closed md ops (listed.setIfInBounds j true) := by
  intro k o hk ho e he hb
  by_cases hkj : j = k
  · subst hkj
    obtain ⟨_, o', ho', hall⟩ := mem_ready.1 hj
    rw [ho] at ho'; cases ho'
    exact getD_set_true (hall e he hb)
  · rw [getD_set_ne false hkj] at hk
    exact getD_set_true (hc k o hk ho e he hb)

theorem waits_listed {listed : Array Bool} (hc : Closed md ops listed) : ∀ (n j i : Nat), waits md ops n j i = true → listed.getD j false = true → listed.getD i false = true
  | 0, _, _, h, _ => by simp [waits] at h
  | n + 1, j, i, h, hj => by
    unfold waits at h
    split at h
    · rename_i o ho
      obtain ⟨e, he, h⟩ := List.any_eq_true.1 h
      simp only [Bool.and_eq_true, Bool.or_eq_true, beq_iff_eq] at h
      have h1 := hc j o hj ho e (by simpa using he) h.1
      rcases h.2 with h2 | h2
      · rw [← h2]; exact h1
      · exact waits_listed hc n _ i h2 h1
    · cases h

theorem waits_ready {listed : Array Bool} (hc : Closed md ops listed) {n j i : Nat} (h : waits md ops n j i = true) (hj : j ∈ Region.ready md ops listed) : listed.getD i false = true := by
  have := waits_listed (hc.set hj) n j i h (by
    obtain ⟨h0, _⟩ := mem_ready.1 hj
    rcases Nat.lt_or_ge j listed.size with h' | h'
    · simp [h']
    · simp [Array.getElem?_eq_none h'] at h0)
  by_cases hij : j = i
  · subst hij
    -- an operation that waits for itself never comes up
    unfold waits at h
    cases n with
    | zero => simp at h
    | succ n =>
      simp only at h
      split at h
      · rename_i o ho
        obtain ⟨e, he, h⟩ := List.any_eq_true.1 h
        simp only [Bool.and_eq_true, Bool.or_eq_true, beq_iff_eq] at h
        obtain ⟨h0, o', ho', hall⟩ := mem_ready.1 hj
        rw [ho] at ho'; cases ho'
        have h1 := hall e (by simpa using he) h.1
        rcases h.2 with h2 | h2
        · rw [← h2]; exact h1
        · exact waits_listed hc n _ _ h2 h1
      · cases h
  · rwa [getD_set_ne false hij] at this

/-- What has been taken first, and must still hold behind whatever does not wait for it. -/
abbrev Taken := List (Nat × Oper × Value)

/-- Behind 'j' what it waits for is done. -/
def after (md : Region.Mode) (ops : Array Oper) (n j : Nat) (T : Taken) : Taken := T.filter fun x => !waits md ops n j x.1

def StillAt (P : Program) (md : Region.Mode) (ops : Array Oper) (n : Nat) (T : Taken) (j : Nat) (a : Act) (w : World) : Prop :=
  ∀ x ∈ T, waits md ops n j x.1 = false → YieldsAt P ops x.2.1 x.2.2 a w

/-- Whatever order is picked; 'qs': those that only yield. -/
def wpAnyP (P : Program) (md : Region.Mode) (ops : Array Oper) (Q : Exit → Act → World → Prop) (n : Nat) (qs : Nat → Bool) : Nat → Array Bool → Taken → Act → World → Prop
  | 0, listed, _, a, w => Region.ready md ops listed = [] ∧ Q .normal a w
  | fuel + 1, listed, T, a, w =>
    (Region.ready md ops listed = [] → Q .normal a w) ∧
    ∀ j ∈ Region.ready md ops listed, ∀ o, ops[j]? = some o →
      if qs j then ∃ u, YieldsAt P ops o u a w ∧ wpAnyP P md ops Q n qs fuel (listed.setIfInBounds j true) T (a.put o.dst u) w
      else wpOp P ops Q j (fun a' w' => StillAt P md ops n T j a' w' ∧ wpAnyP P md ops Q n qs fuel (listed.setIfInBounds j true) (after md ops n j T) a' w') a w

variable {n : Nat} {qs : Nat → Bool}

theorem wpAny_of_P : ∀ (fuel : Nat) (listed : Array Bool) (T : Taken) (a : Act) (w : World), wpAnyP P md ops Q n qs fuel listed T a w → wpAny P md ops Q fuel listed a w
  | 0, _, _, _, _, h => h
  | fuel + 1, listed, T, a, w, h => by
    refine ⟨h.1, fun j hj => ?_⟩
    obtain ⟨_, o, ho, _⟩ := mem_ready.1 hj
    have := h.2 j hj o ho
    split at this
    · obtain ⟨u, hu, hk⟩ := this
      exact hu.wpOp ho (wpAny_of_P fuel _ T _ _ hk)
    · exact wpOp_mono (fun a' w' h' => wpAny_of_P fuel _ _ a' w' h'.2) this

theorem wpAnyP_drop {x : Nat × Oper × Value} : ∀ (fuel : Nat) (listed : Array Bool) (T : Taken) (a : Act) (w : World), wpAnyP P md ops Q n qs fuel listed (x :: T) a w → wpAnyP P md ops Q n qs fuel listed T a w
  | 0, _, _, _, _, h => h
  | fuel + 1, listed, T, a, w, h => by
    refine ⟨h.1, fun j hj o ho => ?_⟩
    have := h.2 j hj o ho
    split
    · rename_i hq
      rw [if_pos hq] at this
      obtain ⟨u, hu, hk⟩ := this
      exact ⟨u, hu, wpAnyP_drop fuel _ T _ _ hk⟩
    · rename_i hq
      rw [if_neg hq] at this
      refine wpOp_mono (fun a' w' h' => ⟨fun y hy => h'.1 y (List.mem_cons_of_mem _ hy), ?_⟩) this
      have h2 := h'.2
      unfold after at h2 ⊢
      rw [List.filter_cons] at h2
      split at h2
      · exact wpAnyP_drop fuel _ _ a' w' h2
      · exact h2

/-- One operation apart from one that has been taken first. -/
theorem wpOp_unput {j : Nat} {oi oj : Oper} {v : Value} (hj : ops[j]? = some oj) (hap : oi.apart ops oj = true) (hsj : ∀ cs b, oj.op ≠ .select cs b)
    (hQ : ∀ c a w, Q (.panic c) (a.put oi.dst v) w → Q (.panic c) a w) {K : Act → World → Prop} {a : Act} {w : World}
    (h : wpOp P ops Q j K (a.put oi.dst v) w) :
    wpOp P ops Q j (fun a' w' => K (a'.put oi.dst v) w') a w := by
  obtain ⟨h1, h2, _⟩ := Oper.apart_spec hap
  unfold wpOp at *
  simp only [hj] at *
  rw [wanted_put oj a oi.dst v h1] at h
  split
  · rename_i hw
    simp only [hw, if_true] at h
    rcases h with h | ⟨hasks, hlets⟩
    case inr => exact .inr ⟨by unfold Oper.asks at *; rw [execOp_put oj hsj a oi.dst v h1] at hasks; exact hasks, hlets⟩
    refine .inl ?_
    unfold Oper.wp at *
    rw [execOp_put oj hsj a oi.dst v h1] at h
    generalize (execOp a.eval oj).run P w = r at *
    cases r with
    | ok n w' =>
      cases n <;> simp only [Oper.upon] at h ⊢
      case value u => rw [← Act.put_comm a v u h2]; exact h
      case skip => rw [← Act.put_comm a v undef h2]; exact h
      case defer d =>
        rw [← Act.put_comm _ v undef h2, ← Act.put_defers]
        exact h
      case enter f args =>
        refine Calls.mono h fun e w'' he => ?_
        cases e with
        | returned u => show K ((a.put oj.dst u).put oi.dst v) w''; rw [← Act.put_comm a v u h2]; exact he
        | panicked c => exact hQ _ _ _ he
        | outgrown => exact he
      case row row args => exact Rows.mono h fun u w'' he => by rw [← Act.put_comm a v u h2]; exact he
    | halt x w' =>
      cases x <;> simp only [Oper.upon] at h ⊢
      case panic u => exact hQ _ _ _ h
  · rename_i hw
    simp only [hw] at h
    rw [← Act.put_comm a v undef h2]; exact h

theorem wpAnyP_zero {T T' : Taken} {listed : Array Bool} {a : Act} {w : World} (h : wpAnyP P md ops Q n qs 0 listed T a w) : wpAnyP P md ops Q n qs 0 listed T' a w := h

/-- What everything that is left waits for may be kept in the list or not. -/
theorem wpAnyP_more : ∀ (fuel : Nat) (listed : Array Bool) (T2 T : Taken) (a : Act) (w : World),
    (∀ x ∈ T, x ∈ T2 ∨ ∀ (k : Nat) (ok : Oper), ops[k]? = some ok → listed.getD k true = false → qs k = false → waits md ops n k x.1 = true) →
    wpAnyP P md ops Q n qs fuel listed T2 a w → wpAnyP P md ops Q n qs fuel listed T a w
  | 0, _, _, _, _, _, _, h => h
  | fuel + 1, listed, T2, T, a, w, hd, h => by
    refine ⟨h.1, fun j hj o ho => ?_⟩
    have := h.2 j hj o ho
    have hjun := (mem_ready.1 hj).1
    have hd' : ∀ {T T2 : Taken}, (∀ x ∈ T, x ∈ T2 ∨ ∀ (k : Nat) (ok : Oper), ops[k]? = some ok → listed.getD k true = false → qs k = false → waits md ops n k x.1 = true) →
        ∀ x ∈ T, x ∈ T2 ∨ ∀ (k : Nat) (ok : Oper), ops[k]? = some ok → (listed.setIfInBounds j true).getD k true = false → qs k = false → waits md ops n k x.1 = true := by
      intro T T2 h x hx
      rcases h x hx with h | h
      · exact .inl h
      · refine .inr fun k ok hk hkl hkq => h k ok hk ?_ hkq
        by_cases hjk : j = k
        · subst hjk; exact hjun
        · rw [getD_set_ne true hjk] at hkl; exact hkl
    split
    · rename_i hq
      rw [if_pos hq] at this
      obtain ⟨u, hu, hk⟩ := this
      exact ⟨u, hu, wpAnyP_more fuel _ T2 T _ _ (hd' hd) hk⟩
    · rename_i hq
      rw [if_neg hq] at this
      refine wpOp_mono (fun a' w' h' => ⟨fun x hx hwx => ?_, wpAnyP_more fuel _ (after md ops n j T2) (after md ops n j T) a' w' (hd' fun x hx => ?_) h'.2⟩) this
      · rcases hd x hx with h | h
        · exact h'.1 x h hwx
        · have := h j o ho hjun (by simpa using hq)
          rw [this] at hwx; cases hwx
      · obtain ⟨hx1, hx2⟩ := List.mem_filter.1 hx
        rcases hd x hx1 with h | h
        · exact .inl (List.mem_filter.2 ⟨h, hx2⟩)
        · exact .inr h

theorem wpAnyP_first {i : Nat} {oi : Oper} {v : Value} (hi : ops[i]? = some oi) (hs : NoSel ops) (hqi : qs i = true)
    (hQ : ∀ c a w, Q (.panic c) (a.put oi.dst v) w → Q (.panic c) a w) (hself : ∀ t, oi.dst = some t → t ∉ oi.looksAt ops) :
    ∀ (fuel : Nat) (listed : Array Bool) (T T2 : Taken) (a : Act) (w : World),
      (∀ j oj, ops[j]? = some oj → j ≠ i → listed.getD j true = false → (∀ e ∈ oj.after, Region.binds md e = true → e.on ≠ i) → oi.apart ops oj = true) →
      (∀ x ∈ T2, ∃ k : Nat, ops[k]? = some x.2.1 ∧ ∀ t, oi.dst = some t → t ∉ x.2.1.looksAt ops) →
      (∀ x ∈ T, x ∈ T2 ∨ ∀ (k : Nat) (ok : Oper), ops[k]? = some ok → k ≠ i → listed.getD k true = false → qs k = false → waits md ops n k x.1 = true) →
      Closed md ops listed → i ∈ Region.ready md ops listed → YieldsAt P ops oi v a w →
      wpAnyP P md ops Q n qs fuel (listed.setIfInBounds i true) ((i, oi, v) :: T2) (a.put oi.dst v) w → wpAnyP P md ops Q n qs (fuel + 1) listed T a w := by
  intro fuel
  induction fuel with
  | zero =>
    intro listed T T2 a w _ _ hdr _ hr hy H
    refine ⟨fun h => (by rw [h] at hr; cases hr), fun j hj o ho => ?_⟩
    by_cases hji : j = i
    · subst hji
      rw [hi] at ho; cases ho
      rw [if_pos hqi]; exact ⟨v, hy, wpAnyP_zero H⟩
    · have := ready_mono hj hji
      rw [H.1] at this
      cases this
  | succ fuel ih =>
    intro listed T T2 a w hfree hT hdr hc hr hy H
    refine ⟨fun h => (by rw [h] at hr; cases hr), fun j hj o ho => ?_⟩
    by_cases hji : j = i
    · subst hji
      rw [hi] at ho; cases ho
      rw [if_pos hqi]
      refine ⟨v, hy, wpAnyP_more _ _ T2 T _ _ (fun x hx => ?_) (wpAnyP_drop _ _ _ _ _ H)⟩
      rcases hdr x hx with h | h
      · exact .inl h
      · exact .inr fun k ok hk hkl hkq => by
          by_cases hki : k = j
          · subst hki; rw [hqi] at hkq; cases hkq
          · exact h k ok hk hki (by rw [getD_set_ne true (Ne.symm hki)] at hkl; exact hkl) hkq
    · have h1 := H.2 j (ready_mono hj hji) o ho
      obtain ⟨hjun, oj, hoj, hall⟩ := mem_ready.1 hj
      rw [ho] at hoj; cases hoj
      have hiun : listed.getD i false = false := by
        have h0 := (mem_ready.1 hr).1
        rcases Nat.lt_or_ge i listed.size with h' | h'
        · simp [h'] at h0 ⊢; exact h0
        · simp [Array.getElem?_eq_none h'] at h0
      have hnot : ∀ e ∈ o.after, Region.binds md e = true → e.on ≠ i := fun e he hb heq => by
        have h1 := hall e he hb
        rw [heq, hiun] at h1; cases h1
      have hap := hfree j o ho hji hjun hnot
      obtain ⟨g1, g2, g3⟩ := Oper.apart_spec hap
      have hfree' : ∀ k ok, ops[k]? = some ok → k ≠ i → (listed.setIfInBounds j true).getD k true = false →
          (∀ e ∈ ok.after, Region.binds md e = true → e.on ≠ i) → oi.apart ops ok = true := fun k ok hk hki hun hno => by
        refine hfree k ok hk hki ?_ hno
        by_cases hjk : j = k
        · subst hjk; exact hjun
        · rw [getD_set_ne true hjk] at hun; exact hun
      have hcomm : (listed.setIfInBounds i true).setIfInBounds j true = (listed.setIfInBounds j true).setIfInBounds i true := Array.setIfInBounds_comm _ _ (Ne.symm hji)
      have hdr' : ∀ {T T2 : Taken}, (∀ x ∈ T, x ∈ T2 ∨ ∀ (k : Nat) (ok : Oper), ops[k]? = some ok → k ≠ i → listed.getD k true = false → qs k = false → waits md ops n k x.1 = true) →
          ∀ x ∈ T, x ∈ T2 ∨ ∀ (k : Nat) (ok : Oper), ops[k]? = some ok → k ≠ i → (listed.setIfInBounds j true).getD k true = false → qs k = false → waits md ops n k x.1 = true := by
        intro T T2 h x hx
        rcases h x hx with h | h
        · exact .inl h
        · refine .inr fun k ok hk hki hkl hkq => h k ok hk hki ?_ hkq
          by_cases hjk : j = k
          · subst hjk; exact hjun
          · rw [getD_set_ne true hjk] at hkl; exact hkl
      split
      · rename_i hq
        rw [if_pos hq] at h1
        obtain ⟨u, hu, hk⟩ := h1
        refine ⟨u, hu.unput hs ho g1, ih _ T T2 _ w hfree' hT (hdr' hdr) (hc.set hj) (ready_mono hr (Ne.symm hji)) (hy.put hs hi g3) ?_⟩
        rw [← hcomm, ← Act.put_comm a v u g2]
        exact hk
      · rename_i hq
        rw [if_neg hq] at h1
        have h2 := wpOp_unput ho hap (fun cs b => hs j o cs b ho) hQ h1
        refine wpOp_mono (fun a' w' h3 => ?_) h2
        have hnw : waits md ops n j i = false := by
          cases hw : waits md ops n j i with
          | false => rfl
          | true => have := waits_ready hc hw hj; rw [hiun] at this; cases this
        have hst : YieldsAt P ops oi v a' w' := by
          have := h3.1 (i, oi, v) (by simp) hnw
          exact this.unput hs hi hself
        refine ⟨?_, ih _ (after md ops n j T) (after md ops n j T2) a' w' hfree' (fun x hx => hT x (List.mem_filter.1 hx).1) (hdr' ?_) (hc.set hj) (ready_mono hr (Ne.symm hji)) hst ?_⟩
        · intro x hx hwx
          have hx2 : x ∈ T2 := by
            rcases hdr x hx with h | h
            · exact h
            · have := h j o ho hji hjun (by simpa using hq)
              rw [this] at hwx; cases hwx
          obtain ⟨k, hk, hkd⟩ := hT x hx2
          exact (h3.1 x (List.mem_cons_of_mem _ hx2) hwx).unput hs hk hkd
        · intro x hx
          obtain ⟨hx1, hx2⟩ := List.mem_filter.1 hx
          rcases hdr x hx1 with h | h
          · exact .inl (List.mem_filter.2 ⟨h, hx2⟩)
          · exact .inr h
        · rw [← hcomm]
          have h4 := h3.2
          unfold after at h4
          rw [List.filter_cons, if_pos (by simp [hnw])] at h4
          exact h4

end
end Go.Vx
