/- The walk by verification conditions: a plan that fits is enough. No condition. -/
import Derived.Test.YtdnlhicbjhgjiaaGreatDoorVxA
namespace Go.Vx
open Go.RowKit

section
variable {P : Program} {n : Nat} {kp : List Nat}

/-- Panics do not ask for registers. -/
def Blind (Q : Exit → Regs → Heap → Prop) : Prop := ∀ c r r' h, Q (.panic c) r h → Q (.panic c) r' h

theorem blind_then {next : Regs → Heap → Prop} {Q : Exit → Regs → Heap → Prop} (hq : Blind Q) : Blind (vcThen next Q) := fun c r r' h hh => hq c r r' h hh
theorem blind_block {id : Nat} {Q : Exit → Regs → Heap → Prop} (hq : Blind Q) : Blind (vcBlock id Q) := fun c r r' h hh => hq c r r' h hh

theorem vcGuard_out {ops : Array Oper} {o : Oper} {r : Regs} {yes no : Regs → Prop} {a : Act} (hs : Sub n a r) (h : vcGuard ops.toList o r yes no) :
    (Region.wanted o (yielded ops a.tmps) = true ∧ ∃ r', Sub n a r' ∧ yes r') ∨ (Region.wanted o (yielded ops a.tmps) = false ∧ ∃ r', Sub n a r' ∧ no r') := by
  unfold vcGuard at h
  split at h
  · rename_i hg
    exact .inl ⟨by simp [Region.wanted, hg], r, hs, h⟩
  · rename_i j want hg
    split at h
    case h_2 => cases h
    rename_i d hgs
    obtain ⟨v, hv, h⟩ := rgetK_iff.1 h
    have hy := yielded_of (tmps := a.tmps) hgs (hs.get d v hv)
    simp only [Array.toArray_toList] at hy
    split at h
    · rename_i c
      have hs' := hs.set hv rfl
      cases want with
      | true =>
        have h := iteB_out h
        cases c with
        | true => exact .inl ⟨by simp [Region.wanted, hg, hy], _, hs', h.1 rfl⟩
        | false => exact .inr ⟨by simp [Region.wanted, hg, hy], _, hs', h.2 rfl⟩
      | false =>
        have h := iteB_out h
        cases c with
        | true => exact .inr ⟨by simp [Region.wanted, hg, hy], _, hs', h.1 rfl⟩
        | false => exact .inl ⟨by simp [Region.wanted, hg, hy], _, hs', h.2 rfl⟩
    · exact .inr ⟨by simp [Region.wanted, hg, hy], _, hs, h⟩
    · cases h

theorem entOf_pure {i : Nat} {o : Oper} {r : Regs} {v : Value} (h : isLoad o = false) : entOf i o r v = ⟨i, none, v⟩ := by
  unfold entOf
  split
  · rename_i hop; simp [isLoad, hop] at h
  · rename_i hop; simp [isLoad, hop] at h
  · rfl

theorem andN_out {rest : Plan} {p q : Prop} (h : andN rest p q) (hn : rest = .none → q) : p ∧ q := by
  cases rest with
  | none => exact ⟨h, hn rfl⟩
  | done => exact h
  | take _ _ => exact h
  | loud _ _ _ => exact h

theorem plan_sound {ops : Array Oper} {Q : Exit → Regs → Heap → Prop} (hsel : NoSel ops) (hdst : ∀ (i : Nat) (o : Oper), ops[i]? = some o → ∀ d, o.dst = some d → d < n) (hB : Blind Q) (w0 : World) :
    ∀ (p : Plan) (hd : Bool) (ls : Array Bool) (T : List Ent) (r : Regs) (a : Act) (w : World), planOK ops hd p ls = true → Closed .any ops ls → Sub n a r → Below 0 w0 w → Known P ops ls T a w →
      vcPlan P kp ops Q p ls T r w.heap →
      (hd = true → ∀ fuel, p.depth ≤ fuel → wpAnyP P .any ops (QW n w0 Q) ops.size (isQ ops) fuel ls (toTaken ops T) a w) ∧
      (∀ j ∈ p.chain, ∀ fuel, p.depth ≤ fuel + 1 → j ∈ Region.ready .any ops ls → ∀ o, ops[j]? = some o →
        wpOp P ops (QW n w0 Q) j (fun a' w' => StillAt P .any ops ops.size (toTaken ops T) j a' w' ∧
          wpAnyP P .any ops (QW n w0 Q) ops.size (isQ ops) fuel (ls.setIfInBounds j true) (after .any ops ops.size j (toTaken ops T)) a' w') a w) := by
  have hQ : ∀ (d : Option Tmp) (u : Value) c (a : Act) w, QW n w0 Q (.panic c) (a.put d u) w → QW n w0 Q (.panic c) a w := by
    intro d u c a w ⟨r, hs, hb, hq⟩
    refine ⟨[], ⟨?_, ?_, fun t v h => by simp [rget] at h⟩, hb, hB c r [] _ hq⟩
    · have := hs.size; cases d <;> simpa [Act.put] using this
    · have := hs.defers; cases d <;> simpa [Act.put] using this
  have hafter : ∀ (j : Nat) (T : List Ent), after .any ops ops.size j (toTaken ops T) = toTaken ops (afterE ops j T) := by
    intro j T
    simp only [after, toTaken, afterE, List.filter_map]
    rfl
  intro p
  induction p with
  | done =>
    intro hd ls T r a w hok hc hs hb hkn hv
    refine ⟨fun _ fuel _ => ?_, by simp [Plan.chain]⟩
    simp only [planOK, List.isEmpty_iff] at hok
    cases fuel with
    | zero => exact ⟨hok, rprune r kp, hs.prune, hb, hv⟩
    | succ fuel => exact ⟨fun _ => ⟨rprune r kp, hs.prune, hb, hv⟩, by rw [hok]; simp⟩
  | none =>
    intro hd ls T r a w hok hc hs hb hkn hv
    simp only [planOK, Bool.not_eq_true'] at hok
    subst hok
    exact ⟨by simp, by simp [Plan.chain]⟩
  | take i p ih =>
    intro hd ls T r a w hok hc hs hb hkn hv
    refine ⟨fun _ fuel hf => ?_, by simp [Plan.chain]⟩
    simp only [planOK, Bool.and_eq_true] at hok
    obtain ⟨⟨⟨⟨⟨hready, hfree⟩, hq⟩, hlook⟩, hload⟩, hok⟩ := hok
    have hready : i ∈ Region.ready .any ops ls := by simpa using hready
    obtain ⟨fuel, rfl⟩ : ∃ f, fuel = f + 1 := ⟨fuel - 1, by simp [Plan.depth] at hf; omega⟩
    obtain ⟨_, o, ho, _⟩ := mem_ready.1 hready
    have ho' : ops.toList[i]? = some o := by simpa using ho
    unfold vcPlan at hv
    simp only [ho'] at hv
    have hqo : quietOp o = true := by simpa [isQ, ho] using hq
    simp only [ho] at hload
    have hd' := hdst i o ho
    have hself := lookOK_spec hlook ho ho (.inl rfl)
    have hset : ∀ e ∈ keepE ops ls i T, settled ops ls i e.i = false := fun e he => by simpa using (List.mem_filter.1 he).2
    have hi : (ls.setIfInBounds i true).getD i false = true := by
      have h0 := (mem_ready.1 hready).1
      rcases Nat.lt_or_ge i ls.size with h' | h'
      · simp [h']
      · simp [Array.getElem?_eq_none h'] at h0
    -- one step, given what it yields
    have step : ∀ (v : Value) (e : Ent) (r' : Regs), YieldsAt P ops o v a w → e.i = i → e.v = v → Sub n a r' →
        (match e.ld with
          | none => ∀ w', YieldsAt P ops o v a w'
          | some (t, b, off) => (∃ x, o.op = .load t x ∧ a.eval x = .pointer (some ⟨b, off, none⟩)) ∧ Region.wanted o (yielded ops a.tmps) = true ∧ (loadVar t ⟨b, off, none⟩).run P w = .ok v w) →
        vcPlan P kp ops Q p (ls.setIfInBounds i true) (e :: keepE ops ls i T) (rput o.dst v r') w.heap →
        wpAnyP P .any ops (QW n w0 Q) ops.size (isQ ops) (fuel + 1) ls (toTaken ops T) a w := by
      intro v e r' hy hei hev hs' hld hp
      refine wpAnyP_first (v := v) ho hsel hq (hQ _ _) hself fuel ls _ (toTaken ops (keepE ops ls i T)) a w (Region.free_spec ho hfree) ?_ ?_ hc hready hy ?_
      · intro x hx
        obtain ⟨e', he', rfl⟩ := List.mem_map.1 hx
        obtain ⟨h1, oe, h2, _⟩ := hkn e' (List.mem_filter.1 he').1
        refine ⟨e'.i, ?_, ?_⟩
        · simp [Array.getD_eq_getD_getElem?, h2]
        · simp only [Array.getD_eq_getD_getElem?, h2, Option.getD_some]
          exact lookOK_spec hlook ho h2 (.inr ⟨h1, hset e' he'⟩)
      · intro x hx
        obtain ⟨e', he', rfl⟩ := List.mem_map.1 hx
        cases hst : settled ops ls i e'.i with
        | false => exact .inl (List.mem_map.2 ⟨e', List.mem_filter.2 ⟨he', by simp [hst]⟩, rfl⟩)
        | true =>
          refine .inr fun k ok hk hki hkl hkq => ?_
          have := List.all_eq_true.1 hst k (List.mem_range.2 (Array.getElem?_eq_some_iff.1 hk).1)
          simpa [hki, hkl, hkq] using this
      · have hkn' : Known P ops (ls.setIfInBounds i true) (e :: keepE ops ls i T) (a.put o.dst v) w := by
          intro e' he'
          rcases List.mem_cons.1 he' with rfl | he'
          · refine ⟨by rw [hei]; exact hi, o, by rw [hei]; exact ho, ?_⟩
            split
            · rename_i hl; rw [hl] at hld; intro w'; rw [hev]; exact (hld w').put hsel ho hself
            · rename_i t b off hl
              rw [hl] at hld
              obtain ⟨⟨x, hx1, hx2⟩, h4, h5⟩ := hld
              refine ⟨⟨x, hx1, ?_⟩, ?_, by rw [hev]; exact h5⟩
              · rw [← hx2]
                refine Act.eval_put fun d hd'' hxd => hself d hd'' ?_
                subst hxd
                simp [Oper.looksAt, hx1, Op.operands]
              · rw [wanted_put o a o.dst v hself]; exact h4
          · exact ((hkn.filter _).put hsel ho hlook hset v).set i e' he'
        have := (ih true _ (e :: keepE ops ls i T) _ (a.put o.dst v) w hok (hc.set hready) (hs'.put hd') hb hkn' hp).1 rfl fuel (by simp [Plan.depth] at hf; omega)
        have et : toTaken ops (e :: keepE ops ls i T) = (i, o, v) :: toTaken ops (keepE ops ls i T) := by
          simp [toTaken, hei, hev, Array.getD_eq_getD_getElem?, ho]
        rw [et] at this
        exact this
    rcases vcGuard_out hs hv with ⟨hw, r', hs', hv⟩ | ⟨hw, r', hs', hv⟩
    · cases hl : isLoad o with
      | false =>
        obtain ⟨v, hk, hdet⟩ := vcOp_det hqo hl hv
        have hpure : ∀ w', YieldsAt P ops o v a w' := by
          intro w'
          obtain ⟨u, hrun, rfl⟩ := vcOp_quiet hs' hqo (hdet w'.heap (fun u _ => u = v) (fun _ _ => False) rfl)
          exact .inl ⟨hw, hrun⟩
        rw [entOf_pure hl] at hk
        exact step v ⟨i, none, v⟩ r' (hpure w) rfl rfl hs' hpure hk
      | true =>
        unfold isLoad at hl
        split at hl
        case h_2 => cases hl
        rename_i t x hop
        have hx : (∃ y, x = .tmp y) ∨ ∃ g, x = .global g := by
          simp only [loadOK, hop] at hload
          cases x <;> simp at hload
          · exact .inl ⟨_, rfl⟩
          · exact .inr ⟨_, rfl⟩
        unfold vcOp at hv
        simp only [hop] at hv
        rcases hx with ⟨y, rfl⟩ | ⟨g, rfl⟩
        · obtain ⟨pv, hget, hv⟩ := rgetK_iff.1 hv
          split at hv
          case h_2 => cases hv
          rename_i b off
          have hev : a.eval (.tmp y) = .pointer (some ⟨b, off, none⟩) := by
            have := hs'.get y _ hget
            simp [Act.eval, Array.getD_eq_getD_getElem?, this]
          obtain ⟨ti, i', d, z, ht, hk⟩ := tiK_spec hv
          obtain ⟨v, hrun, hk⟩ := loadVar_run (P := P) (w := w) (b := b) (o := off) (K := fun v => vcPlan P kp ops Q p (ls.setIfInBounds i true) (entOf i o r' v :: keepE ops ls i T) (rput o.dst v r') w.heap) ht hk
          have hy : YieldsAt P ops o v a w := .inl ⟨hw, by simp [execOp, hop, Instr.loadAt, hev, Instr.sureAddr, hrun]⟩
          have he : entOf i o r' v = ⟨i, some (t, b, off), v⟩ := by simp [entOf, hop, hget]
          rw [he] at hk
          exact step v ⟨i, some (t, b, off), v⟩ r' hy rfl rfl hs' ⟨⟨_, hop, hev⟩, hw, hrun⟩ hk
        · simp only [ev] at hv
          have hev : a.eval (.global g) = .pointer (some ⟨g, 0, none⟩) := rfl
          obtain ⟨ti, i', d, z, ht, hk⟩ := tiK_spec hv
          obtain ⟨v, hrun, hk⟩ := loadVar_run (P := P) (w := w) (b := g) (o := 0) (K := fun v => vcPlan P kp ops Q p (ls.setIfInBounds i true) (entOf i o r' v :: keepE ops ls i T) (rput o.dst v r') w.heap) ht hk
          have hy : YieldsAt P ops o v a w := .inl ⟨hw, by simp [execOp, hop, Instr.loadAt, hev, Instr.sureAddr, hrun]⟩
          have he : entOf i o r' v = ⟨i, some (t, g, 0), v⟩ := by simp [entOf, hop]
          rw [he] at hk
          exact step v ⟨i, some (t, g, 0), v⟩ r' hy rfl rfl hs' ⟨⟨_, hop, hev⟩, hw, hrun⟩ hk
    · exact step undef ⟨i, none, undef⟩ r' (.inr ⟨hw, rfl⟩) rfl rfl hs' (fun w' => .inr ⟨hw, rfl⟩) hv
  | loud i p rest ihp ihr =>
    intro hd ls T r a w hok hc hs hb hkn hv
    simp only [planOK, Bool.and_eq_true] at hok
    obtain ⟨⟨⟨hhead, hlook⟩, hokp⟩, hokr⟩ := hok
    have hv0 := hv
    unfold vcPlan at hv
    split at hv
    case h_2 => cases hv
    rename_i o ho'
    have ho : ops[i]? = some o := by simpa using ho'
    obtain ⟨hv, hvr⟩ := andN_out hv (fun e => by rw [e]; unfold vcPlan; trivial)
    have chain : ∀ j ∈ (Plan.loud i p rest).chain, ∀ fuel, (Plan.loud i p rest).depth ≤ fuel + 1 → j ∈ Region.ready .any ops ls → ∀ o, ops[j]? = some o →
        wpOp P ops (QW n w0 Q) j (fun a' w' => StillAt P .any ops ops.size (toTaken ops T) j a' w' ∧
          wpAnyP P .any ops (QW n w0 Q) ops.size (isQ ops) fuel (ls.setIfInBounds j true) (after .any ops ops.size j (toTaken ops T)) a' w') a w := by
      intro j hj fuel hf hjr oj hoj
      rcases List.mem_cons.1 hj with rfl | hj
      · rw [ho] at hoj; cases hoj
        unfold wpOp
        simp only [ho]
        rcases vcGuard_out hs hv with ⟨hw, r', hs', hv⟩ | ⟨hw, r', hs', hv⟩
        · rw [if_pos hw]
          refine .inl (vcOpx_sound hs' hv ?_ ?_)
          · intro v w' hb' hk
            obtain ⟨hst, hk⟩ := stillVC_out hk
            obtain ⟨h1, h2⟩ := hkn.loud hsel ho hlook v (fun e he hwt t b o hld => ldAt_run (hst e he hwt t b o hld))
            refine ⟨h1, ?_⟩
            rw [hafter]
            exact (ihp true _ _ _ _ w' hokp (hc.set hjr) (hs'.put (hdst j o ho)) (hb.trans hb') h2 hk).1 rfl fuel (by simp [Plan.depth] at hf; omega)
          · intro ch w' hb' hx
            exact ⟨r', hs', hb.trans hb', hx⟩
        · rw [if_neg (by simp [hw])]
          obtain ⟨h1, h2⟩ := hkn.still hsel ho hlook undef
          refine ⟨h1, ?_⟩
          rw [hafter]
          exact (ihp true _ _ _ _ w hokp (hc.set hjr) (hs'.put (hdst j o ho)) hb h2 hv).1 rfl fuel (by simp [Plan.depth] at hf; omega)
      · exact (ihr false ls T r a w hokr hc hs hb hkn hvr).2 j hj fuel (by simp [Plan.depth] at hf; omega) hjr oj hoj
    refine ⟨fun hdt fuel hf => ?_, chain⟩
    subst hdt
    simp only [Bool.not_true, Bool.false_or, List.all_eq_true, Bool.and_eq_true, Bool.not_eq_true', List.contains_iff_mem] at hhead
    obtain ⟨hin, hhead⟩ := hhead
    obtain ⟨fuel, rfl⟩ : ∃ f, fuel = f + 1 := ⟨fuel - 1, by simp [Plan.depth] at hf; omega⟩
    have hne : Region.ready .any ops ls ≠ [] := fun h => by rw [h] at hin; cases hin
    refine ⟨fun h => absurd h hne, fun j hj oj hoj => ?_⟩
    obtain ⟨h1, h2⟩ := hhead j hj
    rw [if_neg (by simp [h2])]
    exact chain j h1 fuel hf hj oj hoj


/-- A region that draws its order, by a plan. -/
theorem region_wp {id : Nat} {ops : Array Oper} {r : Regs} {h : Heap} {Q : Exit → Regs → Heap → Prop} (p : Plan) (hm : P.follows .mixedOrders = true) (hsel : Region.noSelect ops = true)
    (hd : dstOK n (.region id ops true) = true) (hok : planOK ops true p (Array.replicate ops.size false) = true) (hdep : p.depth ≤ ops.size) (hB : Blind Q)
    (hv : vcPlan P kp ops Q p (Array.replicate ops.size false) [] r h) : ∀ a w, Sub n a r → w.heap = h → (Code.region id ops true).wp P (QW n w Q) a w := by
  refine fun a w hs hw => wp_region_any hm (wpAny_of_P (n := ops.size) (qs := isQ ops) _ _ [] _ _ ?_)
  have hdst : ∀ (i : Nat) (o : Oper), ops[i]? = some o → ∀ d, o.dst = some d → d < n := by
    intro i o ho d hod
    simp only [dstOK, List.all_eq_true] at hd
    have := hd o (by simpa using Array.mem_of_getElem? ho)
    rw [hod] at this
    simpa using this
  have hb : Below 0 w { w with drawn := w.drawn + 1 } := Below.heapd (Nat.le_refl _)
  have hc : Closed .any ops (Array.replicate ops.size false) := by
    intro k o hk
    simp [Array.getD_eq_getD_getElem?, Array.getElem?_replicate] at hk
    split at hk <;> simp at hk
  exact (plan_sound (P := P) (n := n) (kp := kp) (Q := Q) (fun j o cs b ho => Region.noSelect_spec hsel j o cs b ho) hdst hB w p true _ [] r a { w with drawn := w.drawn + 1 } hok hc hs hb
    (fun e he => by cases he) (by subst hw; exact hv)).1 rfl _ hdep
end
end Go.Vx
