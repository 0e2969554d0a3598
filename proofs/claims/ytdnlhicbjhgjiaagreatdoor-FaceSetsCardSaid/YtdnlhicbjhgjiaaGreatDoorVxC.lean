/- The walk by verification conditions: code and calls. No condition. -/
import Derived.Test.YtdnlhicbjhgjiaaGreatDoorVxB
namespace Go.Vx
open Go.RowKit

/-- What is told of a function beside its text: how many temporaries, which are kept, the plans of its regions. -/
structure FC where
  n : Nat
  kp : List Nat
  pl : List (Nat × Plan)

def planFor : List (Nat × Plan) → Nat → Option Plan
  | [], _ => none
  | (i, p) :: l, id => bif i == id then some p else planFor l id

structure VSem (P : Program) (fc : FC) (c : Code) (r : Regs) (h : Heap) (Q : Exit → Regs → Heap → Prop) : Prop where
  wp : Blind Q → ∀ a w, Sub fc.n a r → w.heap = h → c.wp P (QW fc.n w Q) a w

def vcCode (P : Program) (fc : FC) : Code → Regs → Heap → (Exit → Regs → Heap → Prop) → Prop
  | .skip, r, h, Q => Q .normal r h
  | .region id ops draw, r, h, Q => bif draw then (match planFor fc.pl id with
      | some p => vcPlan P fc.kp ops Q p (Array.replicate ops.size false) [] r h
      | none => VSem P fc (.region id ops true) r h Q) else vcOps P fc.kp ops.toList Q ops.toList r h
  | .seq a b, r, h, Q => vcCode P fc a r h (vcThen (fun r h => vcCode P fc b r h Q) Q)
  | .cond c a b, r, h, Q => ev r c fun v => match v with
    | .bool x => iteB x (vcCode P fc a r h Q) (vcCode P fc b r h Q)
    | _ => False
  | .block id c, r, h, Q => vcCode P fc c r h (vcBlock id Q)
  | .exit id, r, h, Q => Q (.exit id) r h
  | .ret, r, h, Q => Q .ret r h
  | .label _, r, h, Q => Q .normal r h
  | .loop c, r, h, Q => VSem P fc (.loop c) r h Q
  | .scope c, r, h, Q => VSem P fc (.scope c) r h Q
  | .rangeFunc f ps as b, r, h, Q => VSem P fc (.rangeFunc f ps as b) r h Q
  | .goto l, r, h, Q => Q (.goto l) r h
  | .refuse _, _, _, _ => False

/-- Temporaries in the frame, plans that fit. -/
def codeOK (fc : FC) : Code → Bool
  | .region id ops draw => dstOK fc.n (.region id ops draw) && (bif draw then (match planFor fc.pl id with
      | some p => Region.noSelect ops && planOK ops true p (Array.replicate ops.size false) && decide (p.depth ≤ ops.size)
      | none => true) else true)
  | .seq a b => codeOK fc a && codeOK fc b
  | .cond _ a b => codeOK fc a && codeOK fc b
  | .block _ c => codeOK fc c
  | .loop c => codeOK fc c
  | .scope c => codeOK fc c
  | .rangeFunc _ _ a b => codeOK fc a && codeOK fc b
  | _ => true

section
variable {P : Program} {fc : FC} {Q : Exit → Regs → Heap → Prop}

theorem vcCode_sound (hm : P.follows .mixedOrders = true) : ∀ (c : Code) (r : Regs) (h : Heap) (Q : Exit → Regs → Heap → Prop), codeOK fc c = true → vcCode P fc c r h Q → VSem P fc c r h Q
  | .skip, r, h, Q, _, hv => ⟨fun hB a w hs hw => wp_skip ⟨r, hs, .refl _ _, by rw [hw]; exact hv⟩⟩
  | .region id ops draw, r, h, Q, hd, hv => by
    refine ⟨fun hB a w hs hw => ?_⟩
    unfold vcCode at hv
    simp only [codeOK, Bool.and_eq_true] at hd
    cases draw with
    | true =>
      obtain ⟨hd1, hd2⟩ := hd
      simp only [cond_true] at hv hd2
      split at hv
      · rename_i p hp
        rw [hp] at hd2
        simp only [Bool.and_eq_true, decide_eq_true_eq] at hd2
        exact region_wp p hm hd2.1.1 hd1 hd2.1.2 hd2.2 hB hv a w hs hw
      · exact hv.wp hB a w hs hw
    | false =>
      simp only [cond_false] at hv
      subst hw
      have := vcOps_sound (n := fc.n) (Q' := QW fc.n w Q) ops.toList r a w w (by
        intro o ho d hod
        have hd := hd.1
        simp only [dstOK, List.all_eq_true] at hd
        have := hd o ho
        rw [hod] at this
        simpa using this) hs (.refl _ _) hv (fun _ _ _ h => h)
      exact wp_region_list (by simpa using this)
  | .seq x y, r, h, Q, hd, hv => by
    refine ⟨fun hB a w hs hw => ?_⟩
    simp only [codeOK, Bool.and_eq_true] at hd
    unfold vcCode at hv
    refine wp_seq (wp_mono ((vcCode_sound hm x r h _ hd.1 hv).wp (blind_then hB) a w hs hw) ?_)
    intro e a' w' ⟨r', hs', hb', hq⟩
    cases e with
    | normal => exact wp_mono ((vcCode_sound hm y r' _ Q hd.2 hq).wp hB a' w' hs' rfl) fun e a w h => QW.mono hb' h
    | exit i => exact ⟨r', hs', hb', hq⟩
    | goto l => exact ⟨r', hs', hb', hq⟩
    | ret => exact ⟨r', hs', hb', hq⟩
    | panic c => exact ⟨r', hs', hb', hq⟩
    | outgrown => exact ⟨r', hs', hb', hq⟩
  | .cond c x y, r, h, Q, hd, hv => by
    refine ⟨fun hB a w hs hw => ?_⟩
    simp only [codeOK, Bool.and_eq_true] at hd
    unfold vcCode at hv
    have h1 := hs.eval hv
    split at h1
    · rename_i t ht
      have h1 := iteB_out h1
      refine wp_cond_split ht (fun h => ?_) (fun h => ?_)
      · exact (vcCode_sound hm x r _ Q hd.1 (h1.1 h)).wp hB a w hs hw
      · exact (vcCode_sound hm y r _ Q hd.2 (h1.2 h)).wp hB a w hs hw
    · cases h1
  | .block id c, r, h, Q, hd, hv => by
    refine ⟨fun hB a w hs hw => ?_⟩
    simp only [codeOK] at hd
    unfold vcCode at hv
    refine wp_block (wp_mono ((vcCode_sound hm c r h _ hd hv).wp (blind_block hB) a w hs hw) ?_)
    intro e a' w' ⟨r', hs', hb', hq⟩
    cases e with
    | exit i =>
      simp only [vcBlock] at hq
      simp only [Exit.inBlock]
      by_cases hi : i = id
      · rw [if_pos hi]; rw [show (i == id) = true by simp [hi]] at hq; exact ⟨r', hs', hb', hq⟩
      · rw [if_neg hi]; rw [show (i == id) = false by simp [hi]] at hq; exact ⟨r', hs', hb', hq⟩
    | normal => exact ⟨r', hs', hb', hq⟩
    | goto l => exact ⟨r', hs', hb', hq⟩
    | ret => exact ⟨r', hs', hb', hq⟩
    | panic c => exact ⟨r', hs', hb', hq⟩
    | outgrown => exact ⟨r', hs', hb', hq⟩
  | .exit id, r, h, Q, _, hv => ⟨fun hB a w hs hw => wp_exit ⟨r, hs, .refl _ _, by rw [hw]; exact hv⟩⟩
  | .ret, r, h, Q, _, hv => ⟨fun hB a w hs hw => wp_ret ⟨r, hs, .refl _ _, by rw [hw]; exact hv⟩⟩
  | .label _, r, h, Q, _, hv => ⟨fun hB a w hs hw => wp_label ⟨r, hs, .refl _ _, by rw [hw]; exact hv⟩⟩
  | .goto l, r, h, Q, _, hv => ⟨fun hB a w hs hw => wp_goto ⟨r, hs, .refl _ _, by rw [hw]; exact hv⟩⟩
  | .loop c, r, h, Q, _, hv => hv
  | .scope c, r, h, Q, _, hv => hv
  | .rangeFunc f ps x y, r, h, Q, _, hv => hv
  | .refuse _, _, _, _, _, hv => by cases hv

/-! Results and calls -/
def vcRes (P : Program) (r : Regs) (h : Heap) : List ResultVar → (List Value → Prop) → Prop
  | [], k => k []
  | .tmp t :: l, k => rgetK r t fun v => vcRes P r h l fun vs => k (v :: vs)
  | .cell t ty :: l, k => rgetK r t fun v => match v with
    | .pointer (some ⟨b, o, none⟩) => tiK P ty fun ti =>
      bif ti.agg then ldcs h b ti.cks o fun xs => vcRes P r h l fun vs => k (.agg xs.toArray :: vs)
      else match ti.cks with
        | [c] => ldc c h b o fun x => vcRes P r h l fun vs => k (x :: vs)
        | _ => False
    | _ => False

def resOf : List Value → Value
  | [v] => v
  | vs => .tuple vs.toArray

def resRun (tmps : Array Value) : ResultVar → Sem Value
  | .tmp t => pure (tmps.getD t undef)
  | .cell a t => do loadVar t (← asAddr (tmps.getD a undef))

theorem vcRes_sound {n : Nat} {a : Act} {r : Regs} (hs : Sub n a r) {w : World} : ∀ (l : List ResultVar) (k : List Value → Prop), vcRes P r w.heap l k →
    ∃ vs, (l.mapM (resRun a.tmps)).run P w = .ok vs w ∧ k vs
  | [], k, h => ⟨[], by simp, h⟩
  | .tmp t :: l, k, h => by
    obtain ⟨v, hv, h⟩ := rgetK_iff.1 h
    obtain ⟨vs, hvs, hk⟩ := vcRes_sound hs l _ h
    refine ⟨v :: vs, ?_, hk⟩
    have := hs.get t v hv
    rw [List.mapM_cons]
    simp only [Sem.run_bind, hvs, Result.andThen_ok, Sem.run_pure, resRun, Array.getD_eq_getD_getElem?, this, Option.getD_some]
  | .cell t ty :: l, k, h => by
    obtain ⟨v, hv, h⟩ := rgetK_iff.1 h
    have hget := hs.get t v hv
    split at h
    case h_2 => cases h
    rename_i b o
    obtain ⟨ti, i, d, z, ht, h⟩ := tiK_spec h
    obtain ⟨x, hx, h⟩ := loadVar_run (P := P) (w := w) (b := b) (o := o) (K := fun x => vcRes P r w.heap l fun vs => k (x :: vs)) ht (by
      cases hg : ti.agg with
      | true => rw [hg] at h; exact h
      | false =>
        rw [hg] at h
        simp only [cond_false] at h ⊢
        split at h
        · rename_i c hc; rw [hc]; exact h
        · cases h)
    obtain ⟨vs, hvs, hk⟩ := vcRes_sound hs l _ h
    refine ⟨x :: vs, ?_, hk⟩
    rw [List.mapM_cons]
    simp only [Sem.run_bind, hvs, Result.andThen_ok, Sem.run_pure, resRun, Array.getD_eq_getD_getElem?, hget, Option.getD_some, asAddr, hx]

theorem results_run {n : Nat} {fn : Func} {a : Act} {r : Regs} (hs : Sub n a r) {w : World} {k : List Value → Prop} (h : vcRes P r w.heap fn.results.toList k) :
    ∃ vs, (results fn a.tmps).run P w = .ok (resOf vs) w ∧ k vs := by
  obtain ⟨vs, hvs, hk⟩ := vcRes_sound hs _ _ h
  refine ⟨vs, ?_, hk⟩
  have e : results fn a.tmps = (do
      let vs ← fn.results.mapM (resRun a.tmps)
      pure (if h : vs.size = 1 then vs[0] else .tuple vs)) := by
    unfold results
    congr 1
  rw [e, Array.mapM_eq_mapM_toList]
  simp only [Sem.run_bind, Sem.run_map, hvs, Result.andThen_ok, Sem.run_pure]
  congr 1
  match vs with
  | [] => simp [resOf]
  | [v] => simp [resOf]
  | v :: u :: vs => simp [resOf]

def argRegs : Nat → List Value → Regs
  | _, [] => []
  | i, v :: vs => (i, v) :: argRegs (i + 1) vs

theorem argRegs_get : ∀ (vs : List Value) (i t : Nat) (v : Value), rget (argRegs i vs) t = some v → i ≤ t ∧ vs[t - i]? = some v
  | [], i, t, v, h => by simp [argRegs, rget] at h
  | x :: vs, i, t, v, h => by
    simp only [argRegs, rget] at h
    split at h
    · rename_i e; subst e; simp at h; subst h; exact ⟨Nat.le_refl _, by simp⟩
    · rename_i e
      obtain ⟨h1, h2⟩ := argRegs_get vs (i + 1) t v h
      refine ⟨by omega, ?_⟩
      rw [show t - i = (t - (i + 1)) + 1 from by omega]
      simpa using h2

/-- A code's parts, itself first. -/
def nodes : Code → List Code
  | .seq a b => .seq a b :: (nodes a ++ nodes b)
  | .cond c a b => .cond c a b :: (nodes a ++ nodes b)
  | .block i c => .block i c :: nodes c
  | .loop c => .loop c :: nodes c
  | .scope c => .scope c :: nodes c
  | .rangeFunc f ps a b => .rangeFunc f ps a b :: (nodes a ++ nodes b)
  | c => [c]

/-- Part 'k' of a function's code. -/
def cd (fn : Func) (k : Nat) : Code :=
  match fn.body with
  | some c => (nodes c).getD k .skip
  | none => .skip

theorem kmp {A B : Prop} (e : A = B) (h : B) : A := e ▸ h

/-- What is asked of a body. -/
def vcPost (P : Program) (res : List ResultVar) (K : Value → Heap → Prop) (X : List PanicEntry → Heap → Prop) : Exit → Regs → Heap → Prop
  | .normal, r, h => vcRes P r h res fun vs => K (resOf vs) h
  | .ret, r, h => vcRes P r h res fun vs => K (resOf vs) h
  | .panic ch, _, h => X ch h
  | .exit _, _, _ => False
  | .goto _, _, _ => False
  | .outgrown, _, _ => False

theorem blind_post {res : List ResultVar} {K : Value → Heap → Prop} {X : List PanicEntry → Heap → Prop} : Blind (vcPost P res K X) := fun _ _ _ _ hh => hh

def fnCheck (fn : Func) (fc : FC) : Bool :=
  match fn.body with
  | some c => !(fn.name == "runtime.NumGoroutine") && fn.ntmps == fc.n && codeOK fc c
  | none => false

theorem fnCheck_spec {fn : Func} {fc : FC} (h : fnCheck fn fc = true) : ∃ c, fn.body = some c ∧ (fn.name == "runtime.NumGoroutine") = false ∧ fn.ntmps = fc.n ∧ codeOK fc c = true ∧ cd fn 0 = c := by
  unfold fnCheck at h
  split at h
  · rename_i c hc
    simp only [Bool.and_eq_true, Bool.not_eq_true', beq_iff_eq] at h
    refine ⟨c, hc, h.1.1, h.1.2, h.2, ?_⟩
    unfold cd
    rw [hc]
    cases c <;> rfl
  · cases h

theorem callK_of_sem {f : FuncId} {fn : Func} {args : List Value} {h : Heap} {K : Value → Heap → Prop} {X : List PanicEntry → Heap → Prop}
    (hf : P.funcs[f]? = some fn) (hok : fnCheck fn fc = true) (ha : args.length ≤ fc.n)
    (hv : VSem P fc (cd fn 0) (argRegs 0 args) h (vcPost P fn.results.toList K X)) : CallK P f args h K X := by
  obtain ⟨c, hb, hname, hn, _, hcd⟩ := fnCheck_spec hok
  rw [hcd] at hv
  have hfn : fnOK P f = true := by simp [fnOK, hf, hb, hname]
  refine ⟨hfn, fun w hw => calls_of_wp hf hb (wp_mono (hv.wp blind_post _ w ?_ hw) ?_)⟩
  · refine ⟨by simp [hn]; omega, rfl, fun t v ht => ?_⟩
    obtain ⟨_, h2⟩ := argRegs_get _ _ _ _ ht
    have hlt : t < args.length := by
      rcases Nat.lt_or_ge t args.length with h | h
      · exact h
      · rw [Nat.sub_zero, List.getElem?_eq_none h] at h2; cases h2
    rw [Nat.sub_zero] at h2
    simp only
    rw [Array.getElem?_append_left (by simpa using hlt)]
    simpa using h2
  · intro e a w' ⟨r, hs, hb', hq⟩
    cases e with
    | normal =>
      obtain ⟨vs, hvs, hk⟩ := results_run hs hq
      exact ⟨hs.defers, _, hvs, hb', hk⟩
    | ret =>
      obtain ⟨vs, hvs, hk⟩ := results_run hs hq
      exact ⟨hs.defers, _, hvs, hb', hk⟩
    | panic ch => exact ⟨hs.defers, hb', hq⟩
    | exit i => exact hq
    | goto l => exact hq
    | outgrown => cases hq

theorem callK_of_vc (fc : FC) {f : FuncId} {fn : Func} {args : List Value} {h : Heap} {K : Value → Heap → Prop} {X : List PanicEntry → Heap → Prop}
    (hm : P.follows .mixedOrders = true) (hf : P.funcs[f]? = some fn) (hok : fnCheck fn fc = true) (ha : args.length ≤ fc.n)
    (hv : vcCode P fc (cd fn 0) (argRegs 0 args) h (vcPost P fn.results.toList K X)) : CallK P f args h K X := by
  obtain ⟨c, _, _, _, hc, hcd⟩ := fnCheck_spec hok
  exact callK_of_sem hf hok ha (vcCode_sound hm _ _ h _ (by rw [hcd]; exact hc) hv)

/-- A condition that no tactic opens by itself. -/
structure Wrap (p : Prop) : Prop where
  out : p

/-! Loops -/
def Covers (r s : Regs) : Prop := ∀ t v, rget s t = some v → rget r t = some v

theorem Sub.covers {n : Nat} {a : Act} {r s : Regs} (hs : Sub n a r) (hc : Covers r s) : Sub n a s := ⟨hs.size, hs.defers, fun t v h => hs.get t v (hc t v h)⟩

/-- 'Covers', one register after the other. -/
def cov (r : Regs) : Regs → Prop
  | [] => True
  | (i, v) :: s => (rgetK r i fun u => u = v) ∧ cov r s

theorem cov_covers {r : Regs} : ∀ {s : Regs}, cov r s → Covers r s
  | [], _, t, v, h => by simp [rget] at h
  | (i, u) :: s, hc, t, v, h => by
    simp only [rget] at h
    split at h
    · rename_i e; subst e; simp at h; subst h
      obtain ⟨x, hx, rfl⟩ := rgetK_iff.1 hc.1
      exact hx
    · exact cov_covers hc.2 t v h

theorem loop_sem {α : Type} {c : Code} {r : Regs} {h : Heap} (hm : P.follows .mixedOrders = true) (ρ : α → Regs) (I : α → Heap → Prop) (μ : α → Heap → Nat) (x0 : α) (hd : codeOK fc c = true)
    (hc : cov r (ρ x0)) (h0 : I x0 h)
    (round : ∀ x h, I x h → Wrap (vcCode P fc c (ρ x) h (vcThen (fun r' h' => ∃ x', cov r' (ρ x') ∧ I x' h' ∧ μ x' h' < μ x h) Q))) : VSem P fc (.loop c) r h Q := by
  refine ⟨fun hB a w hs hw => ?_⟩
  have key : ∀ m x a' w', μ x w'.heap = m → Sub fc.n a' (ρ x) → I x w'.heap → Below 0 w w' → ∀ b k cs,
      ∃ e a2 w2, QW fc.n w Q e a2 w2 ∧ Arrives P (lone (b.at a' (.code c :: .inLoop c :: k)) cs w') b k cs e a2 w2 := by
    intro m
    induction m using Nat.strongRecOn with
    | _ m ih =>
      intro x a' w' hmu hs' hI hb' b k cs
      have h1 := (vcCode_sound hm c _ _ _ hd (round x w'.heap hI).out).wp (blind_then hB) a' w' hs' rfl
      obtain ⟨e, a1, w1, ⟨r1, hs1, hb1, hq⟩, harr⟩ := h1 b (.inLoop c :: k) cs
      cases e with
      | normal =>
        obtain ⟨x', hc', hI', hlt⟩ := hq
        obtain ⟨e2, a2, w2, hq2, harr2⟩ := ih _ (hmu ▸ hlt) x' a1 w1 rfl (hs1.covers (cov_covers hc')) hI' (hb'.trans hb1) b k cs
        exact ⟨e2, a2, w2, hq2, .of_steps (Steps.trans harr (.one step_inLoop)) harr2⟩
      | exit id => exact ⟨_, a1, w1, ⟨r1, hs1, hb'.trans hb1, hq⟩, .pass (x := .inLoop c) rfl (fun _ _ => .inl (by simp)) harr⟩
      | goto l => exact ⟨_, a1, w1, ⟨r1, hs1, hb'.trans hb1, hq⟩, .pass (x := .inLoop c) rfl (fun _ _ => .inl (by simp)) harr⟩
      | ret => exact ⟨_, a1, w1, ⟨r1, hs1, hb'.trans hb1, hq⟩, .pass (x := .inLoop c) rfl (fun _ _ => .inl (by simp)) harr⟩
      | panic ch => exact ⟨_, a1, w1, ⟨r1, hs1, hb'.trans hb1, hq⟩, .pass (x := .inLoop c) rfl (fun _ _ => .inl (by simp)) harr⟩
      | outgrown => exact ⟨_, a1, w1, ⟨r1, hs1, hb'.trans hb1, hq⟩, .pass (x := .inLoop c) rfl (fun _ _ => .inl (by simp)) harr⟩
  intro b k cs
  obtain ⟨e, a', w', hq, harr⟩ := key _ x0 a w rfl (hs.covers (cov_covers hc)) (hw ▸ h0) (.refl _ _) b k cs
  exact ⟨e, a', w', hq, .of_steps (.one step_loop) harr⟩

/-- A cut: what is known at a place. -/
theorem sem_cut {α : Type} {c1 c2 : Code} {r : Regs} {h : Heap} (hm : P.follows .mixedOrders = true) (ρ : α → Regs) (I : α → Heap → Prop) (hd1 : codeOK fc c1 = true) (hd2 : codeOK fc c2 = true)
    (h1 : vcCode P fc c1 r h (vcThen (fun r' h' => ∃ x, cov r' (ρ x) ∧ I x h') Q)) (h2 : ∀ x h, I x h → Wrap (vcCode P fc c2 (ρ x) h Q)) : VSem P fc (.seq c1 c2) r h Q := by
  refine ⟨fun hB a w hs hw => wp_seq (wp_mono ((vcCode_sound hm c1 r h _ hd1 h1).wp (blind_then hB) a w hs hw) ?_)⟩
  intro e a' w' ⟨r', hs', hb', hq⟩
  cases e with
  | normal =>
    obtain ⟨x, hcv, hI⟩ := hq
    exact wp_mono ((vcCode_sound hm c2 _ _ Q hd2 (h2 x _ hI).out).wp hB a' w' (hs'.covers (cov_covers hcv)) rfl) fun e a w h => QW.mono hb' h
  | exit i => exact ⟨r', hs', hb', hq⟩
  | goto l => exact ⟨r', hs', hb', hq⟩
  | ret => exact ⟨r', hs', hb', hq⟩
  | panic c => exact ⟨r', hs', hb', hq⟩
  | outgrown => exact ⟨r', hs', hb', hq⟩

end
end Go.Vx
