/- The walk by verification conditions: a plan for a region that draws its order. No condition. -/
import Derived.Test.YtdnlhicbjhgjiaaGreatDoorVx9
namespace Go.Vx
open Go.RowKit

section
variable {P : Program}

def isLoad (o : Oper) : Bool := match o.op with | .load _ _ => true | _ => false

theorem ev_det {r : Regs} {x : Operand} {k : Value → Prop} (h : ev r x k) : ∃ v, k v ∧ ∀ k' : Value → Prop, k' v → ev r x k' := by
  cases x with
  | tmp t =>
    obtain ⟨v, hv, hk⟩ := rgetK_iff.1 h
    exact ⟨v, hk, fun k' hk' => rgetK_iff.2 ⟨v, hv, hk'⟩⟩
  | const v => exact ⟨v, h, fun _ h => h⟩
  | global g => exact ⟨_, h, fun _ h => h⟩
  | func f => exact ⟨_, h, fun _ h => h⟩

theorem evs_det {r : Regs} : ∀ {xs : List Operand} {k : List Value → Prop}, evs r xs k → ∃ vs, k vs ∧ ∀ k' : List Value → Prop, k' vs → evs r xs k'
  | [], _, h => ⟨[], h, fun _ h => h⟩
  | _ :: _, _, h => by
    obtain ⟨v, h1, hb⟩ := ev_det h
    obtain ⟨vs, h2, hb2⟩ := evs_det h1
    exact ⟨v :: vs, h2, fun k' hk' => hb _ (hb2 _ hk')⟩

theorem evParts_det {r : Regs} : ∀ {xs : List (Nat × Operand)} {k : List (Nat × Value) → Prop}, evParts r xs k → ∃ vs, k vs ∧ ∀ k' : List (Nat × Value) → Prop, k' vs → evParts r xs k'
  | [], _, h => ⟨[], h, fun _ h => h⟩
  | (i, _) :: _, _, h => by
    obtain ⟨v, h1, hb⟩ := ev_det h
    obtain ⟨vs, h2, hb2⟩ := evParts_det h1
    exact ⟨(i, v) :: vs, h2, fun k' hk' => hb _ (hb2 _ hk')⟩

theorem optEv_det {r : Regs} {x : Option Operand} {k : Option Value → Prop} (h : optEv r x k) : ∃ v, k v ∧ ∀ k' : Option Value → Prop, k' v → optEv r x k' := by
  cases x with
  | none => exact ⟨none, h, fun _ h => h⟩
  | some x =>
    obtain ⟨v, h1, hb⟩ := ev_det h
    exact ⟨some v, h1, fun k' hk' => hb _ hk'⟩

theorem tiK_det {t : TypeId} {k : TI → Prop} (h : tiK P t k) : ∃ ti, k ti ∧ ∀ k' : TI → Prop, k' ti → tiK P t k' := by
  unfold tiK at h ⊢
  split at h
  · rename_i ti hti; exact ⟨ti, h, fun k' hk' => by first | rw [hti]; exact hk' | exact hk'⟩
  · cases h

theorem chk_in {b : Bool} {p : Prop} (hb : b = true) (h : p) : chk b p := by subst hb; exact h

theorem vcBin_det {op : BinOp} {x y : Value} {k : Value → Prop} (h : vcBin op x y k) : ∃ v, k v ∧ ∀ k' : Value → Prop, k' v → vcBin op x y k' := by
  unfold vcBin at h
  split at h
  case h_24 => cases h
  case h_17 => exact ⟨_, h.2, fun k' hk' => ⟨h.1, hk'⟩⟩
  case h_12 => obtain ⟨h1, n, hn, h2⟩ := h; exact ⟨_, h2, fun k' hk' => ⟨h1, n, hn, hk'⟩⟩
  case h_13 => exact ⟨_, h.2, fun k' hk' => ⟨h.1, hk'⟩⟩
  case h_4 => obtain ⟨hc, h1, n, hn, h2⟩ := chk_out h; exact ⟨_, h2, fun k' hk' => chk_in hc ⟨h1, n, hn, hk'⟩⟩
  case h_5 => obtain ⟨hc, h1, h2⟩ := chk_out h; exact ⟨_, h2, fun k' hk' => chk_in hc ⟨h1, hk'⟩⟩
  case h_1 | h_2 | h_3 | h_14 | h_15 | h_16 => obtain ⟨hc, n, hn, h2⟩ := chk_out h; exact ⟨_, h2, fun k' hk' => chk_in hc ⟨n, hn, hk'⟩⟩
  case h_6 | h_7 | h_8 | h_9 | h_10 | h_11 => obtain ⟨hc, h2⟩ := chk_out h; exact ⟨_, h2, fun k' hk' => chk_in hc hk'⟩
  all_goals exact ⟨_, h, fun k' hk' => hk'⟩

theorem vcNil_det {kd : Kd} {x y : Value} {k : Bool → Prop} (h : vcNil kd x y k) : ∃ v, k v ∧ ∀ k' : Bool → Prop, k' v → vcNil kd x y k' := by
  unfold vcNil at h
  split at h
  all_goals first | exact ⟨_, h, fun k' hk' => hk'⟩ | cases h

theorem SubA.unique {a a1 a2 : Option Addr} {e l m : Nat} (hs : spotless a) (h1 : SubA a e l m a1) (h2 : SubA a e l m a2) : a1 = a2 := by
  cases a with
  | none => rw [h1.nil rfl, h2.nil rfl]
  | some x =>
    obtain ⟨b, off, sp⟩ := x
    simp only [spotless] at hs
    subst hs
    obtain ⟨o1, rfl, e1, f1⟩ := h1.at_ b off rfl
    obtain ⟨o2, rfl, e2, f2⟩ := h2.at_ b off rfl
    by_cases hml : m = l
    · rw [e1 hml, e2 hml]
    · rw [f1 hml, f2 hml]

/-- A quiet operation that is no load hangs on no heap. -/
theorem vcOp_det {o : Oper} {r : Regs} {h : Heap} {K : Value → Heap → Prop} {X : List PanicEntry → Heap → Prop} (hq : quietOp o = true) (hl : isLoad o = false)
    (hv : vcOp P o r h K X) : ∃ v, K v h ∧ ∀ (h1 : Heap) (K1 : Value → Heap → Prop) (X1 : List PanicEntry → Heap → Prop), K1 v h1 → vcOp P o r h1 K1 X1 := by
  obtain ⟨dst, op, ty, pos, after, guard⟩ := o
  cases op with
  | move x => obtain ⟨v, h1, hb⟩ := ev_det hv; exact ⟨v, h1, fun _ _ _ hk => hb _ hk⟩
  | assign x => obtain ⟨v, h1, hb⟩ := ev_det hv; exact ⟨v, h1, fun _ _ _ hk => hb _ hk⟩
  | pick c a b =>
    obtain ⟨v, h1, hb⟩ := ev_det hv
    split at h1
    case h_2 => cases h1
    rename_i x
    have h1 := iteB_out h1
    cases x with
    | true => obtain ⟨u, h2, hb2⟩ := ev_det (h1.1 rfl); exact ⟨u, h2, fun _ _ _ hk => hb _ (hb2 _ hk)⟩
    | false => obtain ⟨u, h2, hb2⟩ := ev_det (h1.2 rfl); exact ⟨u, h2, fun _ _ _ hk => hb _ (hb2 _ hk)⟩
  | build t ps =>
    obtain ⟨ti, h1, hb1⟩ := tiK_det hv
    obtain ⟨hc, h1⟩ := chk_out h1
    obtain ⟨vs, h2, hb2⟩ := evParts_det h1
    split at h2
    case h_2 => cases h2
    rename_i cs hcs
    exact ⟨_, h2, fun _ _ _ hk => hb1 _ (chk_in hc (hb2 _ (by rw [hcs]; exact hk)))⟩
  | nilCheck x =>
    obtain ⟨v, h1, hb⟩ := ev_det hv
    split at h1
    · exact ⟨_, h1, fun _ _ _ hk => hb _ hk⟩
    · exact ⟨_, h1, fun _ _ _ hk => hb _ hk⟩
    · exact ⟨_, h1, fun _ _ _ hk => hb _ hk⟩
    · cases h1
  | binOp op t x y ty =>
    obtain ⟨u, h1, hb1⟩ := ev_det hv
    obtain ⟨v, h2, hb2⟩ := ev_det h1
    cases hsc : isScal u with
    | true =>
      rw [hsc] at h2
      simp only [cond_true] at h2
      obtain ⟨z, h3, hb3⟩ := vcBin_det h2
      exact ⟨z, h3, fun h1 K1 _ hk => hb1 _ (hb2 _ (by rw [hsc]; exact hb3 (fun v => K1 v h1) hk))⟩
    | false =>
      rw [hsc] at h2
      simp only [cond_false] at h2
      obtain ⟨ti, h3, hb3⟩ := tiK_det h2
      obtain ⟨hc, h3⟩ := chk_out h3
      cases op <;> simp only at h3
      case eql =>
        obtain ⟨b, h4, hb4⟩ := vcNil_det h3
        exact ⟨_, h4, fun _ _ _ hk => hb1 _ (hb2 _ (by rw [hsc]; exact hb3 _ (chk_in hc (hb4 _ hk))))⟩
      case neq =>
        obtain ⟨b, h4, hb4⟩ := vcNil_det h3
        exact ⟨_, h4, fun _ _ _ hk => hb1 _ (hb2 _ (by rw [hsc]; exact hb3 _ (chk_in hc (hb4 _ hk))))⟩
  | unOp op t x =>
    obtain ⟨v, h1, hb⟩ := ev_det hv
    split at h1
    · exact ⟨_, h1, fun _ _ _ hk => hb _ hk⟩
    · obtain ⟨m, hm, h1⟩ := h1; exact ⟨_, h1, fun _ _ _ hk => hb _ ⟨m, hm, hk⟩⟩
    · cases h1
  | convert s d x =>
    obtain ⟨v, g1, hb⟩ := ev_det hv
    obtain ⟨si, g2, hb1⟩ := tiK_det g1
    obtain ⟨di, g3, hb2⟩ := tiK_det g2
    clear g1 g2 hv
    split at g3
    · rename_i hkd
      obtain ⟨m, hm, g4⟩ := g3
      exact ⟨_, g4, fun _ _ _ hk => hb _ (hb1 _ (hb2 _ (by rw [hkd]; exact ⟨m, hm, hk⟩)))⟩
    · rename_i hkd
      obtain ⟨hc, g4⟩ := chk_out g3
      exact ⟨_, g4, fun _ _ _ hk => hb _ (hb1 _ (hb2 _ (by rw [hkd]; exact chk_in hc hk)))⟩
    · cases g3
  | makeInterface t x =>
    obtain ⟨ti, h1, hb1⟩ := tiK_det hv
    obtain ⟨hc, h1⟩ := chk_out h1
    obtain ⟨v, h2, hb2⟩ := ev_det h1
    exact ⟨_, h2, fun _ _ _ hk => hb1 _ (chk_in hc (hb2 _ hk))⟩
  | makeFunc f a b =>
    obtain ⟨fs, h1, hb1⟩ := evs_det hv
    obtain ⟨cs, h2, hb2⟩ := evs_det h1
    exact ⟨_, h2, fun _ _ _ hk => hb1 _ (hb2 _ hk)⟩
  | fieldAddr s x f =>
    obtain ⟨v, h1, hb⟩ := ev_det hv
    split at h1
    case h_2 => cases h1
    obtain ⟨ti, h2, hb2⟩ := tiK_det h1
    obtain ⟨hc, h2⟩ := chk_out h2
    split at h2
    case h_2 => cases h2
    rename_i hf
    exact ⟨_, h2, fun _ _ _ hk => hb _ (hb2 _ (chk_in hc (by rw [hf]; exact hk)))⟩
  | field s x f =>
    obtain ⟨v, h1, hb⟩ := ev_det hv
    split at h1
    case h_2 => cases h1
    rename_i cs
    obtain ⟨ti, h2, hb2⟩ := tiK_det h1
    obtain ⟨hc, h2⟩ := chk_out h2
    split at h2
    case h_2 => cases h2
    rename_i off size agg hf
    cases agg with
    | true => exact ⟨_, h2, fun _ _ _ hk => hb _ (hb2 _ (chk_in hc (by rw [hf]; exact hk)))⟩
    | false =>
      simp only [cond_false] at h2
      split at h2
      case h_2 => cases h2
      rename_i c hcc
      exact ⟨_, h2, fun _ _ _ hk => hb _ (hb2 _ (chk_in hc (by rw [hf]; simp only [cond_false]; rw [hcc]; exact hk)))⟩
  | indexAddr t x ix =>
    obtain ⟨v, h1, hb⟩ := ev_det hv
    obtain ⟨iv, h1, hb1⟩ := ev_det h1
    split at h1
    case h_2 => cases h1
    obtain ⟨ti, h2, hb2⟩ := tiK_det h1
    obtain ⟨hc, b0, o0, j, ha, hj1, hj2, h2⟩ := chk_out h2
    exact ⟨_, h2, fun _ _ _ hk => hb _ (hb1 _ (hb2 _ (chk_in hc ⟨b0, o0, j, ha, hj1, hj2, hk⟩)))⟩
  | index t x ix =>
    obtain ⟨v, h1, hb⟩ := ev_det hv
    obtain ⟨iv, h1, hb1⟩ := ev_det h1
    split at h1
    case h_2 => cases h1
    obtain ⟨ti, h2, hb2⟩ := tiK_det h1
    obtain ⟨hc, j, hj1, hj2, h2⟩ := chk_out h2
    exact ⟨_, h2, fun _ _ _ hk => hb _ (hb1 _ (hb2 _ (chk_in hc ⟨j, hj1, hj2, hk⟩)))⟩
  | slice t x lo hi mx =>
    obtain ⟨v, h1, hb⟩ := ev_det hv
    obtain ⟨lv, k1, hb1⟩ := optEv_det h1
    obtain ⟨hv', k2, hb2⟩ := optEv_det k1
    obtain ⟨mv, k3, hb3⟩ := optEv_det k2
    clear k1 k2 h1 hv
    split at k3
    · obtain ⟨hm, k4⟩ := chk_out k3
      obtain ⟨ti, k5, hb4⟩ := tiK_det k4
      obtain ⟨hc, l, h', g1, g2, g3, g4, k6⟩ := chk_out k5
      exact ⟨_, k6, fun _ _ _ hk => hb _ (hb1 _ (hb2 _ (hb3 _ (chk_in hm (hb4 _ (chk_in hc ⟨l, h', g1, g2, g3, g4, hk⟩))))))⟩
    · obtain ⟨ti, k5, hb4⟩ := tiK_det k3
      obtain ⟨hc, k6⟩ := chk_out k5
      obtain ⟨hc2, l, h', m, g1, g2, g3, g4, g5, g6, g7, k7⟩ := chk_out k6
      clear k3 k5 k6
      rename_i a len cap
      have hsub : ∃ a', SubA a ti.esize l m a' := by
        cases a with
        | none => exact ⟨none, fun _ => rfl, fun b o h => (by cases h)⟩
        | some x =>
          obtain ⟨b, off, sp⟩ := x
          simp only [spotless] at g7
          subst g7
          by_cases hml : m = l
          · exact ⟨some ⟨b, off, none⟩, fun h => (by cases h), fun b' o' h => by cases h; exact ⟨off, rfl, fun _ => rfl, fun h => absurd hml h⟩⟩
          · exact ⟨some ⟨b, off + mulE l ti.esize, none⟩, fun h => (by cases h), fun b' o' h => by cases h; exact ⟨_, rfl, fun h => absurd h hml, fun _ => rfl⟩⟩
      obtain ⟨a', ha'⟩ := hsub
      exact ⟨_, k7 a' ha', fun _ _ _ hk => hb _ (hb1 _ (hb2 _ (hb3 _ (hb4 _ (chk_in hc (chk_in hc2 ⟨l, h', m, g1, g2, g3, g4, g5, g6, g7,
        fun a2 ha2 => by rw [SubA.unique g7 ha2 ha']; exact hk⟩))))))⟩
    · cases k3
  | extract x i =>
    obtain ⟨v, h1, hb⟩ := ev_det hv
    split at h1
    case h_2 => cases h1
    split at h1
    case h_2 => cases h1
    rename_i u hu
    exact ⟨_, h1, fun _ _ _ hk => hb _ (by simp only [hu]; exact hk)⟩
  | call c =>
    obtain ⟨callee, args, tys⟩ := c
    cases callee with
    | builtin b =>
      cases b <;> simp only [quietOp, Bool.false_eq_true] at hq
      · obtain ⟨vs, h1, hb⟩ := evs_det hv
        split at h1
        · rename_i hts
          obtain ⟨ti, h2, hb2⟩ := tiK_det h1
          obtain ⟨hc, h2⟩ := chk_out h2
          exact ⟨_, h2, fun _ _ _ hk => hb _ (by rw [hts]; exact hb2 _ (chk_in hc hk))⟩
        · rename_i hts
          obtain ⟨ti, h2, hb2⟩ := tiK_det h1
          obtain ⟨hc, h2⟩ := chk_out h2
          exact ⟨_, h2, fun _ _ _ hk => hb _ (by rw [hts]; exact hb2 _ (chk_in hc hk))⟩
        · cases h1
      · obtain ⟨vs, h1, hb⟩ := evs_det hv
        split at h1
        case h_2 => cases h1
        exact ⟨_, h1, fun _ _ _ hk => hb _ hk⟩
      · obtain ⟨vs, h1, hb⟩ := evs_det hv
        split at h1
        case h_2 => cases h1
        exact ⟨_, h1, fun _ _ _ hk => hb _ hk⟩
    | value f => simp [quietOp] at hq
    | invoke r m => simp [quietOp] at hq
  | load t x => simp [isLoad] at hl
  | _ => simp [quietOp] at hq

/-- The order in which a region is gone through: quiet operations first, of the others whichever may come. -/
inductive Plan where
  | done
  | take (i : Nat) (p : Plan)
  | loud (i : Nat) (p : Plan) (rest : Plan)
  | none

structure Ent where
  i : Nat
  ld : Option (TypeId × Nat × Nat)
  v : Value

def isQ (ops : Array Oper) (i : Nat) : Bool := match ops[i]? with | some o => quietOp o | none => false

/-- All loud operations that are left wait for 'x'. -/
def settled (ops : Array Oper) (ls : Array Bool) (i x : Nat) : Bool :=
  (List.range ops.size).all fun k => k == i || ls.getD k true || isQ ops k || waits .any ops ops.size k x

def keepE (ops : Array Oper) (ls : Array Bool) (i : Nat) (T : List Ent) : List Ent := T.filter fun e => !settled ops ls i e.i

def afterE (ops : Array Oper) (j : Nat) (T : List Ent) : List Ent := T.filter fun e => !waits .any ops ops.size j e.i

def ldAt (P : Program) (t : TypeId) (b o : Nat) (h : Heap) (K : Value → Prop) : Prop :=
  tiK P t fun ti => bif ti.agg then ldcs h b ti.cks o fun vs => K (.agg vs.toArray)
    else match ti.cks with
      | [c] => ldc c h b o K
      | _ => False

def stillVC (P : Program) (ops : Array Oper) (j : Nat) (h : Heap) : List Ent → Prop → Prop
  | [], p => p
  | e :: T, p => match e.ld with
    | none => stillVC P ops j h T p
    | some (t, b, o) => bif waits .any ops ops.size j e.i then stillVC P ops j h T p
      else ldAt P t b o h (fun v => v = e.v) ∧ stillVC P ops j h T p

def entOf (i : Nat) (o : Oper) (r : Regs) (v : Value) : Ent :=
  match o.op with
  | .load t (.tmp x) => match rget r x with
    | some (.pointer (some ⟨b, off, none⟩)) => ⟨i, some (t, b, off), v⟩
    | _ => ⟨i, none, v⟩
  | .load t (.global g) => ⟨i, some (t, g, 0), v⟩
  | _ => ⟨i, none, v⟩

def vcGuard (ops : List Oper) (o : Oper) (r : Regs) (yes no : Regs → Prop) : Prop :=
  match o.guard with
  | none => yes r
  | some (j, want) =>
    match gslot ops j with
    | some d => rgetK r d fun v => match v with
      | .bool c =>
        match want with
        | true => iteB c (yes ((d, .bool true) :: r)) (no ((d, .bool false) :: r))
        | false => iteB c (no ((d, .bool true) :: r)) (yes ((d, .bool false) :: r))
      | .tuple _ => no r
      | _ => False
    | none => False

/-- Both, where there is more than one way. -/
def andN (rest : Plan) (p q : Prop) : Prop :=
  match rest with
  | .none => p
  | _ => p ∧ q

def vcPlan (P : Program) (kp : List Nat) (ops : Array Oper) (Q : Exit → Regs → Heap → Prop) : Plan → Array Bool → List Ent → Regs → Heap → Prop
  | .done, _, _, r, h => Q .normal (rprune r kp) h
  | .take i p, ls, T, r, h => match ops.toList[i]? with
    | some o => vcGuard ops.toList o r
        (fun r' => vcOp P o r' h (fun v _ => vcPlan P kp ops Q p (ls.setIfInBounds i true) (entOf i o r' v :: keepE ops ls i T) (rput o.dst v r') h) (fun _ _ => False))
        (fun r' => vcPlan P kp ops Q p (ls.setIfInBounds i true) (⟨i, none, undef⟩ :: keepE ops ls i T) (rput o.dst undef r') h)
    | none => False
  | .loud i p rest, ls, T, r, h => match ops.toList[i]? with
    | some o => andN rest (vcGuard ops.toList o r
        (fun r' => vcOpx P o r' h (fun v h' => stillVC P ops i h' T (vcPlan P kp ops Q p (ls.setIfInBounds i true) (afterE ops i T) (rput o.dst v r') h')) (fun ch h' => Q (.panic ch) r' h'))
        (fun r' => vcPlan P kp ops Q p (ls.setIfInBounds i true) (afterE ops i T) (rput o.dst undef r') h))
      (vcPlan P kp ops Q rest ls T r h)
    | none => False
  | .none, _, _, _, _ => True

def Plan.chain : Plan → List Nat
  | .loud i _ rest => i :: rest.chain
  | _ => []

def Plan.depth : Plan → Nat
  | .done => 0
  | .take _ p => p.depth + 1
  | .loud _ p rest => max (p.depth + 1) rest.depth
  | .none => 0

/-- Nothing that has come up, and is not dropped, looks at the operation's temporary, nor does it itself. -/
def lookOK (ops : Array Oper) (ls : Array Bool) (drop : Nat → Bool) (i : Nat) : Bool :=
  match ops[i]? with
  | some o => match o.dst with
    | some d => (List.range ops.size).all fun k => (k != i && (!ls.getD k false || drop k)) || match ops[k]? with
      | some ok => !(ok.looksAt ops).contains d
      | none => true
    | none => true
  | none => false

def loadOK (o : Oper) : Bool := match o.op with | .load _ (.tmp _) => true | .load _ (.global _) => true | .load _ _ => false | _ => true

def planOK (ops : Array Oper) : Bool → Plan → Array Bool → Bool
  | _, .done, ls => (Region.ready .any ops ls).isEmpty
  | _, .take i p, ls => (Region.ready .any ops ls).contains i && Region.free .any ops ls i && isQ ops i && lookOK ops ls (settled ops ls i) i &&
      (match ops[i]? with | some o => loadOK o | none => false) && planOK ops true p (ls.setIfInBounds i true)
  | hd, .loud i p rest, ls => (!hd || ((Region.ready .any ops ls).contains i && (Region.ready .any ops ls).all fun j => (i :: rest.chain).contains j && !isQ ops j)) &&
      lookOK ops ls (waits .any ops ops.size i) i && planOK ops true p (ls.setIfInBounds i true) && planOK ops false rest ls
  | hd, .none, _ => !hd

/-- What is known of what has been taken. -/
def Known (P : Program) (ops : Array Oper) (ls : Array Bool) (T : List Ent) (a : Act) (w : World) : Prop :=
  ∀ e ∈ T, ls.getD e.i false = true ∧ ∃ o, ops[e.i]? = some o ∧ match e.ld with
    | none => ∀ w', YieldsAt P ops o e.v a w'
    | some (t, b, off) => (∃ x, o.op = .load t x ∧ a.eval x = .pointer (some ⟨b, off, none⟩)) ∧ Region.wanted o (yielded ops a.tmps) = true ∧ (loadVar t ⟨b, off, none⟩).run P w = .ok e.v w

def toTaken (ops : Array Oper) (T : List Ent) : Taken := T.map fun e => (e.i, ops.getD e.i default, e.v)

theorem lookOK_spec {ops : Array Oper} {ls : Array Bool} {drop : Nat → Bool} {i : Nat} {o : Oper} (h : lookOK ops ls drop i = true) (hi : ops[i]? = some o) {k : Nat} {ok : Oper} (hk : ops[k]? = some ok)
    (hl : k = i ∨ (ls.getD k false = true ∧ drop k = false)) : ∀ t, o.dst = some t → t ∉ ok.looksAt ops := by
  intro t ht
  unfold lookOK at h
  simp only [hi, ht] at h
  have hlt : k < ops.size := (Array.getElem?_eq_some_iff.1 hk).1
  have := List.all_eq_true.1 h k (List.mem_range.2 hlt)
  simp only [hk] at this
  rcases hl with rfl | ⟨hl, hd⟩
  · simpa using this
  · rw [hl, hd] at this; simpa using this

theorem Known.filter {ops : Array Oper} {ls : Array Bool} {T : List Ent} {a : Act} {w : World} (hkn : Known P ops ls T a w) (p : Ent → Bool) : Known P ops ls (T.filter p) a w :=
  fun e he => hkn e (List.mem_filter.1 he).1

theorem Known.put {ops : Array Oper} {ls : Array Bool} {drop : Nat → Bool} {T : List Ent} {a : Act} {w : World} (hs : NoSel ops) (hkn : Known P ops ls T a w) {i : Nat} {o : Oper} (hi : ops[i]? = some o)
    (hl : lookOK ops ls drop i = true) (hd : ∀ e ∈ T, drop e.i = false) (u : Value) : Known P ops ls T (a.put o.dst u) w := by
  intro e he
  obtain ⟨h1, oe, h2, h3⟩ := hkn e he
  refine ⟨h1, oe, h2, ?_⟩
  have hd := lookOK_spec hl hi h2 (.inr ⟨h1, hd e he⟩)
  split
  · rename_i hld
    rw [hld] at h3
    intro w'; exact (h3 w').put hs h2 hd
  · rename_i t b off hld
    rw [hld] at h3
    obtain ⟨⟨x, hx1, hx2⟩, h4, h5⟩ := h3
    refine ⟨⟨x, hx1, ?_⟩, ?_, h5⟩
    · rw [← hx2]
      refine Act.eval_put fun d hd' hxd => hd d hd' ?_
      subst hxd
      simp [Oper.looksAt, hx1, Op.operands]
    · rw [wanted_put oe a o.dst u hd]; exact h4

theorem Known.set {ops : Array Oper} {ls : Array Bool} {T : List Ent} {a : Act} {w : World} (hkn : Known P ops ls T a w) (i : Nat) : Known P ops (ls.setIfInBounds i true) T a w :=
  fun e he => let ⟨h1, h2⟩ := hkn e he; ⟨getD_set_true h1, h2⟩


theorem stillVC_out {ops : Array Oper} {j : Nat} {h : Heap} : ∀ {T : List Ent} {p : Prop}, stillVC P ops j h T p →
    (∀ e ∈ T, waits .any ops ops.size j e.i = false → ∀ t b o, e.ld = some (t, b, o) → ldAt P t b o h (fun v => v = e.v)) ∧ p
  | [], p, hh => ⟨by simp, hh⟩
  | e :: T, p, hh => by
    unfold stillVC at hh
    split at hh
    · rename_i hld
      obtain ⟨h1, h2⟩ := stillVC_out hh
      refine ⟨fun e' he' hw t b o hl => ?_, h2⟩
      rcases List.mem_cons.1 he' with rfl | he'
      · rw [hld] at hl; cases hl
      · exact h1 e' he' hw t b o hl
    · rename_i t b o hld
      cases hw : waits .any ops ops.size j e.i with
      | true =>
        rw [hw] at hh
        obtain ⟨h1, h2⟩ := stillVC_out hh
        refine ⟨fun e' he' hw' t b o hl => ?_, h2⟩
        rcases List.mem_cons.1 he' with rfl | he'
        · rw [hw] at hw'; cases hw'
        · exact h1 e' he' hw' t b o hl
      | false =>
        rw [hw] at hh
        obtain ⟨h3, hh⟩ := hh
        obtain ⟨h1, h2⟩ := stillVC_out hh
        refine ⟨fun e' he' hw' t' b' o' hl => ?_, h2⟩
        rcases List.mem_cons.1 he' with rfl | he'
        · rw [hld] at hl; simp only [Option.some.injEq, Prod.mk.injEq] at hl; obtain ⟨rfl, rfl, rfl⟩ := hl; exact h3
        · exact h1 e' he' hw' t' b' o' hl

theorem ldAt_run {t : TypeId} {b o : Nat} {w : World} {v : Value} (h : ldAt P t b o w.heap (fun v' => v' = v)) : (loadVar t ⟨b, o, none⟩).run P w = .ok v w := by
  obtain ⟨ti, i, d, z, ht, hk⟩ := tiK_spec h
  obtain ⟨v', hv, rfl⟩ := loadVar_run (P := P) (w := w) (b := b) (o := o) (K := fun v' => v' = v) ht (by
    cases hg : ti.agg with
    | true => rw [hg] at hk; exact hk
    | false =>
      rw [hg] at hk
      simp only [cond_false] at hk ⊢
      split at hk
      · rename_i c hc; rw [hc]; exact hk
      · cases hk)
  exact hv

theorem waits_drop {ops : Array Oper} {i : Nat} {T : List Ent} : ∀ e ∈ afterE ops i T, waits .any ops ops.size i e.i = false := by
  intro e he
  simpa using (List.mem_filter.1 he).2

/-- Behind a loud operation: what has been taken and is not waited for still yields. -/
theorem Known.loud {ops : Array Oper} {ls : Array Bool} {T : List Ent} {a : Act} {w w' : World} (hs : NoSel ops) (hkn : Known P ops ls T a w) {i : Nat} {o : Oper} (hi : ops[i]? = some o)
    (hl : lookOK ops ls (waits .any ops ops.size i) i = true) (u : Value)
    (hst : ∀ e ∈ T, waits .any ops ops.size i e.i = false → ∀ t b o, e.ld = some (t, b, o) → (loadVar t ⟨b, o, none⟩).run P w' = .ok e.v w') :
    StillAt P .any ops ops.size (toTaken ops T) i (a.put o.dst u) w' ∧ Known P ops (ls.setIfInBounds i true) (afterE ops i T) (a.put o.dst u) w' := by
  have hp := (hkn.filter fun e => !waits .any ops ops.size i e.i).put hs hi hl waits_drop u
  constructor
  · intro x hx hw
    obtain ⟨e, he, rfl⟩ := List.mem_map.1 hx
    obtain ⟨_, oe, h2, h3⟩ := hp e (List.mem_filter.2 ⟨he, by simp [hw]⟩)
    have hoe : ops.getD e.i default = oe := by simp [Array.getD_eq_getD_getElem?, h2]
    simp only [hoe]
    split at h3
    · exact h3 w'
    · rename_i t b off hld
      obtain ⟨⟨x, hx1, hx2⟩, h4, _⟩ := h3
      refine .inl ⟨h4, ?_⟩
      have := hst e he hw t b off hld
      simp [execOp, hx1, Instr.loadAt, hx2, Instr.sureAddr, this]
  · intro e he
    obtain ⟨he', hw⟩ := List.mem_filter.1 he
    simp only [Bool.not_eq_true'] at hw
    obtain ⟨h1, oe, h2, h3⟩ := hp e he
    refine ⟨getD_set_true h1, oe, h2, ?_⟩
    split
    · rename_i hld; rw [hld] at h3; exact h3
    · rename_i t b off hld
      rw [hld] at h3
      exact ⟨h3.1, h3.2.1, hst e he' hw t b off hld⟩

theorem Known.still {ops : Array Oper} {ls : Array Bool} {T : List Ent} {a : Act} {w : World} (hs : NoSel ops) (hkn : Known P ops ls T a w) {i : Nat} {o : Oper} (hi : ops[i]? = some o)
    (hl : lookOK ops ls (waits .any ops ops.size i) i = true) (u : Value) :
    StillAt P .any ops ops.size (toTaken ops T) i (a.put o.dst u) w ∧ Known P ops (ls.setIfInBounds i true) (afterE ops i T) (a.put o.dst u) w :=
  hkn.loud hs hi hl u fun e he _ t b o hld => by
    obtain ⟨_, oe, _, h3⟩ := hkn e he
    rw [hld] at h3
    exact h3.2.2

end
end Go.Vx
