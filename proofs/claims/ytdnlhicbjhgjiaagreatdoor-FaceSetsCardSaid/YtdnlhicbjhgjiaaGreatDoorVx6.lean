/- The walk by verification conditions: an operation's condition gives the machine's rule. No condition. -/
import Derived.Test.YtdnlhicbjhgjiaaGreatDoorVx5
namespace Go.Vx
open Go.RowKit

section
variable {P : Program} {o : Oper} {w : World} {n : Nat} {a : Act} {r : Regs} {K : Value → Heap → Prop} {X : List PanicEntry → Heap → Prop}
  {next : Act → World → Prop} {Q' : Exit → Act → World → Prop}

set_option maxHeartbeats 1000000 in
theorem vcOp_sound (hs : Sub n a r) (hvc : vcOp P o r w.heap K X)
    (hK : ∀ v w', Below 0 w w' → K v w'.heap → next (a.put o.dst v) w') (hX : ∀ ch w', Below 0 w w' → X ch w'.heap → Q' (.panic ch) a w') : o.wp P a w next Q' := by
  have hval : ∀ {v : Value}, (execOp a.eval o).run P w = .ok (.value v) w → K v w.heap → o.wp P a w next Q' := fun hrun hk =>
    wp_value hrun (hK _ _ (.refl _ _) hk)
  unfold vcOp at hvc
  split at hvc <;> rename_i hop
  · exact hval (by simp [execOp, hop]) (hs.eval hvc)
  · exact hval (by simp [execOp, hop]) (hs.eval hvc)
  · -- pick
    have h1 := hs.eval hvc
    split at h1
    · rename_i x hx
      have h1 := iteB_out h1
      cases x with
      | true => exact hval (by simp [execOp, hop, hx, asBool]) (hs.eval (h1.1 rfl))
      | false => exact hval (by simp [execOp, hop, hx, asBool]) (hs.eval (h1.2 rfl))
    · cases h1
  · -- alloc
    obtain ⟨ti, i, d, z, ht, hk⟩ := tiK_spec hvc
    have := hk _ _ rfl rfl
    rw [ht.zeq] at this
    refine wp_value (w' := { w with heap := w.heap.push (.cells z.cells _ (0, 0)) }) ?_ (hK _ _ (below_push _ _) this)
    simp [execOp, hop, Instr.alloc, r_zero ht.info ht.zero, newVar, newRow]
  · -- box
    have h1 := hs.eval hvc _ _ rfl rfl
    refine wp_value (w' := { w with heap := w.heap.push (.cells (vcells _).toArray _ (0, 0)) }) ?_ (hK _ _ (below_push _ _) h1)
    simp [execOp, hop, Instr.box, newVar, newRow, vcells]
  · -- build
    rename_i t parts
    obtain ⟨ti, i, d, z, ht, hk0⟩ := tiK_spec hvc
    obtain ⟨hkd, hk⟩ := chk_out hk0
    simp only [decide_eq_true_eq] at hkd
    have h1 := hs.parts hk
    split at h1
    case h_2 => cases h1
    rename_i cs hcs
    have hd : ∃ fs, d = .struct fs := by
      have := ht.kd; rw [hkd] at this
      cases d <;> simp [kdOf] at this
      exact ⟨_, rfl⟩
    obtain ⟨fs, rfl⟩ := hd
    obtain ⟨hf, hfs⟩ := ht.fields fs rfl
    refine hval ?_ h1
    have hm : (fs.mapM fun f => do pure (f.offset, ← sizeOf f.type) : Sem (Array (Nat × Nat))).run P w = .ok (fs.map fun f => (f.offset, sizeOfT P f.type)) w :=
      mapM_runA _ _ fs w fun f hf => by
        obtain ⟨⟨j, hj⟩, _⟩ := hfs f hf
        simp [r_size hj, sizeOfT, hj]
    have hfill : Instr.fill (fun i => (fs.map fun f => (f.offset, sizeOfT P f.type))[i]?) z.cells (parts.toList.map fun x => (x.1, a.eval x.2)) = some cs.toArray := by
      refine fill_eq (fields := ti.fields) ?_ _ _ _ (by rw [← ht.zeq]; exact hcs)
      intro i off size b hi
      rw [hf] at hi
      simp only [List.getElem?_map, Option.map_eq_some_iff] at hi
      obtain ⟨f, hf1, hf2⟩ := hi
      simp only [Prod.mk.injEq] at hf2
      have : fs[i]? = some f := by simpa using hf1
      simp [this, hf2.1, hf2.2.1]
    have hpl : (parts.map fun (x : Nat × Operand) => (x.1, a.eval x.2)).toList = parts.toList.map fun x => (x.1, a.eval x.2) := by simp
    have : (execOp a.eval o) = (do pure (.value (← Instr.build t (parts.map fun (x : Nat × Operand) => (x.1, a.eval x.2))))) := by
      simp only [execOp, hop]
    rw [this]
    simp only [Sem.run_bind, Instr.build, r_zero ht.info ht.zero, r_und ht.und, Result.andThen_ok, hm, hpl, hfill, Sem.run_pure]
  · -- buildSlice
    rename_i t len parts
    obtain ⟨ti, i, d, z, ht, hk0⟩ := tiK_spec hvc
    obtain ⟨hchk, hk⟩ := chk_out hk0
    simp only [Bool.and_eq_true, decide_eq_true_eq] at hchk
    obtain ⟨hkd, hle⟩ := hchk
    have h1 := hs.parts hk
    split at h1
    case h_2 => cases h1
    rename_i cs hcs
    have hd : ∃ el, d = .slice el := by
      have := ht.kd; rw [hkd] at this
      cases d <;> simp [kdOf] at this
      exact ⟨_, rfl⟩
    obtain ⟨el, rfl⟩ := hd
    obtain ⟨hel, je, ye, hie, hze, hys, hpos, hes, heb, hez⟩ := ht.slice el rfl
    refine wp_value (w' := { w with heap := w.heap.push (.cells cs.toArray ti.elem (0, 0)) }) ?_ (hK _ _ (below_push _ _) (h1 _ _ rfl rfl))
    have hpl : (parts.map fun (x : Nat × Operand) => (x.1, a.eval x.2)).toList = parts.toList.map fun x => (x.1, a.eval x.2) := by simp
    have : (execOp a.eval o) = (do pure (.value (← Instr.buildSlice t len (parts.map fun (x : Nat × Operand) => (x.1, a.eval x.2))))) := by
      simp only [execOp, hop]
    rw [this]
    rw [hes] at hle
    have hc0 : ((Array.range (len * je.size)).map fun j => (if len * je.size = 0 then #[] else ye.cells)[j % (if len * je.size = 0 then #[] else ye.cells).size]!) = (zerosOf ti.ezero len).toArray := by
      by_cases h0 : len * je.size = 0
      · rw [if_pos h0]
        have : len = 0 := by
          rcases Nat.mul_eq_zero.1 h0 with h | h
          · exact h
          · omega
        subst this
        simp [zerosOf]
      · rw [if_neg h0, hez, ← hys]; exact zeros_eq _ _
    have hfill : Instr.fill (fun i => some (i * je.size, je.size)) (zerosOf ti.ezero len).toArray (parts.toList.map fun x => (x.1, a.eval x.2)) = some cs.toArray := by
      refine fill_eq (fields := (List.range len).map fun i => (i * ti.esize, ti.esize, false)) ?_ _ _ _ (by simpa using hcs)
      intro i off size b hi
      simp only [List.getElem?_map, Option.map_eq_some_iff, Prod.mk.injEq] at hi
      obtain ⟨q, hq, h1, h2, _⟩ := hi
      have : q = i := by
        rw [List.getElem?_range] at hq
        · simpa using hq.symm
        · rcases Nat.lt_or_ge i len with h | h
          · exact h
          · rw [List.getElem?_eq_none (by simpa using h)] at hq; cases hq
      subst this
      rw [← h1, ← h2, hes]
    simp only [Sem.run_bind, Instr.buildSlice, r_und ht.und, r_size hie, Result.andThen_ok]
    rw [if_neg (by omega)]
    by_cases h0 : len * je.size = 0
    · rw [if_pos h0] at hc0 ⊢
      simp only [pure_bind, hc0, hpl, hfill, Sem.run_bind, Result.andThen_ok, Sem.run_pure, newRow, run_newObj, hel]
    · rw [if_neg h0] at hc0 ⊢
      simp only [bind_assoc, pure_bind, Sem.run_bind, r_zero hie hze, Result.andThen_ok, hc0, hpl, hfill, Sem.run_pure, newRow, run_newObj, hel]
  · -- load
    rename_i t x
    have h1 := hs.eval hvc
    split at h1
    case h_2 => cases h1
    rename_i b off hx
    obtain ⟨ti, i, d, z, ht, hk⟩ := tiK_spec h1
    obtain ⟨v, hv, hk⟩ := loadVar_run (K := fun v => K v w.heap) ht hk
    exact hval (by simp [execOp, hop, Instr.loadAt, hx, Instr.sureAddr, hv]) hk
  · -- store
    rename_i t x y
    have h1 := hs.eval (hs.eval hvc)
    split at h1
    case h_2 => cases h1
    rename_i b off hx
    obtain ⟨ti, i, d, z, ht, hk0⟩ := tiK_spec h1
    obtain ⟨hl, hk1⟩ := chk_out hk0
    obtain ⟨hone, hw, hk⟩ := onesK_out hk1
    simp only [decide_eq_true_eq] at hl
    have := storeVar_run (P := P) (w := w) ht hl hone hw
    refine wp_skip' (w' := { w with heap := setCells w.heap b off (vcells (a.eval y)) }) ?_ (hK _ _ (Below.heap (by rw [size_setCells]; exact Nat.le_refl _)) (hk _ rfl))
    simp [execOp, hop, Instr.storeAt, hx, Instr.sureAddr, this]
  · -- nilCheck
    have h1 := hs.eval hvc
    split at h1 <;> rename_i hx
    · exact hval (by simp [execOp, hop, hx]) h1
    · exact hval (by simp [execOp, hop, hx]) h1
    · exact hval (by simp [execOp, hop, hx]) h1
    · cases h1
  · -- binOp
    rename_i op t x y ty
    have h1 := hs.eval (hs.eval hvc)
    have he : (execOp a.eval o) = (do pure (.value (← (do eqGuard op t x y (a.eval x) (a.eval y); binOp op t (a.eval x) (a.eval y))))) := by
      simp only [execOp, hop]
    cases hsc : isScal (a.eval x) with
    | true =>
      rw [hsc] at h1
      simp only [cond_true] at h1
      obtain ⟨v, hv, hk⟩ := r_bin (P := P) (w := w) (t := t) h1
      refine hval ?_ hk
      rw [he]
      have hg : (eqGuard op t x y (a.eval x) (a.eval y)).run P w = .ok () w := by
        unfold isScal at hsc
        split at hsc <;> rename_i hx
        · rw [hx]; cases op <;> cases a.eval y <;> rfl
        · rw [hx]; cases op <;> cases a.eval y <;> rfl
        · cases hsc
      simp [hg, hv]
    | false =>
      rw [hsc] at h1
      simp only [cond_false] at h1
      have key : ∀ {f : Bool → Bool} {ti i d z}, TIs P t ti i d z → (ti.kd = .iface → (Region.isConst x || Region.isConst y) = true) →
          vcNil ti.kd (a.eval x) (a.eval y) (fun v => K (.bool (f v)) w.heap) → ((op = .eql ∧ f = id) ∨ (op = .neq ∧ f = not)) → o.wp P a w next Q' := by
        intro f ti i d z ht hc hv hop'
        obtain ⟨b, hb, hk⟩ := r_eqNil (P := P) (w := w) ht rfl hv
        refine hval ?_ hk
        rw [he]
        have hg : (eqGuard op t x y (a.eval x) (a.eval y)).run P w = .ok () w := by
          have hop2 : ∀ (z : Sem Unit), (if !(op matches .eql | .neq) then return else z) = z := by
            intro z; rcases hop' with ⟨rfl, _⟩ | ⟨rfl, _⟩ <;> rfl
          unfold vcNil at hv
          unfold eqGuard
          rcases hop' with ⟨rfl, rfl⟩ | ⟨rfl, rfl⟩ <;>
          · split at hv <;> (try (cases hv; done)) <;> rename_i hkk hx hy <;> rw [hx, hy] <;> first | rfl | skip
            · have := hc hkk
              simp only [Bool.or_eq_true] at this
              cases x <;> cases y <;> first | rfl | (simp [Region.isConst] at this)
        have hb2 : (binOp op t (a.eval x) (a.eval y)).run P w = .ok (.bool (f b)) w := by
          unfold vcNil at hv
          rcases hop' with ⟨rfl, rfl⟩ | ⟨rfl, rfl⟩ <;>
          · split at hv <;> (try (cases hv; done)) <;> rename_i hkk hx hy <;> rw [hx, hy] at hb ⊢ <;> simp [binOp, hb]
        simp [hg, hb2]
      obtain ⟨ti, i, d, z, ht, h1⟩ := tiK_spec h1
      obtain ⟨hc, h1⟩ := chk_out h1
      have hc : ti.kd = .iface → (Region.isConst x || Region.isConst y) = true := by
        intro hk; simpa [hk] using hc
      split at h1
      · exact key (f := id) ht hc h1 (.inl ⟨rfl, rfl⟩)
      · exact key (f := not) ht hc h1 (.inr ⟨rfl, rfl⟩)
      · cases h1
  · -- unOp
    have h1 := hs.eval hvc
    split at h1
    · rename_i hx
      exact hval (by simp [execOp, hop, hx, Op.unary]) h1
    · rename_i hx
      obtain ⟨m, hm, hk⟩ := h1
      exact hval (by simp [execOp, hop, hx, Op.unary, Op.intArith]; rw [← wrap_of hm]; simp) hk
    · cases h1
  · -- convert
    rename_i s d x
    have h1 := hs.eval hvc
    obtain ⟨si, i1, d1, z1, hts, h2⟩ := tiK_spec h1
    obtain ⟨di, i2, d2, z2, htd, h3⟩ := tiK_spec h2
    have hk2 := htd.kd
    have hk1 := hts.kd
    split at h3
    · rename_i k k' m hkd hx
      rw [hkd] at hk2
      obtain ⟨m', hm, hk⟩ := h3
      have : d2 = .int k := by cases d2 <;> simp [kdOf] at hk2; rw [hk2]
      subst this
      refine hval ?_ hk
      simp [execOp, hop, hx, convert, r_und hts.und, r_und htd.und, Conv.intToInt, wrap_of hm]
    · rename_i s' hkd hx
      rw [hkd] at hk2
      obtain ⟨h4, hk⟩ := chk_out h3
      simp only [decide_eq_true_eq] at h4
      rw [h4] at hk1
      have : d2 = .string := by cases d2 <;> simp [kdOf] at hk2; rfl
      subst this
      have : d1 = .string := by cases d1 <;> simp [kdOf] at hk1; rfl
      subst this
      refine hval ?_ hk
      simp [execOp, hop, hx, convert, r_und hts.und, r_und htd.und]
    · cases h3
  · -- makeInterface
    obtain ⟨ti, i, d, z, ht, h1⟩ := tiK_spec hvc
    obtain ⟨hkd, h1⟩ := chk_out h1
    simp only [decide_eq_true_eq] at hkd
    have h2 := hs.eval h1
    refine hval ?_ h2
    have := ht.kd
    simp only [execOp, hop, Instr.makeInterface, Sem.run_bind, r_und ht.und, Result.andThen_ok]
    cases d <;> simp <;> (simp [kdOf] at this; exact absurd this hkd)
  · -- makeFunc
    rename_i fn first captured
    have h1 := hs.evals (hs.evals hvc)
    refine hval ?_ h1
    simp only [execOp, hop, Instr.makeFunc, Sem.run_bind, Sem.run_pure, Result.andThen_ok]
    congr 3 <;> (apply Array.ext'; simp)
  · -- makeMap
    rename_i t
    obtain ⟨ti, i, d, z, ht, hk0⟩ := tiK_spec hvc
    obtain ⟨hkd, hk⟩ := chk_out hk0
    refine wp_value (w' := { w with heap := w.heap.push (.map #[] 0) }) ?_ (hK _ _ (below_push _ _) (hk _ _ rfl rfl))
    simp [execOp, hop, Instr.makeMap]
  · -- makeSlice
    have h1 := hs.eval (hs.eval hvc)
    split at h1
    case h_2 => cases h1
    rename_i k l k' c hx hy
    obtain ⟨ti, i, d, z, ht, hk0⟩ := tiK_spec h1
    obtain ⟨hkd, hk⟩ := chk_out hk0
    simp only [decide_eq_true_eq] at hkd
    obtain ⟨sa, sn, sc, w', hrun, hb, hk⟩ := make_run (P := P) (w := w) (k := k) (k' := k') ht hkd hk
    refine wp_value (w' := w') ?_ (hK _ _ hb hk)
    simp [execOp, hop, hx, hy, hrun]
  · -- fieldAddr
    rename_i s x f
    have h1 := hs.eval hvc
    split at h1
    case h_2 => cases h1
    rename_i b off hx
    obtain ⟨ti, i, d, z, ht, hk0⟩ := tiK_spec h1
    obtain ⟨hkd, hk⟩ := chk_out hk0
    simp only [decide_eq_true_eq] at hkd
    have hd : ∃ fs, d = .struct fs := by
      have := ht.kd; rw [hkd] at this
      cases d <;> simp [kdOf] at this
      exact ⟨_, rfl⟩
    obtain ⟨fs, rfl⟩ := hd
    obtain ⟨hf, hfs⟩ := ht.fields fs rfl
    split at hk
    case h_2 => cases hk
    rename_i q1 q2 q3 hq
    rw [hf] at hq
    simp only [List.getElem?_map, Option.map_eq_some_iff, Prod.mk.injEq] at hq
    obtain ⟨fl, hfl, rfl, _, _⟩ := hq
    have hfl' : fs[f]? = some fl := by simpa using hfl
    obtain ⟨⟨j, hj⟩, ⟨e, he⟩, hpos⟩ := hfs fl (List.mem_of_getElem? hfl)
    have hne : j.size ≠ 0 := by simp only [sizeOfT, hj] at hpos; omega
    refine hval ?_ hk
    simp [execOp, hop, Instr.fieldAt, r_und ht.und, hx, hfl', Instr.sureAddr, fieldPlace, r_size hj, hne, add_eq]
  · -- field
    rename_i s x f
    have h1 := hs.eval hvc
    split at h1
    case h_2 => cases h1
    rename_i cs hx
    obtain ⟨ti, i, d, z, ht, hk0⟩ := tiK_spec h1
    obtain ⟨hkd, hk⟩ := chk_out hk0
    simp only [decide_eq_true_eq] at hkd
    have hd : ∃ fs, d = .struct fs := by
      have := ht.kd; rw [hkd] at this
      cases d <;> simp [kdOf] at this
      exact ⟨_, rfl⟩
    obtain ⟨fs, rfl⟩ := hd
    obtain ⟨hf, hfs⟩ := ht.fields fs rfl
    split at hk
    case h_2 => cases hk
    rename_i q1 q2 q3 hq
    rw [hf] at hq
    simp only [List.getElem?_map, Option.map_eq_some_iff, Prod.mk.injEq] at hq
    obtain ⟨fl, hfl, rfl, rfl, rfl⟩ := hq
    have hfl' : fs[f]? = some fl := by simpa using hfl
    obtain ⟨⟨j, hj⟩, ⟨e, he⟩, hpos⟩ := hfs fl (List.mem_of_getElem? hfl)
    obtain ⟨v, hv, hk⟩ := part_run (P := P) (w := w) (cs := cs) (off := fl.offset) (K := fun v => K v w.heap) hj he (by
      simp only [aggOfT, he, sizeOfT, hj] at hk
      cases hg : isAggD e with
      | true => rw [hg] at hk; exact hk
      | false =>
        rw [hg] at hk
        simp only [cond_false] at hk ⊢
        split at hk
        · rename_i c hc; rw [hc]; exact hk
        · cases hk)
    refine hval ?_ hk
    simp [execOp, hop, Instr.field, r_und ht.und, hx, hfl', asAgg, hv]
  · -- indexAddr
    rename_i t x ix
    have h1 := hs.eval (hs.eval hvc)
    split at h1
    case h_2 => cases h1
    rename_i ao len cap k iv hx hix
    obtain ⟨ti, i, d, z, ht, hk0⟩ := tiK_spec h1
    obtain ⟨hkd, hk⟩ := chk_out hk0
    simp only [decide_eq_true_eq] at hkd
    obtain ⟨b, off, j, rfl, rfl, hj, hk⟩ := hk
    rw [mulE_eq] at hk
    have hd : ∃ el, d = .slice el := by
      have := ht.kd; rw [hkd] at this
      cases d <;> simp [kdOf] at this
      exact ⟨_, rfl⟩
    obtain ⟨el, rfl⟩ := hd
    obtain ⟨hel, je, ye, hie, hze, hys, hpos, hes, heb, hez⟩ := ht.slice el rfl
    refine hval ?_ hk
    have hb : (0 : Int) ≤ (j : Int) ∧ (j : Int) < (len : Int) := by omega
    simp [execOp, hop, Instr.indexAt, hx, hix, asIntOf, r_und ht.und, hj, r_size hie, add_eq, hes]
  · -- index
    rename_i t x ix
    have h1 := hs.eval (hs.eval hvc)
    split at h1
    case h_2 => cases h1
    rename_i s k iv hx hix
    obtain ⟨ti, i, d, z, ht, hk0⟩ := tiK_spec h1
    obtain ⟨hkd, hk⟩ := chk_out hk0
    simp only [decide_eq_true_eq] at hkd
    obtain ⟨j, hj, rfl, hk⟩ := hk
    have hd : d = .string := by
      have := ht.kd; rw [hkd] at this
      cases d <;> simp [kdOf] at this
      rfl
    subst hd
    refine hval ?_ hk
    have : s[j]? = some s[j] := by simp [hj]
    simp [execOp, hop, Instr.index, hx, hix, asIntOf, r_und ht.und, this]
  · -- slice
    rename_i t x lo hi mx
    have h1 := hs.opt (hs.opt (hs.opt (hs.eval hvc)))
    split at h1
    · rename_i s hx
      obtain ⟨hmn, h1⟩ := chk_out h1
      simp only [Option.isNone_iff_eq_none] at hmn
      obtain ⟨ti, i, d, z, ht, hk0⟩ := tiK_spec h1
      obtain ⟨hkd, hk⟩ := chk_out hk0
      simp only [decide_eq_true_eq] at hkd
      obtain ⟨l, h', hl, hh, hlh, hhs, hk⟩ := hk
      have hd : d = .string := by
        have := ht.kd; rw [hkd] at this
        cases d <;> simp [kdOf] at this
        rfl
      subst hd
      refine hval ?_ hk
      have hb := bounds_run (P := P) (w := w) (isSlice := false) (cap := s.size) (mx := none) (.inl rfl) hl hh rfl hlh hhs (Nat.le_refl _)
      simp [execOp, hop, Instr.sliceAt, Instr.slice, hx, r_und ht.und, hmn, hb]
    · rename_i a' len cap hx
      obtain ⟨ti, i, d, z, ht, hk0⟩ := tiK_spec h1
      obtain ⟨hkd, hk⟩ := chk_out hk0
      simp only [decide_eq_true_eq] at hkd
      obtain ⟨hmx0, hk2⟩ := chk_out hk
      have hmx : mx.map a.eval = none ∨ hi.map a.eval ≠ none := by
        cases mx <;> cases hi <;> simp at hmx0 ⊢
      clear hk
      obtain ⟨l, h', m, hl, hh, hm, hlh, hhm, hmc, hk⟩ := hk2
      have hd : ∃ el, d = .slice el := by
        have := ht.kd; rw [hkd] at this
        cases d <;> simp [kdOf] at this
        exact ⟨_, rfl⟩
      obtain ⟨el, rfl⟩ := hd
      obtain ⟨hel, je, ye, hie, hze, hys, hpos, hes, heb, hez⟩ := ht.slice el rfl
      have hb := bounds_run (P := P) (w := w) (isSlice := true) hmx hl hh hm hlh hhm hmc
      obtain ⟨hsp, hk⟩ := hk
      cases a' with
      | some ad =>
        obtain ⟨b, off, sp⟩ := ad
        simp only [spotless] at hsp
        subst hsp
        by_cases hml : m = l
        · refine hval ?_ (hk (some ⟨b, off, none⟩) ⟨fun h => (by cases h), fun b' o' h => by cases h; exact ⟨off, rfl, fun _ => rfl, fun h => absurd hml h⟩⟩)
          simp [execOp, hop, Instr.sliceAt, Instr.slice, hx, r_und ht.und, hb, r_size hie, hml]
        · refine hval ?_ (hk (some ⟨b, off + l * ti.esize, none⟩) ⟨fun h => (by cases h), fun b' o' h => by cases h; exact ⟨_, rfl, fun h => absurd h hml, fun _ => by rw [mulE_eq]⟩⟩)
          simp [execOp, hop, Instr.sliceAt, Instr.slice, hx, r_und ht.und, hb, r_size hie, hml, add_eq, hes]
      | none =>
        refine hval ?_ (hk none ⟨fun _ => rfl, fun b' o' h => (by cases h)⟩)
        simp [execOp, hop, Instr.sliceAt, Instr.slice, hx, r_und ht.und, hb, r_size hie]
    · cases h1
  · -- extract
    rename_i x ix
    have h1 := hs.eval hvc
    split at h1
    case h_2 => cases h1
    rename_i vs hx
    split at h1
    case h_2 => cases h1
    rename_i v hv
    have hv' : vs[ix]? = some v := by simpa using hv
    exact hval (by simp [execOp, hop, hx, Instr.extract, hv']) h1
  · -- panic
    have h1 := hs.eval hvc
    split at h1
    case h_2 => cases h1
    rename_i t v hx
    refine wp_panic (v := .iface t v) (w' := w) ?_ (hX _ _ (.refl _ _) h1)
    simp [execOp, hop, hx, Instr.panic]
  · -- call
    rename_i c
    split at hvc <;> rename_i hcal
    · -- len
      have h1 := hs.evals hvc
      split at h1
      · rename_i s t hvs hts
        obtain ⟨ti, i, d, z, ht, hk0⟩ := tiK_spec h1
        obtain ⟨hkd, hk⟩ := chk_out hk0
        simp only [decide_eq_true_eq] at hkd
        have hd : d = .string := by
          have := ht.kd; rw [hkd] at this
          cases d <;> simp [kdOf] at this
          rfl
        subst hd
        refine hval ?_ hk
        have e1 : c.args.map a.eval = #[.string s] := by apply Array.ext'; simpa using hvs
        have e2 : c.argTypes = #[t] := by apply Array.ext'; simpa using hts
        simp [execOp, hop, resolve, hcal, invoke, builtin, Builtin.len_, e1, e2, r_und ht.und, goInt]
      · rename_i a' m cp t hvs hts
        obtain ⟨ti, i, d, z, ht, hk0⟩ := tiK_spec h1
        obtain ⟨hkd, hk⟩ := chk_out hk0
        simp only [decide_eq_true_eq] at hkd
        have hd : ∃ el, d = .slice el := by
          have := ht.kd; rw [hkd] at this
          cases d <;> simp [kdOf] at this
          exact ⟨_, rfl⟩
        obtain ⟨el, rfl⟩ := hd
        refine hval ?_ hk
        have e1 : c.args.map a.eval = #[.slice a' m cp] := by apply Array.ext'; simpa using hvs
        have e2 : c.argTypes = #[t] := by apply Array.ext'; simpa using hts
        simp [execOp, hop, resolve, hcal, invoke, builtin, Builtin.len_, e1, e2, r_und ht.und, goInt]
      · cases h1
    · -- append
      have h1 := hs.evals hvc
      split at h1
      case h_2 => cases h1
      rename_i s x t u hvs hts
      obtain ⟨ti, i, d, z, ht, h2⟩ := tiK_spec h1
      obtain ⟨hkd, h2⟩ := chk_out h2
      simp only [decide_eq_true_eq] at hkd
      obtain ⟨ui, j, e, y, hu, hk⟩ := tiK_spec h2
      have e1 : c.args.map a.eval = #[s, x] := by apply Array.ext'; simpa using hvs
      have e2 : c.argTypes = #[t, u] := by apply Array.ext'; simpa using hts
      split at hk
      · rename_i k k' q hku _
        obtain ⟨sa, sn, sc, w', hrun, hb, hk⟩ := appz_run (P := P) (w := w) (ty := o.type) (k' := k') ht hkd hu hku hk.out
        refine wp_value (w' := w') ?_ (hK _ _ hb hk)
        simp [execOp, hop, resolve, hcal, invoke, builtin, e1, e2, hrun]
      · cases hk
      · obtain ⟨hku, hk⟩ := chk_out hk
        simp only [decide_eq_true_eq] at hku
        obtain ⟨sa, sn, sc, w', hrun, hb, hk⟩ := append_run (P := P) (w := w) (ty := o.type) ht hkd hu hku hk.out
        refine wp_value (w' := w') ?_ (hK _ _ hb hk)
        simp [execOp, hop, resolve, hcal, invoke, builtin, e1, e2, hrun]
    · -- cap
      have h1 := hs.evals hvc
      split at h1
      case h_2 => cases h1
      rename_i a' m cp t hvs hts
      obtain ⟨ti, i, d, z, ht, hk0⟩ := tiK_spec h1
      obtain ⟨hkd, hk⟩ := chk_out hk0
      simp only [decide_eq_true_eq] at hkd
      have hd : ∃ el, d = .slice el := by
        have := ht.kd; rw [hkd] at this
        cases d <;> simp [kdOf] at this
        exact ⟨_, rfl⟩
      obtain ⟨el, rfl⟩ := hd
      refine hval ?_ hk
      have e1 : c.args.map a.eval = #[.slice a' m cp] := by apply Array.ext'; simpa using hvs
      have e2 : c.argTypes = #[t] := by apply Array.ext'; simpa using hts
      simp [execOp, hop, resolve, hcal, invoke, builtin, Builtin.cap_, e1, e2, r_und ht.und, goInt]
    · -- max
      have h1 := hs.evals hvc
      split at h1
      case h_2 => cases h1
      rename_i k x k' y hvs
      have e1 : c.args.map a.eval = #[.int k x, .int k' y] := by apply Array.ext'; simpa using hvs
      refine hval ?_ h1
      simp [execOp, hop, resolve, hcal, invoke, builtin, e1, Builtin.max_, Builtin.max2]
    · -- min
      have h1 := hs.evals hvc
      split at h1
      case h_2 => cases h1
      rename_i k x k' y hvs
      have e1 : c.args.map a.eval = #[.int k x, .int k' y] := by apply Array.ext'; simpa using hvs
      refine hval ?_ h1
      simp [execOp, hop, resolve, hcal, invoke, builtin, e1, Builtin.min_, Builtin.min2]
    · -- panic
      have h1 := hs.evals hvc
      split at h1
      case h_2 => cases h1
      rename_i t v hvs
      have e1 : c.args.map a.eval = #[.iface t v] := by apply Array.ext'; simpa using hvs
      refine wp_panic (v := .iface t v) (w' := w) ?_ (hX _ _ (.refl _ _) h1)
      simp [execOp, hop, resolve, hcal, invoke, builtin, e1, Instr.panic]
    · -- value
      rename_i f
      have h1 := hs.evals (hs.eval hvc)
      split at h1
      case h_2 => cases h1
      rename_i g first captured hf
      obtain ⟨hok, hk⟩ := h1.call
      have hrun : (execOp a.eval o).run P w = .ok (.enter g ((first.toList ++ c.args.toList.map a.eval ++ captured.toList).toArray)) w := by
        have eargs : first ++ c.args.map a.eval ++ captured = (first.toList ++ c.args.toList.map a.eval ++ captured.toList).toArray := by
          apply Array.ext'; simp
        unfold fnOK at hok
        split at hok
        case h_2 => cases hok
        rename_i fn hfn
        simp only [Bool.and_eq_true, Bool.not_eq_true', Option.isSome_iff_exists] at hok
        obtain ⟨⟨body, hbody⟩, hname⟩ := hok
        rw [← eargs]
        have hname' : ¬ fn.name = "runtime.NumGoroutine" := by simpa using hname
        simp [execOp, hop, resolve, hcal, hf, Deferred.ofValue, invoke, callFunc, hfn, hname', hbody]
      refine wp_enter hrun ((hk w rfl).mono ?_)
      intro e w' he
      obtain ⟨hb, he⟩ := he
      cases e with
      | returned v => exact hK _ _ hb (resIs_out (K := fun v => K v w'.heap) he)
      | panicked ch => exact hX _ _ hb he
      | outgrown => cases he
    · cases hvc
  · cases hvc

theorem vcOpx_sound (hs : Sub n a r) (hvc : vcOpx P o r w.heap K X)
    (hK : ∀ v w', Below 0 w w' → K v w'.heap → next (a.put o.dst v) w') (hX : ∀ ch w', Below 0 w w' → X ch w'.heap → Q' (.panic ch) a w') : o.wp P a w next Q' := by
  have hval : ∀ {v : Value}, (execOp a.eval o).run P w = .ok (.value v) w → K v w.heap → o.wp P a w next Q' := fun hrun hk =>
    wp_value hrun (hK _ _ (.refl _ _) hk)
  unfold vcOpx at hvc
  split at hvc
  · rename_i s d x hop
    have h1 := hs.eval hvc
    split at h1
    · rename_i a' n' c' hx
      obtain ⟨si, i1, d1, z1, hts, h2⟩ := tiK_spec h1
      obtain ⟨di, i2, d2, z2, htd, h3⟩ := tiK_spec h2
      have hk2 := htd.kd
      have hk1 := hts.kd
      obtain ⟨h4, s', hn, hrd, hk⟩ := chk_out h3
      simp only [Bool.and_eq_true, decide_eq_true_eq] at h4
      rw [h4.1.1] at hk2
      rw [h4.1.2] at hk1
      have : d2 = .string := by cases d2 <;> simp [kdOf] at hk2; rfl
      subst this
      have : ∃ e, d1 = .slice e := by cases d1 <;> simp [kdOf] at hk1; exact ⟨_, rfl⟩
      obtain ⟨e, rfl⟩ := this
      have he : P.underlying e = some (.int .u8) := by
        have h5 := h4.2
        rw [(hts.slice e rfl).1] at h5
        unfold isU8 at h5
        split at h5
        · assumption
        · cases h5
      refine hval ?_ hk
      have := bytes_run (P := P) (w := w) (c := c') hts.und he htd.und hn hrd
      simp [execOp, hop, hx, this]
    · exact vcOp_sound hs h1 hK hX
  · exact vcOp_sound hs hvc hK hX

end
end Go.Vx
