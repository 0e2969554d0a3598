/- The walk by verification conditions: operations that only yield. No condition. -/
import Derived.Test.YtdnlhicbjhgjiaaGreatDoorVx8
namespace Go.Vx
open Go.RowKit

/-- Operations that only yield a value. -/
def quietOp (o : Oper) : Bool :=
  match o.op with
  | .move _ | .assign _ | .pick _ _ _ | .build _ _ | .load _ _ | .nilCheck _ | .binOp _ _ _ _ _ | .unOp _ _ _ | .convert _ _ _ | .makeInterface _ _
  | .makeFunc _ _ _ | .fieldAddr _ _ _ | .field _ _ _ | .indexAddr _ _ _ | .index _ _ _ | .slice _ _ _ _ _ | .extract _ _ => true
  | .call c => match c.callee with
    | .builtin .len => true
    | .builtin .max => true
    | .builtin .min => true
    | _ => false
  | _ => false

section
variable {P : Program} {o : Oper} {w : World} {n : Nat} {a : Act} {r : Regs} {K : Value → Heap → Prop} {X : List PanicEntry → Heap → Prop}

set_option maxHeartbeats 1000000 in
theorem vcOp_quiet (hs : Sub n a r) (hq : quietOp o = true) (hvc : vcOp P o r w.heap K X) : ∃ v, (execOp a.eval o).run P w = .ok (.value v) w ∧ K v w.heap := by
  have hval : ∀ {v : Value}, (execOp a.eval o).run P w = .ok (.value v) w → K v w.heap → ∃ v, (execOp a.eval o).run P w = .ok (.value v) w ∧ K v w.heap := fun hrun hk =>
    ⟨_, hrun, hk⟩
  unfold vcOp at hvc
  split at hvc <;> rename_i hop
  · exact hval (by simp [execOp, hop]) (hs.eval hvc)
  · exact hval (by simp [execOp, hop]) (hs.eval hvc)
  · -- pick
    have h1 := hs.eval hvc
    split at h1
    · rename_i x hx
      have h1 := iteB_out h1
      cases x with
      | true => exact hval (by simp [execOp, hop, hx, asBool]) (hs.eval (h1.1 rfl))
      | false => exact hval (by simp [execOp, hop, hx, asBool]) (hs.eval (h1.2 rfl))
    · cases h1
  · simp [quietOp, hop] at hq
  · simp [quietOp, hop] at hq
  · -- build
    rename_i t parts
    obtain ⟨ti, i, d, z, ht, hk0⟩ := tiK_spec hvc
    obtain ⟨hkd, hk⟩ := chk_out hk0
    simp only [decide_eq_true_eq] at hkd
    have h1 := hs.parts hk
    split at h1
    case h_2 => cases h1
    rename_i cs hcs
    have hd : ∃ fs, d = .struct fs := by
      have := ht.kd; rw [hkd] at this
      cases d <;> simp [kdOf] at this
      exact ⟨_, rfl⟩
    obtain ⟨fs, rfl⟩ := hd
    obtain ⟨hf, hfs⟩ := ht.fields fs rfl
    refine hval ?_ h1
    have hm : (fs.mapM fun f => do pure (f.offset, ← sizeOf f.type) : Sem (Array (Nat × Nat))).run P w = .ok (fs.map fun f => (f.offset, sizeOfT P f.type)) w :=
      mapM_runA _ _ fs w fun f hf => by
        obtain ⟨⟨j, hj⟩, _⟩ := hfs f hf
        simp [r_size hj, sizeOfT, hj]
    have hfill : Instr.fill (fun i => (fs.map fun f => (f.offset, sizeOfT P f.type))[i]?) z.cells (parts.toList.map fun x => (x.1, a.eval x.2)) = some cs.toArray := by
      refine fill_eq (fields := ti.fields) ?_ _ _ _ (by rw [← ht.zeq]; exact hcs)
      intro i off size b hi
      rw [hf] at hi
      simp only [List.getElem?_map, Option.map_eq_some_iff] at hi
      obtain ⟨f, hf1, hf2⟩ := hi
      simp only [Prod.mk.injEq] at hf2
      have : fs[i]? = some f := by simpa using hf1
      simp [this, hf2.1, hf2.2.1]
    have hpl : (parts.map fun (x : Nat × Operand) => (x.1, a.eval x.2)).toList = parts.toList.map fun x => (x.1, a.eval x.2) := by simp
    have : (execOp a.eval o) = (do pure (.value (← Instr.build t (parts.map fun (x : Nat × Operand) => (x.1, a.eval x.2))))) := by
      simp only [execOp, hop]
    rw [this]
    simp only [Sem.run_bind, Instr.build, r_zero ht.info ht.zero, r_und ht.und, Result.andThen_ok, hm, hpl, hfill, Sem.run_pure]
  · simp [quietOp, hop] at hq
  · -- load
    rename_i t x
    have h1 := hs.eval hvc
    split at h1
    case h_2 => cases h1
    rename_i b off hx
    obtain ⟨ti, i, d, z, ht, hk⟩ := tiK_spec h1
    obtain ⟨v, hv, hk⟩ := loadVar_run (K := fun v => K v w.heap) ht hk
    exact hval (by simp [execOp, hop, Instr.loadAt, hx, Instr.sureAddr, hv]) hk
  · simp [quietOp, hop] at hq
  · -- nilCheck
    have h1 := hs.eval hvc
    split at h1 <;> rename_i hx
    · exact hval (by simp [execOp, hop, hx]) h1
    · exact hval (by simp [execOp, hop, hx]) h1
    · exact hval (by simp [execOp, hop, hx]) h1
    · cases h1
  · -- binOp
    rename_i op t x y ty
    have h1 := hs.eval (hs.eval hvc)
    have he : (execOp a.eval o) = (do pure (.value (← (do eqGuard op t x y (a.eval x) (a.eval y); binOp op t (a.eval x) (a.eval y))))) := by
      simp only [execOp, hop]
    cases hsc : isScal (a.eval x) with
    | true =>
      rw [hsc] at h1
      simp only [cond_true] at h1
      obtain ⟨v, hv, hk⟩ := r_bin (P := P) (w := w) (t := t) h1
      refine hval ?_ hk
      rw [he]
      have hg : (eqGuard op t x y (a.eval x) (a.eval y)).run P w = .ok () w := by
        unfold isScal at hsc
        split at hsc <;> rename_i hx
        · rw [hx]; cases op <;> cases a.eval y <;> rfl
        · rw [hx]; cases op <;> cases a.eval y <;> rfl
        · cases hsc
      simp [hg, hv]
    | false =>
      rw [hsc] at h1
      simp only [cond_false] at h1
      have key : ∀ {f : Bool → Bool} {ti i d z}, TIs P t ti i d z → (ti.kd = .iface → (Region.isConst x || Region.isConst y) = true) →
          vcNil ti.kd (a.eval x) (a.eval y) (fun v => K (.bool (f v)) w.heap) → ((op = .eql ∧ f = id) ∨ (op = .neq ∧ f = not)) → (∃ v, (execOp a.eval o).run P w = .ok (.value v) w ∧ K v w.heap) := by
        intro f ti i d z ht hc hv hop'
        obtain ⟨b, hb, hk⟩ := r_eqNil (P := P) (w := w) ht rfl hv
        refine hval ?_ hk
        rw [he]
        have hg : (eqGuard op t x y (a.eval x) (a.eval y)).run P w = .ok () w := by
          have hop2 : ∀ (z : Sem Unit), (if !(op matches .eql | .neq) then return else z) = z := by
            intro z; rcases hop' with ⟨rfl, _⟩ | ⟨rfl, _⟩ <;> rfl
          unfold vcNil at hv
          unfold eqGuard
          rcases hop' with ⟨rfl, rfl⟩ | ⟨rfl, rfl⟩ <;>
          · split at hv <;> (try (cases hv; done)) <;> rename_i hkk hx hy <;> rw [hx, hy] <;> first | rfl | skip
            · have := hc hkk
              simp only [Bool.or_eq_true] at this
              cases x <;> cases y <;> first | rfl | (simp [Region.isConst] at this)
        have hb2 : (binOp op t (a.eval x) (a.eval y)).run P w = .ok (.bool (f b)) w := by
          unfold vcNil at hv
          rcases hop' with ⟨rfl, rfl⟩ | ⟨rfl, rfl⟩ <;>
          · split at hv <;> (try (cases hv; done)) <;> rename_i hkk hx hy <;> rw [hx, hy] at hb ⊢ <;> simp [binOp, hb]
        simp [hg, hb2]
      obtain ⟨ti, i, d, z, ht, h1⟩ := tiK_spec h1
      obtain ⟨hc, h1⟩ := chk_out h1
      have hc : ti.kd = .iface → (Region.isConst x || Region.isConst y) = true := by
        intro hk; simpa [hk] using hc
      split at h1
      · exact key (f := id) ht hc h1 (.inl ⟨rfl, rfl⟩)
      · exact key (f := not) ht hc h1 (.inr ⟨rfl, rfl⟩)
      · cases h1
  · -- unOp
    have h1 := hs.eval hvc
    split at h1
    · rename_i hx
      exact hval (by simp [execOp, hop, hx, Op.unary]) h1
    · rename_i hx
      obtain ⟨m, hm, hk⟩ := h1
      exact hval (by simp [execOp, hop, hx, Op.unary, Op.intArith]; rw [← wrap_of hm]; simp) hk
    · cases h1
  · -- convert
    rename_i s d x
    have h1 := hs.eval hvc
    obtain ⟨si, i1, d1, z1, hts, h2⟩ := tiK_spec h1
    obtain ⟨di, i2, d2, z2, htd, h3⟩ := tiK_spec h2
    have hk2 := htd.kd
    have hk1 := hts.kd
    split at h3
    · rename_i k k' m hkd hx
      rw [hkd] at hk2
      obtain ⟨m', hm, hk⟩ := h3
      have : d2 = .int k := by cases d2 <;> simp [kdOf] at hk2; rw [hk2]
      subst this
      refine hval ?_ hk
      simp [execOp, hop, hx, convert, r_und hts.und, r_und htd.und, Conv.intToInt, wrap_of hm]
    · rename_i s' hkd hx
      rw [hkd] at hk2
      obtain ⟨h4, hk⟩ := chk_out h3
      simp only [decide_eq_true_eq] at h4
      rw [h4] at hk1
      have : d2 = .string := by cases d2 <;> simp [kdOf] at hk2; rfl
      subst this
      have : d1 = .string := by cases d1 <;> simp [kdOf] at hk1; rfl
      subst this
      refine hval ?_ hk
      simp [execOp, hop, hx, convert, r_und hts.und, r_und htd.und]
    · cases h3
  · -- makeInterface
    obtain ⟨ti, i, d, z, ht, h1⟩ := tiK_spec hvc
    obtain ⟨hkd, h1⟩ := chk_out h1
    simp only [decide_eq_true_eq] at hkd
    have h2 := hs.eval h1
    refine hval ?_ h2
    have := ht.kd
    simp only [execOp, hop, Instr.makeInterface, Sem.run_bind, r_und ht.und, Result.andThen_ok]
    cases d <;> simp <;> (simp [kdOf] at this; exact absurd this hkd)
  · -- makeFunc
    rename_i fn first captured
    have h1 := hs.evals (hs.evals hvc)
    refine hval ?_ h1
    simp only [execOp, hop, Instr.makeFunc, Sem.run_bind, Sem.run_pure, Result.andThen_ok]
    congr 3 <;> (apply Array.ext'; simp)
  · simp [quietOp, hop] at hq
  · simp [quietOp, hop] at hq
  · -- fieldAddr
    rename_i s x f
    have h1 := hs.eval hvc
    split at h1
    case h_2 => cases h1
    rename_i b off hx
    obtain ⟨ti, i, d, z, ht, hk0⟩ := tiK_spec h1
    obtain ⟨hkd, hk⟩ := chk_out hk0
    simp only [decide_eq_true_eq] at hkd
    have hd : ∃ fs, d = .struct fs := by
      have := ht.kd; rw [hkd] at this
      cases d <;> simp [kdOf] at this
      exact ⟨_, rfl⟩
    obtain ⟨fs, rfl⟩ := hd
    obtain ⟨hf, hfs⟩ := ht.fields fs rfl
    split at hk
    case h_2 => cases hk
    rename_i q1 q2 q3 hq
    rw [hf] at hq
    simp only [List.getElem?_map, Option.map_eq_some_iff, Prod.mk.injEq] at hq
    obtain ⟨fl, hfl, rfl, _, _⟩ := hq
    have hfl' : fs[f]? = some fl := by simpa using hfl
    obtain ⟨⟨j, hj⟩, ⟨e, he⟩, hpos⟩ := hfs fl (List.mem_of_getElem? hfl)
    have hne : j.size ≠ 0 := by simp only [sizeOfT, hj] at hpos; omega
    refine hval ?_ hk
    simp [execOp, hop, Instr.fieldAt, r_und ht.und, hx, hfl', Instr.sureAddr, fieldPlace, r_size hj, hne, add_eq]
  · -- field
    rename_i s x f
    have h1 := hs.eval hvc
    split at h1
    case h_2 => cases h1
    rename_i cs hx
    obtain ⟨ti, i, d, z, ht, hk0⟩ := tiK_spec h1
    obtain ⟨hkd, hk⟩ := chk_out hk0
    simp only [decide_eq_true_eq] at hkd
    have hd : ∃ fs, d = .struct fs := by
      have := ht.kd; rw [hkd] at this
      cases d <;> simp [kdOf] at this
      exact ⟨_, rfl⟩
    obtain ⟨fs, rfl⟩ := hd
    obtain ⟨hf, hfs⟩ := ht.fields fs rfl
    split at hk
    case h_2 => cases hk
    rename_i q1 q2 q3 hq
    rw [hf] at hq
    simp only [List.getElem?_map, Option.map_eq_some_iff, Prod.mk.injEq] at hq
    obtain ⟨fl, hfl, rfl, rfl, rfl⟩ := hq
    have hfl' : fs[f]? = some fl := by simpa using hfl
    obtain ⟨⟨j, hj⟩, ⟨e, he⟩, hpos⟩ := hfs fl (List.mem_of_getElem? hfl)
    obtain ⟨v, hv, hk⟩ := part_run (P := P) (w := w) (cs := cs) (off := fl.offset) (K := fun v => K v w.heap) hj he (by
      simp only [aggOfT, he, sizeOfT, hj] at hk
      cases hg : isAggD e with
      | true => rw [hg] at hk; exact hk
      | false =>
        rw [hg] at hk
        simp only [cond_false] at hk ⊢
        split at hk
        · rename_i c hc; rw [hc]; exact hk
        · cases hk)
    refine hval ?_ hk
    simp [execOp, hop, Instr.field, r_und ht.und, hx, hfl', asAgg, hv]
  · -- indexAddr
    rename_i t x ix
    have h1 := hs.eval (hs.eval hvc)
    split at h1
    case h_2 => cases h1
    rename_i ao len cap k iv hx hix
    obtain ⟨ti, i, d, z, ht, hk0⟩ := tiK_spec h1
    obtain ⟨hkd, hk⟩ := chk_out hk0
    simp only [decide_eq_true_eq] at hkd
    obtain ⟨b, off, j, rfl, rfl, hj, hk⟩ := hk
    rw [mulE_eq] at hk
    have hd : ∃ el, d = .slice el := by
      have := ht.kd; rw [hkd] at this
      cases d <;> simp [kdOf] at this
      exact ⟨_, rfl⟩
    obtain ⟨el, rfl⟩ := hd
    obtain ⟨hel, je, ye, hie, hze, hys, hpos, hes, heb, hez⟩ := ht.slice el rfl
    refine hval ?_ hk
    have hb : (0 : Int) ≤ (j : Int) ∧ (j : Int) < (len : Int) := by omega
    simp [execOp, hop, Instr.indexAt, hx, hix, asIntOf, r_und ht.und, hj, r_size hie, add_eq, hes]
  · -- index
    rename_i t x ix
    have h1 := hs.eval (hs.eval hvc)
    split at h1
    case h_2 => cases h1
    rename_i s k iv hx hix
    obtain ⟨ti, i, d, z, ht, hk0⟩ := tiK_spec h1
    obtain ⟨hkd, hk⟩ := chk_out hk0
    simp only [decide_eq_true_eq] at hkd
    obtain ⟨j, hj, rfl, hk⟩ := hk
    have hd : d = .string := by
      have := ht.kd; rw [hkd] at this
      cases d <;> simp [kdOf] at this
      rfl
    subst hd
    refine hval ?_ hk
    have : s[j]? = some s[j] := by simp [hj]
    simp [execOp, hop, Instr.index, hx, hix, asIntOf, r_und ht.und, this]
  · -- slice
    rename_i t x lo hi mx
    have h1 := hs.opt (hs.opt (hs.opt (hs.eval hvc)))
    split at h1
    · rename_i s hx
      obtain ⟨hmn, h1⟩ := chk_out h1
      simp only [Option.isNone_iff_eq_none] at hmn
      obtain ⟨ti, i, d, z, ht, hk0⟩ := tiK_spec h1
      obtain ⟨hkd, hk⟩ := chk_out hk0
      simp only [decide_eq_true_eq] at hkd
      obtain ⟨l, h', hl, hh, hlh, hhs, hk⟩ := hk
      have hd : d = .string := by
        have := ht.kd; rw [hkd] at this
        cases d <;> simp [kdOf] at this
        rfl
      subst hd
      refine hval ?_ hk
      have hb := bounds_run (P := P) (w := w) (isSlice := false) (cap := s.size) (mx := none) (.inl rfl) hl hh rfl hlh hhs (Nat.le_refl _)
      simp [execOp, hop, Instr.sliceAt, Instr.slice, hx, r_und ht.und, hmn, hb]
    · rename_i a' len cap hx
      obtain ⟨ti, i, d, z, ht, hk0⟩ := tiK_spec h1
      obtain ⟨hkd, hk⟩ := chk_out hk0
      simp only [decide_eq_true_eq] at hkd
      obtain ⟨hmx0, hk2⟩ := chk_out hk
      have hmx : mx.map a.eval = none ∨ hi.map a.eval ≠ none := by
        cases mx <;> cases hi <;> simp at hmx0 ⊢
      clear hk
      obtain ⟨l, h', m, hl, hh, hm, hlh, hhm, hmc, hk⟩ := hk2
      have hd : ∃ el, d = .slice el := by
        have := ht.kd; rw [hkd] at this
        cases d <;> simp [kdOf] at this
        exact ⟨_, rfl⟩
      obtain ⟨el, rfl⟩ := hd
      obtain ⟨hel, je, ye, hie, hze, hys, hpos, hes, heb, hez⟩ := ht.slice el rfl
      have hb := bounds_run (P := P) (w := w) (isSlice := true) hmx hl hh hm hlh hhm hmc
      obtain ⟨hsp, hk⟩ := hk
      cases a' with
      | some ad =>
        obtain ⟨b, off, sp⟩ := ad
        simp only [spotless] at hsp
        subst hsp
        by_cases hml : m = l
        · refine hval ?_ (hk (some ⟨b, off, none⟩) ⟨fun h => (by cases h), fun b' o' h => by cases h; exact ⟨off, rfl, fun _ => rfl, fun h => absurd hml h⟩⟩)
          simp [execOp, hop, Instr.sliceAt, Instr.slice, hx, r_und ht.und, hb, r_size hie, hml]
        · refine hval ?_ (hk (some ⟨b, off + l * ti.esize, none⟩) ⟨fun h => (by cases h), fun b' o' h => by cases h; exact ⟨_, rfl, fun h => absurd h hml, fun _ => by rw [mulE_eq]⟩⟩)
          simp [execOp, hop, Instr.sliceAt, Instr.slice, hx, r_und ht.und, hb, r_size hie, hml, add_eq, hes]
      | none =>
        refine hval ?_ (hk none ⟨fun _ => rfl, fun b' o' h => (by cases h)⟩)
        simp [execOp, hop, Instr.sliceAt, Instr.slice, hx, r_und ht.und, hb, r_size hie]
    · cases h1
  · -- extract
    rename_i x ix
    have h1 := hs.eval hvc
    split at h1
    case h_2 => cases h1
    rename_i vs hx
    split at h1
    case h_2 => cases h1
    rename_i v hv
    have hv' : vs[ix]? = some v := by simpa using hv
    exact hval (by simp [execOp, hop, hx, Instr.extract, hv']) h1
  · simp [quietOp, hop] at hq
  · -- call
    rename_i c
    split at hvc <;> rename_i hcal
    · -- len
      have h1 := hs.evals hvc
      split at h1
      · rename_i s t hvs hts
        obtain ⟨ti, i, d, z, ht, hk0⟩ := tiK_spec h1
        obtain ⟨hkd, hk⟩ := chk_out hk0
        simp only [decide_eq_true_eq] at hkd
        have hd : d = .string := by
          have := ht.kd; rw [hkd] at this
          cases d <;> simp [kdOf] at this
          rfl
        subst hd
        refine hval ?_ hk
        have e1 : c.args.map a.eval = #[.string s] := by apply Array.ext'; simpa using hvs
        have e2 : c.argTypes = #[t] := by apply Array.ext'; simpa using hts
        simp [execOp, hop, resolve, hcal, invoke, builtin, Builtin.len_, e1, e2, r_und ht.und, goInt]
      · rename_i a' m cp t hvs hts
        obtain ⟨ti, i, d, z, ht, hk0⟩ := tiK_spec h1
        obtain ⟨hkd, hk⟩ := chk_out hk0
        simp only [decide_eq_true_eq] at hkd
        have hd : ∃ el, d = .slice el := by
          have := ht.kd; rw [hkd] at this
          cases d <;> simp [kdOf] at this
          exact ⟨_, rfl⟩
        obtain ⟨el, rfl⟩ := hd
        refine hval ?_ hk
        have e1 : c.args.map a.eval = #[.slice a' m cp] := by apply Array.ext'; simpa using hvs
        have e2 : c.argTypes = #[t] := by apply Array.ext'; simpa using hts
        simp [execOp, hop, resolve, hcal, invoke, builtin, Builtin.len_, e1, e2, r_und ht.und, goInt]
      · cases h1
    · simp [quietOp, hop, hcal] at hq
    · simp [quietOp, hop, hcal] at hq
    · -- max
      have h1 := hs.evals hvc
      split at h1
      case h_2 => cases h1
      rename_i k x k' y hvs
      have e1 : c.args.map a.eval = #[.int k x, .int k' y] := by apply Array.ext'; simpa using hvs
      refine hval ?_ h1
      simp [execOp, hop, resolve, hcal, invoke, builtin, e1, Builtin.max_, Builtin.max2]
    · -- min
      have h1 := hs.evals hvc
      split at h1
      case h_2 => cases h1
      rename_i k x k' y hvs
      have e1 : c.args.map a.eval = #[.int k x, .int k' y] := by apply Array.ext'; simpa using hvs
      refine hval ?_ h1
      simp [execOp, hop, resolve, hcal, invoke, builtin, e1, Builtin.min_, Builtin.min2]
    · simp [quietOp, hop, hcal] at hq
    · simp [quietOp, hop, hcal] at hq
    · cases hvc
  · cases hvc


end
end Go.Vx
