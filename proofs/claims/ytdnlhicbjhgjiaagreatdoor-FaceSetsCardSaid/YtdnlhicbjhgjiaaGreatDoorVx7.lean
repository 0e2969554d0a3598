/- The walk by verification conditions: code and calls. No condition. -/
import Derived.Test.YtdnlhicbjhgjiaaGreatDoorVx6
namespace Go.Vx
open Go.RowKit

section
variable {P : Program} {n : Nat} {kp : List Nat} {Q : Exit → Regs → Heap → Prop}

theorem Sub.prune {a : Act} {r : Regs} (hs : Sub n a r) : Sub n a (rprune r kp) := ⟨hs.size, hs.defers, fun t v h => hs.get t v (rprune_get h)⟩

theorem yielded_of {ops : List Oper} {tmps : Array Value} {j d : Nat} {v : Value} (hd : gslot ops j = some d) (hv : tmps[d]? = some v) :
    yielded ops.toArray tmps j = match v with | .bool b => some b | _ => none := by
  unfold gslot at hd
  have : ((ops.toArray[j]?).bind fun o => o.dst) = some d := by simpa using hd
  simp only [yielded, this, Option.bind_some, hv]
  cases v <;> rfl

theorem vcOps_sound {ops : List Oper} {Q' : Exit → Act → World → Prop} :
    ∀ (l : List Oper) (r : Regs) (a : Act) (w w0 : World), (∀ o ∈ l, ∀ d, o.dst = some d → d < n) → Sub n a r → Below 0 w0 w → vcOps P kp ops Q l r w.heap →
      (∀ e a w, QW n w0 Q e a w → Q' e a w) → wpList P ops.toArray Q' l a w
  | [], r, a, w, w0, _, hs, hb, h, hq => hq _ _ _ ⟨rprune r kp, hs.prune, hb, h⟩
  | o :: rest, r, a, w, w0, hd, hs, hb, h, hq => by
    have hrest : ∀ o' ∈ rest, ∀ d, o'.dst = some d → d < n := fun o' ho' => hd o' (by simp [ho'])
    have hdo := hd o (by simp)
    unfold vcOps at h
    unfold wpList
    split at h
    · rename_i hg
      rw [if_pos (by simp [Region.wanted, hg])]
      refine .inl (vcOpx_sound hs h ?_ ?_)
      · intro v w' hb' hk
        exact vcOps_sound rest _ _ w' w0 hrest (hs.put hdo) (hb.trans hb') hk hq
      · intro ch w' hb' hx
        exact hq _ _ _ ⟨r, hs, hb.trans hb', hx⟩
    · rename_i j want hg
      split at h
      case h_2 => cases h
      rename_i d hgs
      obtain ⟨v, hv, h⟩ := rgetK_iff.1 h
      have hy := yielded_of (tmps := a.tmps) hgs (hs.get d v hv)
      split at h
      · rename_i c
        have hs' := hs.set hv rfl
        cases want with
        | true =>
          have h := iteB_out h
          cases c with
          | true =>
            rw [if_pos (by simp [Region.wanted, hg, hy])]
            refine .inl (vcOpx_sound hs' (h.1 rfl) ?_ ?_)
            · intro v w' hb' hk
              exact vcOps_sound rest _ _ w' w0 hrest (hs'.put hdo) (hb.trans hb') hk hq
            · intro ch w' hb' hx
              exact hq _ _ _ ⟨r, hs, hb.trans hb', hx⟩
          | false =>
            rw [if_neg (by simp [Region.wanted, hg, hy])]
            exact vcOps_sound rest _ _ w w0 hrest (hs'.put hdo) hb (h.2 rfl) hq
        | false =>
          have h := iteB_out h
          cases c with
          | false =>
            rw [if_pos (by simp [Region.wanted, hg, hy])]
            refine .inl (vcOpx_sound hs' (h.2 rfl) ?_ ?_)
            · intro v w' hb' hk
              exact vcOps_sound rest _ _ w' w0 hrest (hs'.put hdo) (hb.trans hb') hk hq
            · intro ch w' hb' hx
              exact hq _ _ _ ⟨r, hs, hb.trans hb', hx⟩
          | true =>
            rw [if_neg (by simp [Region.wanted, hg, hy])]
            exact vcOps_sound rest _ _ w w0 hrest (hs'.put hdo) hb (h.1 rfl) hq
      · rw [if_neg (by simp [Region.wanted, hg, hy])]
        exact vcOps_sound rest _ _ w w0 hrest (hs.put hdo) hb h hq
      · cases h

theorem QW.mono {w0 w1 : World} {e : Exit} {a : Act} {w : World} (hb : Below 0 w0 w1) (h : QW n w1 Q e a w) : QW n w0 Q e a w := by
  obtain ⟨r, hs, hb', hq⟩ := h
  exact ⟨r, hs, hb.trans hb', hq⟩

end
end Go.Vx
