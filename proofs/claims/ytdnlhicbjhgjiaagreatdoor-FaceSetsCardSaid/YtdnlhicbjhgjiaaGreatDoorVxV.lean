/- Rows of bytes. No condition. -/
import Derived.Test.YtdnlhicbjhgjiaaGreatDoorVxU
namespace Go.Vx
open Go.RowKit

section
variable {α : Type} {E : Enc α} {S S' : BS} {h h' : Heap} {v : Value} {xs : List α}

/-- What is appended to a row of one's own: a slice, or a text's bytes. -/
theorem Own.appendX {xv : Value} {dss : List (List Value)} {ys : List α} {el eb : Nat} {z : List Value} {K : Option Addr → Nat → Nat → Heap → Prop} (ho : Own E S h v xs) (hx : (∃ xa c', xv = .slice xa ys.length c' ∧ RdCells h xa (ys.length * E.k) dss.flatten) ∨ (∃ s : ByteArray, xv = .string s ∧ ys.length = s.size ∧ E.k = 1 ∧ dss.flatten = s.data.toList.map fun b => .int .u8 b.toNat))
    (hrs : Reps E S h dss ys) (hS : ∀ b, S b → b < h.size) (hz : z.length = E.k)
    (hb : (xs.length + ys.length) * eb ≤ 140737488355328) (hb' : xs.length + ys.length ≤ 9223372036854775807)
    (hK : ∀ a n c h', n = (xs ++ ys).length → Own E S h' (.slice a n c) (xs ++ ys) → (∀ T : BS, (∀ b, T b → b < h.size) → (∀ b, blkOf v = some b → ¬ T b) → Ext T h h') → (blkOf (.slice a n c) = blkOf v ∨ blkOf (.slice a n c) = some h.size) → K a n c h') : AppK el E.k eb z v xv h K := by
  have hnew : ∀ (css : List (List Value)) (cap : Nat), Reps E S h css xs → xs.length + ys.length ≤ cap → Own E S (h.push (.cells (css.flatten ++ dss.flatten ++ zerosOf z (cap - (xs.length + ys.length))).toArray el (0, 0)))
      (.slice (some ⟨h.size, 0, none⟩) (xs.length + ys.length) cap) (xs ++ ys) := by
    intro css cap hr hcap
    refine .inr ⟨h.size, cap, css ++ dss, zerosOf z (cap - (xs.length + ys.length)), by simp, fun hs => Nat.lt_irrefl _ (hS _ hs), by simpa using hcap, ?_, ?_, ?_⟩
    · rw [List.flatten_append]; exact Blk.push
    · exact (hr.append hrs).ext (Ext.push hS)
    · rw [zerosOf_len, hz, List.length_append]
  refine ⟨?_⟩
  rcases ho with ⟨rfl, rfl⟩ | ⟨b, c, css, zs, rfl, hbS, hle, hc, hr, hzl⟩
  · refine ⟨none, 0, 0, ys.length, dss.flatten, rfl, hx, hrs.one, ⟨by simpa using hb, by simpa using hb'⟩, fun hle => ?_, fun hlt => ?_⟩
    · have : ys = [] := List.length_eq_zero_iff.1 (by omega)
      subst this
      have : dss = [] := List.length_eq_zero_iff.1 (by simpa using hrs.len)
      subst this
      refine .inl ⟨rfl, rfl, ?_⟩
      exact hK _ _ _ _ rfl (.inl ⟨rfl, rfl⟩) (fun T _ _ => Ext.rfl) (.inl rfl)
    · refine ⟨[], ⟨by simp, by simp⟩, fun cap hcap => hK _ _ _ _ (by simp) ?_ (fun T hT _ => Ext.push hT) (.inr rfl)⟩
      have := hnew [] cap trivial (by simpa using hcap)
      simpa using this
  · have hcl : css.flatten.length = xs.length * E.k := by rw [flat_len css hr.all, hr.len]
    have hdl : dss.flatten.length = ys.length * E.k := by rw [flat_len dss hrs.all, hrs.len]
    refine ⟨some ⟨b, 0, none⟩, xs.length, c, ys.length, dss.flatten, rfl, hx, hrs.one, ⟨hb, hb'⟩, fun hle2 => ?_, fun hlt => ?_⟩
    · have hroom : ys.length * E.k ≤ zs.length := by rw [hzl]; exact Nat.mul_le_mul_right _ (by omega)
      refine .inr ⟨b, 0, rfl, hc.can (by simp only [List.length_append]; omega), hK _ _ _ _ (by simp) ?_ (fun T _ hv => Ext.set (hv b rfl)) (.inl rfl)⟩
      refine .inr ⟨b, c, css ++ dss, zs.drop dss.flatten.length, by simp, hbS, by simpa using hle2, ?_, ?_, ?_⟩
      · have hset := hc.set (us := dss.flatten) (o := 0 + xs.length * E.k) (by simp only [List.length_append]; omega)
        rw [Nat.zero_add, ← hcl, List.take_left', List.drop_append, List.drop_of_length_le (by omega), List.nil_append, show css.flatten.length + dss.flatten.length - css.flatten.length = dss.flatten.length from by omega] at hset
        · rw [Nat.zero_add, ← hcl, List.flatten_append]; exact hset
        · rfl
      · exact (hr.append hrs).ext (Ext.set hbS)
      · rw [List.length_drop, hzl, hdl, ← Nat.sub_mul, List.length_append]
        congr 1; omega
    · refine ⟨css.flatten, ⟨hcl, rfl, fun j v hv => ?_⟩, fun cap hcap => hK _ _ _ _ (by simp) (hnew css cap hr hcap) (fun T hT _ => Ext.push hT) (.inr rfl)⟩
      rw [hc.cell]
      obtain ⟨hj, rfl⟩ := List.getElem?_eq_some_iff.1 hv
      rw [Nat.zero_add, List.getElem?_append_left hj, hv]


end

/-- Bytes. -/
def eU8 : Enc UInt8 where
  k := 1
  rep _ _ cs x := cs = [.int .u8 x.toNat]
  pos := by decide
  len := by rintro S h cs x rfl; rfl
  one := by rintro S h cs x rfl v hv; simp at hv; subst hv; rfl
  ext := fun hr _ => hr
  mono := fun hr _ => hr

section
variable {S T : BS} {h : Heap} {v : Value} {xs : List UInt8}
theorem flatB : ∀ {css : List (List Value)} {xs : List UInt8}, Reps eU8 S h css xs → css.flatten = xs.map fun x => .int .u8 x.toNat
  | [], [], _ => rfl
  | _ :: _, _ :: _, hr => by rw [List.flatten_cons, List.map_cons, hr.1, flatB hr.2]; rfl
  | [], _ :: _, hr => by cases hr
  | _ :: _, [], hr => by cases hr
theorem repsB (xs : List UInt8) : Reps eU8 S h (xs.map fun x => [.int .u8 x.toNat]) xs := by
  induction xs with
  | nil => trivial
  | cons x xs ih => exact ⟨rfl, ih⟩

/-- A text's bytes appended. -/
theorem Own.appT {s : ByteArray} {el eb : Nat} {z : List Value} {K : Option Addr → Nat → Nat → Heap → Prop} (ho : Own eU8 S h v xs) (hS : ∀ b, S b → b < h.size) (hz : z.length = 1)
    (hb : (xs.length + s.size) * eb ≤ 140737488355328) (hb' : xs.length + s.size ≤ 9223372036854775807)
    (hK : ∀ a n c h', n = (xs ++ s.data.toList).length → Grown eU8 S h v h' (.slice a n c) (xs ++ s.data.toList) → K a n c h') : AppK el 1 eb z v (.string s) h K := by
  have hl : s.data.toList.length = s.size := Array.length_toList
  refine Own.appendX (E := eU8) (ys := s.data.toList) ho (.inr ⟨s, rfl, hl, rfl, ?_⟩) (repsB s.data.toList) hS hz (by rw [hl]; exact hb) (by rw [hl]; exact hb') fun a n c h' hn hown hext hblk => hK a n c h' hn ⟨hown, ?_, hext, fun b hb => ?_⟩
  · rw [flatB (repsB (S := S) (h := h) _)]
  · exact (hext (fun _ => False) (fun _ h => h.elim) (fun _ _ h => h)).size
  · rcases hblk with h1 | h1
    · exact .inl (by rw [← h1]; exact hb)
    · rw [h1] at hb; cases hb; exact .inr (Nat.le_refl _)

/-- Bytes appended that lie anywhere. -/
theorem Own.appB {w : Value} {ys : List UInt8} {el eb : Nat} {z : List Value} {K : Option Addr → Nat → Nat → Heap → Prop} (ho : Own eU8 S h v xs) (hS : ∀ b, S b → b < h.size) (hy : Sl eU8 T h w ys) (hz : z.length = 1)
    (hb : (xs.length + ys.length) * eb ≤ 140737488355328) (hb' : xs.length + ys.length ≤ 9223372036854775807)
    (hK : ∀ a n c h', n = (xs ++ ys).length → Grown eU8 S h v h' (.slice a n c) (xs ++ ys) → K a n c h') : AppK el 1 eb z v w h K := by
  obtain ⟨ya, yc, dss, rfl, hrd, hrs⟩ := hy.rd
  rw [flatB hrs, ← flatB (repsB (S := S) (h := h) ys)] at hrd
  refine Own.append (E := eU8) ho hrd (repsB ys) hS hz hb hb' fun a n c h' hn hown hext hblk => hK a n c h' hn ⟨hown, ?_, hext, fun b hb => ?_⟩
  · exact (hext (fun _ => False) (fun _ h => h.elim) (fun _ _ h => h)).size
  · rcases hblk with h1 | h1
    · exact .inl (by rw [← h1]; exact hb)
    · rw [h1] at hb; cases hb; exact .inr (Nat.le_refl _)

theorem Sl.atB {a : Option Addr} {n c : Nat} (hl : Sl eU8 S h (.slice a n c) xs) {i : Nat} (hi : i < xs.length) :
    ∃ b o, a = some ⟨b, o, none⟩ ∧ S b ∧ cellAt h b (o + i) = some (.int .u8 xs[i].toNat) := by
  obtain ⟨b, o, rfl, hb, cs, rfl, hcs⟩ := hl.at hi
  refine ⟨b, o, rfl, hb, ?_⟩
  have := hcs 0 (by simp)
  simpa [eU8] using this

theorem Own.lessB (ho : Own eU8 S h v xs) (hv : ∀ b, blkOf v = some b → ¬ T b) : Own eU8 T h v xs := by
  rcases ho with ho | ⟨b, c, css, zs, rfl, hb, hle, hc, hr, hz⟩
  · exact .inl ho
  · refine .inr ⟨b, c, xs.map fun x => [.int .u8 x.toNat], zs, rfl, hv b rfl, hle, ?_, repsB xs, hz⟩
    rw [flatB (repsB (S := S) (h := h) xs), ← flatB hr]; exact hc

theorem Own.slB (ho : Own eU8 S h v xs) (hv : ∀ b, blkOf v = some b → T b) : Sl eU8 T h v xs :=
  (ho.lessB (T := fun _ => False) fun _ _ h => h).sl (fun _ h => h.elim) hv
end

/-- A row of one's own is widened: more stays. -/
theorem Own.widen {α : Type} {E : Enc α} {S T : BS} {h : Heap} {v : Value} {xs : List α} (ho : Own E S h v xs) (hT : ∀ b, S b → T b) (hv : ∀ b, blkOf v = some b → ¬ T b) : Own E T h v xs := by
  rcases ho with ho | ⟨b, c, css, zs, rfl, hb, hle, hc, h1, hz⟩
  · exact .inl ho
  · exact .inr ⟨b, c, css, zs, rfl, hv b rfl, hle, hc, h1.mono hT, hz⟩

/-! Rows of texts as bytes. -/
def u32 (n : Nat) : List UInt8 := [UInt8.ofNat (n / 2 ^ 24), UInt8.ofNat (n / 2 ^ 16), UInt8.ofNat (n / 2 ^ 8), UInt8.ofNat n]
def codeOf (xs : List ByteArray) : List UInt8 := u32 xs.length ++ xs.flatMap fun s => u32 s.size ++ s.data.toList

theorem wrap_u8 (n : Nat) : IntKind.u8.wrap (n : Int) = (UInt8.ofNat n).toNat := by
  rw [IntKind.wrap_u8]
  simp

theorem flatMap_take_len {α β : Type} (f : α → List β) : ∀ (xs : List α) (i : Nat), ((xs.take i).flatMap f).length ≤ (xs.flatMap f).length
  | [], i => by simp
  | x :: xs, 0 => by simp
  | x :: xs, i + 1 => by
    have := flatMap_take_len f xs i
    simp only [List.take_succ_cons, List.flatMap_cons, List.length_append]; omega

theorem u32_wr (n k : Nat) (hk : k < 64) : Wr .u8 (Int.fdiv (n : Int) (2 ^ min (Int.toNat (k : Nat)) (IntKind.bits .i64))) ((UInt8.ofNat (n / 2 ^ k)).toNat : Int) := by
  rw [show min (Int.toNat (k : Nat)) (IntKind.bits .i64) = k from by simp [IntKind.bits]; omega]
  rw [show Int.fdiv (n : Int) (2 ^ k) = ((n / 2 ^ k : Nat) : Int) from by
    rw [Int.fdiv_eq_ediv_of_nonneg _ (by exact_mod_cast Nat.zero_le _)]; simp]
  exact ⟨(wrap_u8 _).symm⟩

end Go.Vx
