/- Rising lists of texts. No condition. -/
import Derived.Test.YtdnlhicbjhgjiaaGreatDoorVxR
import Derived.Sort.Walk0
import Derived.Lib.SlicesCompact
import Derived.Lib.RowBridge
namespace Go.Vx
open Go.RowKit

/-- A text's bytes. -/
def key (x : ByteArray) : List UInt8 := x.data.toList

theorem lt_tri (x y : List UInt8) : x < y ∨ x = y ∨ y < x := by
  by_cases h1 : x < y
  · exact .inl h1
  by_cases h2 : y < x
  · exact .inr (.inr h2)
  exact .inr (.inl (List.le_antisymm (List.not_lt.1 h2) (List.not_lt.1 h1)))

theorem key_inj {x y : ByteArray} (h : key x = key y) : x = y := by
  cases x; cases y
  simpa [key] using h

theorem toList_key (x : ByteArray) : x.toList = key x := Lib.toList_data x

theorem strLt_iff {x y : ByteArray} : strLt x y = true ↔ key x < key y := by
  rw [strLt, Proofs.bytesLess_eq, toList_key, toList_key, decide_eq_true_eq]

theorem strLt_false {x y : ByteArray} : strLt x y = false ↔ ¬ key x < key y := by
  rw [← Bool.not_eq_true, strLt_iff]

theorem strLe_iff {x y : ByteArray} : (strLt x y || strEq x y) = true ↔ ¬ key y < key x := by
  rw [Bool.or_eq_true, strLt_iff, strEq_iff]
  constructor
  · rintro (h | rfl)
    · exact List.lt_asymm h
    · exact List.lt_irrefl _
  · intro h
    by_cases e : x = y
    · exact .inr e
    · refine .inl ?_
      rcases lt_tri (key x) (key y) with h1 | h1 | h1
      · exact h1
      · exact absurd (key_inj h1) e
      · exact absurd h1 h

theorem strLe_false {x y : ByteArray} : (strLt x y || strEq x y) = false ↔ key y < key x := by
  rw [← Bool.not_eq_true, strLe_iff, Classical.not_not]

/-- Rising, without twins. -/
def Rising (xs : List ByteArray) : Prop := xs.Pairwise fun x y => key x < key y

theorem rising_ext : ∀ {xs ys : List ByteArray}, Rising xs → Rising ys → (∀ s, s ∈ xs ↔ s ∈ ys) → xs = ys
  | [], [], _, _, _ => rfl
  | [], y :: ys, _, _, h => by have := (h y).2 (by simp); simp at this
  | x :: xs, [], _, _, h => by have := (h x).1 (by simp); simp at this
  | x :: xs, y :: ys, hx, hy, h => by
    have hx := List.pairwise_cons.1 hx
    have hy := List.pairwise_cons.1 hy
    have e : x = y := by
      have h1 := (h x).1 (by simp)
      have h2 := (h y).2 (by simp)
      rcases List.mem_cons.1 h1 with h1 | h1
      · exact h1
      rcases List.mem_cons.1 h2 with h2 | h2
      · exact h2.symm
      exact absurd (hx.1 y h2) (List.lt_asymm (hy.1 x h1))
    subst e
    congr 1
    refine rising_ext hx.2 hy.2 fun s => ?_
    constructor
    · intro hs
      rcases List.mem_cons.1 ((h s).1 (by simp [hs])) with rfl | h1
      · exact absurd (hx.1 s hs) (List.lt_irrefl _)
      · exact h1
    · intro hs
      rcases List.mem_cons.1 ((h s).2 (by simp [hs])) with rfl | h1
      · exact absurd (hy.1 s hs) (List.lt_irrefl _)
      · exact h1

/-- A text into a rising list. -/
def ins : List ByteArray → ByteArray → List ByteArray
  | [], s => [s]
  | x :: xs, s => if key x < key s then x :: ins xs s else if x = s then x :: xs else s :: x :: xs

theorem ins_same : ∀ {xs : List ByteArray} {s : ByteArray} {p : Nat} (hp : p < xs.length), (∀ j (hj : j < p), key (xs[j]'(by omega)) < key s) → xs[p] = s → ins xs s = xs
  | x :: xs, s, 0, hp, hb, he => by
    simp only [List.getElem_cons_zero] at he
    subst he
    rw [ins, if_neg (List.lt_irrefl _), if_pos rfl]
  | x :: xs, s, p + 1, hp, hb, he => by
    rw [ins, if_pos (by simpa using hb 0 (by omega)), ins_same (p := p) (by simpa using hp) (fun j hj => by simpa using hb (j + 1) (by omega)) (by simpa using he)]

theorem ins_new : ∀ {xs : List ByteArray} {s : ByteArray} {p : Nat} (hp : p ≤ xs.length), (∀ j (hj : j < p), key (xs[j]'(by omega)) < key s) → (∀ h : p < xs.length, ¬ key xs[p] < key s ∧ xs[p] ≠ s) → ins xs s = xs.take p ++ s :: xs.drop p
  | [], s, p, hp, hb, hn => by
    have : p = 0 := by simpa using hp
    subst this; rfl
  | x :: xs, s, 0, hp, hb, hn => by
    have := hn (by simp)
    simp only [List.getElem_cons_zero] at this
    rw [ins, if_neg this.1, if_neg this.2]; rfl
  | x :: xs, s, p + 1, hp, hb, hn => by
    rw [ins, if_pos (by simpa using hb 0 (by omega)), ins_new (p := p) (by simpa using hp) (fun j hj => by simpa using hb (j + 1) (by omega)) (fun h => hn (by simp; omega))]
    rfl

theorem mem_ins : ∀ {xs : List ByteArray} {s t : ByteArray}, t ∈ ins xs s ↔ t = s ∨ t ∈ xs
  | [], s, t => by simp [ins]
  | x :: xs, s, t => by
    unfold ins
    split
    · rw [List.mem_cons, mem_ins, List.mem_cons]; constructor
      · rintro (h | h | h) <;> simp [h]
      · rintro (h | h | h) <;> simp [h]
    · split
      · rename_i h; subst h; simp
      · simp

theorem ins_rising : ∀ {xs : List ByteArray} {s : ByteArray}, Rising xs → Rising (ins xs s)
  | [], s, _ => by simp [ins, Rising]
  | x :: xs, s, h => by
    have h' := List.pairwise_cons.1 h
    unfold ins
    split
    · rename_i hlt
      refine List.pairwise_cons.2 ⟨fun y hy => ?_, ins_rising h'.2⟩
      rcases mem_ins.1 hy with rfl | hy
      · exact hlt
      · exact h'.1 y hy
    · rename_i hge
      split
      · exact h
      · rename_i hne
        refine List.pairwise_cons.2 ⟨fun y hy => ?_, h⟩
        have hsx : key s < key x := by
          rcases lt_tri (key s) (key x) with h1 | h1 | h1
          · exact h1
          · exact absurd (key_inj h1).symm hne
          · exact absurd h1 hge
        rcases List.mem_cons.1 hy with rfl | hy
        · exact hsx
        · exact List.lt_trans hsx (h'.1 y hy)

theorem ins_len {xs : List ByteArray} {s : ByteArray} : (ins xs s).length ≤ xs.length + 1 := by
  induction xs with
  | nil => simp [ins]
  | cons x xs ih =>
    unfold ins
    split
    · simpa using ih
    · split <;> simp

/-- The texts of a list, rising, each once. -/
def rise (xs : List ByteArray) : List ByteArray := xs.foldl ins []

theorem foldl_ins (ys : List ByteArray) : ∀ xs : List ByteArray, Rising xs → Rising (ys.foldl ins xs) ∧ (∀ s, s ∈ ys.foldl ins xs ↔ s ∈ xs ∨ s ∈ ys) ∧ (ys.foldl ins xs).length ≤ xs.length + ys.length := by
  induction ys with
  | nil => intro xs h; exact ⟨h, by simp, by simp⟩
  | cons y ys ih =>
    intro xs h
    obtain ⟨h1, h2, h3⟩ := ih (ins xs y) (ins_rising h)
    refine ⟨h1, fun s => ?_, ?_⟩
    · rw [List.foldl_cons, h2, mem_ins, List.mem_cons]
      constructor
      · rintro ((h | h) | h) <;> simp [h]
      · rintro (h | h | h) <;> simp [h]
    · have := ins_len (xs := xs) (s := y)
      simp only [List.foldl_cons, List.length_cons]; omega

theorem rise_rising (xs : List ByteArray) : Rising (rise xs) := (foldl_ins xs [] List.Pairwise.nil).1
theorem mem_rise {xs : List ByteArray} {s : ByteArray} : s ∈ rise xs ↔ s ∈ xs := by
  have := (foldl_ins xs [] List.Pairwise.nil).2.1 s
  unfold rise
  simpa using this
theorem rise_len (xs : List ByteArray) : (rise xs).length ≤ xs.length := by
  have := (foldl_ins xs [] List.Pairwise.nil).2.2
  unfold rise
  simpa using this

/-! What 'sort' and 'compact' of a list are. -/
def ofKey (l : List UInt8) : ByteArray := ⟨l.toArray⟩
theorem key_ofKey (l : List UInt8) : key (ofKey l) = l := by simp [key, ofKey]
theorem ofKey_key (x : ByteArray) : ofKey (key x) = x := key_inj (key_ofKey _)

theorem compact_rising : ∀ {zs : List (List UInt8)}, zs.Pairwise (fun x y => x ≤ y) → (Lib.compact zs).Pairwise (fun x y => x < y) ∧ ∀ s, s ∈ Lib.compact zs ↔ s ∈ zs := by
  intro zs hz
  have hz' : ∀ i j (hi : i < zs.length) (hj : j < zs.length), i ≤ j → zs[i] ≤ zs[j] := by
    intro i j hi hj hij
    rcases Nat.lt_or_eq_of_le hij with h | rfl
    · exact List.pairwise_iff_getElem.1 hz i j hi hj h
    · exact List.le_refl _
  have key : ∀ m, m ≤ zs.length → (Lib.compactUpTo zs.toArray m).Pairwise (fun x y => x < y) ∧ (∀ s, s ∈ Lib.compactUpTo zs.toArray m ↔ s ∈ zs.take m) := by
    intro m
    induction m with
    | zero => intro _; simp [Lib.compactUpTo]
    | succ m ih =>
      intro hm
      obtain ⟨h1, h2⟩ := ih (by omega)
      rw [Lib.compactUpTo_succ]
      have hget : zs.toArray[m]! = zs[m] := by simp [show m < zs.length from hm]
      have htake : zs.take (m + 1) = zs.take m ++ [zs[m]] := List.take_succ_eq_append_getElem hm
      by_cases hk : Lib.keeps zs.toArray m = true
      · rw [if_pos hk, hget, htake]
        refine ⟨?_, fun s => by rw [List.mem_append, List.mem_append, h2]⟩
        rw [List.pairwise_append]
        refine ⟨h1, by simp, fun x hx y hy => ?_⟩
        simp only [List.mem_singleton] at hy
        subst hy
        obtain ⟨i, hi, rfl⟩ := List.getElem_of_mem ((h2 x).1 hx)
        simp only [List.length_take] at hi
        simp only [List.getElem_take]
        have hm0 : m ≠ 0 := by omega
        have hne : zs[m] ≠ zs[m - 1]'(by omega) := by
          have := hk
          simp only [Lib.keeps] at this
          simpa [hm0, show m < zs.length from hm, show m - 1 < zs.length from by omega] using this
        have hle1 := hz' i (m - 1) (by omega) (by omega) (by omega)
        have hle2 := hz' (m - 1) m (by omega) hm (by omega)
        rcases lt_tri (zs[m - 1]'(by omega)) zs[m] with h | h | h
        · exact List.lt_of_le_of_lt hle1 h
        · exact absurd h.symm hne
        · exact absurd h (List.not_lt.2 hle2)
      · rw [if_neg hk, List.append_nil, htake]
        refine ⟨h1, fun s => ?_⟩
        rw [h2]
        have hm0 : m ≠ 0 := by
          rintro rfl
          exact hk (by simp [Lib.keeps])
        have he : zs[m] = zs[m - 1]'(by omega) := by
          have := hk
          simp only [Lib.keeps] at this
          simpa [hm0, show m < zs.length from hm, show m - 1 < zs.length from by omega] using this
        constructor
        · intro hs; exact List.mem_append.2 (.inl hs)
        · intro hs
          rcases List.mem_append.1 hs with hs | hs
          · exact hs
          · simp only [List.mem_singleton] at hs
            subst hs
            rw [he]
            exact List.mem_take_iff_getElem.2 ⟨m - 1, by omega, rfl⟩
  have := key zs.length (Nat.le_refl _)
  rw [List.take_length] at this
  have hc : Lib.compact zs = Lib.compactUpTo zs.toArray zs.length := rfl
  rw [hc]
  exact this

/-- Sorted and compacted, a list's texts are as they rise. -/
theorem rise_sorted (xs : List ByteArray) : (Lib.compact ((xs.map key).mergeSort fun x y => decide (x ≤ y))).map ofKey = rise xs := by
  have hs : ((xs.map key).mergeSort fun x y => decide (x ≤ y)).Pairwise (fun x y => x ≤ y) := by
    have := List.pairwise_mergeSort (le := fun x y : List UInt8 => decide (x ≤ y)) (fun a b c h1 h2 => by
      simp only [decide_eq_true_eq] at *
      exact List.le_trans h1 h2) (fun a b => by
      simp only [Bool.or_eq_true, decide_eq_true_eq]
      exact List.le_total a b) (xs.map key)
    exact this.imp (fun h => by simpa using h)
  obtain ⟨h1, h2⟩ := compact_rising hs
  refine rising_ext ?_ (rise_rising xs) fun s => ?_
  · unfold Rising
    rw [List.pairwise_map]
    exact h1.imp fun h => by rw [key_ofKey, key_ofKey]; exact h
  · rw [mem_rise, List.mem_map]
    constructor
    · rintro ⟨k, hk, rfl⟩
      have := (h2 k).1 hk
      rw [List.mem_mergeSort, List.mem_map] at this
      obtain ⟨x, hx, rfl⟩ := this
      rw [ofKey_key]; exact hx
    · intro hs
      exact ⟨key s, (h2 _).2 (by rw [List.mem_mergeSort]; exact List.mem_map_of_mem hs), ofKey_key s⟩

theorem set_mid {α : Type} (l r : List α) (z y : α) {k : Nat} (hk : l.length = k) : (l ++ z :: r).set k y = l ++ y :: r := by
  subst hk
  induction l with
  | nil => rfl
  | cons x l ih => rw [List.cons_append, List.length_cons, List.set_cons_succ, ih]; rfl

end Go.Vx
