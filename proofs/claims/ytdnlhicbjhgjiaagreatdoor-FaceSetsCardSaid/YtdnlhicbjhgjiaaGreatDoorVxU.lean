/- From the shelf's sort of structs to heaps. No condition. -/
import Derived.Test.YtdnlhicbjhgjiaaGreatDoorVxT
import Derived.Shelf.SlSortCmp.WholeK
import Derived.Shelf.SlSortCmp.NoneTotal
namespace Go.Vx
open Go.RowKit Go.Sort Go.Proofs

theorem flatK_list {α : Type} [Inhabited α] {enc : α → List Value} {k : Nat} (hk : ∀ x, (enc x).length = k) (d : Array α) : (flatK enc k d).toList = (d.toList.map enc).flatten := by
  have hall : ∀ c ∈ d.toList.map enc, c.length = k := by
    intro c hc
    obtain ⟨x, _, rfl⟩ := List.mem_map.1 hc
    exact hk x
  apply List.ext_getElem?
  intro t
  by_cases ht : t < d.size * k
  · have k0 : 0 < k := by
      rcases Nat.eq_zero_or_pos k with h | h
      · subst h; simp at ht
      · exact h
    have hi : t / k < d.size := Nat.div_lt_of_lt_mul (by rw [Nat.mul_comm]; exact ht)
    have hj : t % k < k := Nat.mod_lt _ k0
    have hi' : t / k < (d.toList.map enc).length := by simpa using hi
    have := flat_get (d.toList.map enc) hall (t / k) (t % k) hi' hj
    rw [Nat.div_add_mod'] at this
    rw [this]
    have h1 : (flatK enc k d).toList[t]? = some ((enc d[t / k]!)[t % k]!) := by
      have h2 : t < (flatK enc k d).size := by simpa using ht
      have h3 := get_flatK enc k d t ht
      rw [getElem!_pos _ t h2] at h3
      rw [← h3]
      exact (Array.getElem?_toList ..).trans (Array.getElem?_eq_getElem h2)
    rw [h1]
    simp [hi, hk, hj]
  · rw [List.getElem?_eq_none (by simpa using ht), List.getElem?_eq_none (by rw [flat_len _ hall]; simpa using ht)]

/-- Cells and what they are. -/
abbrev RawOf {β : Type} (E : Enc β) := { p : List Value × β // ∃ S h, E.rep S h p.1 p.2 }

theorem extract_all {α : Type} (d : Array α) : d.extract 0 d.size = d := by simp

theorem cmp_lt : ∀ (x y : List UInt8), Lib.compareBytes x y < 0 ↔ x < y
  | [], [] => by simp [Lib.compareBytes]
  | [], _ :: _ => by simp [Lib.compareBytes]
  | _ :: _, [] => by simp [Lib.compareBytes]
  | a :: ax, b :: bx => by
    unfold Lib.compareBytes
    split
    · rename_i h
      exact ⟨fun _ => List.cons_lt_cons_iff.2 (.inl h), fun _ => by decide⟩
    · rename_i h1
      split
      · rename_i h2
        refine ⟨fun h => absurd h (by decide), fun h => ?_⟩
        rcases List.cons_lt_cons_iff.1 h with h | ⟨rfl, _⟩
        · exact absurd h h1
        · exact absurd h2 h1
      · rename_i h2
        have e : a = b := UInt8.le_antisymm (UInt8.not_lt.1 h2) (UInt8.not_lt.1 h1)
        subst e
        rw [cmp_lt ax bx, List.cons_lt_cons_iff]
        constructor
        · exact fun h => .inr ⟨rfl, h⟩
        · rintro (h | ⟨_, h⟩)
          · exact absurd h h1
          · exact h

theorem swoN {α : Type} (nm : α → ByteArray) : SWO (ltOf fun x y : α => Lib.compareBytes (key (nm x)) (key (nm y))) where
  irrefl x := by simp only [ltOf, decide_eq_false_iff_not, cmp_lt]; exact List.lt_irrefl _
  trans x y z h1 h2 := by simp only [ltOf, decide_eq_true_eq, cmp_lt] at *; exact List.lt_trans h1 h2
  ntrans x y z h1 h2 := by
    simp only [ltOf, decide_eq_false_iff_not, cmp_lt] at *
    exact List.not_lt.2 (List.le_trans (List.not_lt.1 h2) (List.not_lt.1 h1))

/-- The shelf's sort by names, of a row of one's own. -/
theorem sortf_bridge {β : Type} {E : Enc β} [Inhabited (RawOf E)] {nm : β → ByteArray} {P : Program} {f : Nat} {fv : Value} {S : BS} {h : Heap} {a : Option Addr} {n c : Nat} {xs : List β} {K : Value → Heap → Prop} {X : List PanicEntry → Heap → Prop}
    (hfn : fnOK P f = true) (ho : Own E S h (.slice a n c) xs) (hS : ∀ b, S b → b < h.size) (hn : xs.length ≤ 100000000) (hnt : NoTwins nm xs)
    (hnone : ∀ (p : Option Addr) (cap : Nat) (w : World), Calls P f #[.slice p 0 cap, fv] w fun e w' => e = .returned (.tuple #[]) ∧ w' = w)
    (hcon : ∀ (blk cap : Nat) (d : Array (RawOf E)) (w : World), HoldsK (fun x : RawOf E => x.1.1) E.k w blk 0 d → blk < w.heap.size → d.size < 4611686018427387904 →
      Calls P f #[.slice (some ⟨blk, 0, none⟩) d.size cap, fv] w fun e w' => e = .returned (.tuple #[]) ∧ ∃ d' n os, PermIn 0 d.size d d' ∧ SortedIn (ltOf fun x y : RawOf E => Lib.compareBytes (key (nm x.1.2)) (key (nm y.1.2))) 0 d.size d' ∧
        w' = sortWorldK (fun x : RawOf E => x.1.1) E.k w blk 0 n d' os)
    (hK : ∀ h', Grown E S h (.slice a n c) h' (.slice a n c) (sortN nm xs) → K (.tuple #[]) h') : CallK P f [.slice a n c, fv] h K X := by
  refine callK_of_calls hfn fun w hw => ?_
  subst hw
  rcases id ho with ⟨rfl, hv⟩ | ⟨b, c', css, zs, hv, hb, hle, hblk, hr, hz⟩
  · cases hv
    refine (hnone none 0 w).mono ?_
    rintro e w' ⟨rfl, rfl⟩
    exact ⟨.refl _ _, _, rfl, hK _ (by simpa [sortN] using Grown.rfl ho)⟩
  cases hv
  have hk : ∀ x : RawOf E, x.1.1.length = E.k := fun x => by obtain ⟨_, _, h⟩ := x.2; exact E.len h
  -- cells and what they are, one by one
  have hd : ∀ (css : List (List Value)) (xs : List β), Reps E S w.heap css xs → ∃ d : List (RawOf E), d.map (fun x => x.1.1) = css ∧ d.map (fun x => x.1.2) = xs ∧ ∀ x ∈ d, E.rep S w.heap x.1.1 x.1.2 := by
    intro css
    induction css with
    | nil => intro xs hr; cases xs with
      | nil => exact ⟨[], rfl, rfl, by simp⟩
      | cons _ _ => cases hr
    | cons cs css ih => intro xs hr; cases xs with
      | nil => cases hr
      | cons x xs =>
        obtain ⟨d, h1, h2, h3⟩ := ih xs hr.2
        refine ⟨⟨(cs, x), S, w.heap, hr.1⟩ :: d, by simp [h1], by simp [h2], fun y hy => ?_⟩
        rcases List.mem_cons.1 hy with rfl | hy
        · exact hr.1
        · exact h3 y hy
  obtain ⟨d, hd1, hd2, hd3⟩ := hd css xs hr
  have hlen : d.length = xs.length := by rw [← hd2, List.length_map]
  have hflat : css.flatten = (flatK (fun x : RawOf E => x.1.1) E.k d.toArray).toList.map id := by
    rw [List.map_id, flatK_list hk, List.toList_toArray, hd1]
  rw [hflat] at hblk
  have hcall := hcon b c d.toArray w (holds_blk hblk) hblk.lt (by simp; omega)
  simp only [List.size_toArray, hlen] at hcall
  refine hcall.mono ?_
  rintro e w' ⟨rfl, d', k, os, hp, hs, rfl⟩
  have hsz : d'.size = xs.length := by have := hp.1; simpa [hlen] using this
  have hperm : d'.toList.Perm d := by
    have := hp.2.2
    rw [show xs.length = d'.size from hsz.symm, extract_all] at this
    rw [show d'.size = d.toArray.size from by simp [hsz, hlen], extract_all] at this
    exact this
  refine ⟨below0_of rfl rfl rfl (by simp [sortWorldK, putRowK, putRow, mapBlock, Sort.ahead]), _, rfl, ?_⟩
  have hb' : Blk (Sort.ahead w k).heap b ((flatK (fun x : RawOf E => x.1.1) E.k d.toArray).toList.map id ++ zs) := hblk
  obtain ⟨h1, h2⟩ := putRow_blk (os := os) (d := flatK (fun x : RawOf E => x.1.1) E.k d') hb' (by simp [hsz, hlen])
  rw [List.drop_left' (by simp [hsz, hlen])] at h1
  have hxs : (d'.toList.map fun x => x.1.2) = sortN nm xs := by
    refine sortN_eq hnt (by rw [← hd2]; exact hperm.map _) ?_
    rw [List.pairwise_map, List.pairwise_iff_getElem]
    intro i j hi hj hij
    have := hs i j (Nat.zero_le _) hij (by rw [← hsz]; simpa using hj)
    simp only [ltOf, decide_eq_false_iff_not, cmp_lt] at this
    rw [getElem!_pos d' i (by simpa using hi), getElem!_pos d' j (by simpa using hj)] at this
    simpa using this
  have hreps : ∀ l : List (RawOf E), (∀ x ∈ l, E.rep S w.heap x.1.1 x.1.2) → Reps E S w.heap (l.map fun x => x.1.1) (l.map fun x => x.1.2) := by
    intro l
    induction l with
    | nil => intro _; trivial
    | cons x l ih => intro h; exact ⟨h x (by simp), ih fun y hy => h y (by simp [hy])⟩
  have hr' := hreps d'.toList fun x hx => hd3 x (hperm.mem_iff.1 hx)
  rw [hxs] at hr'
  have hl2 : (sortN nm xs).length = xs.length := (sortN_perm nm xs).length_eq
  refine hK _ ⟨?_, by simp [sortWorldK, putRowK, putRow, mapBlock, Sort.ahead], fun T hT hv => ⟨by simp [sortWorldK, putRowK, putRow, mapBlock, Sort.ahead], fun b' hb'' => h2 b' (hT b' hb'') ?_⟩, fun _ h => .inl h⟩
  · refine .inr ⟨b, c, d'.toList.map (fun x => x.1.1), zs, by rw [hl2], hb, by rw [hl2]; exact hle, ?_, ?_, by rw [hl2]; exact hz⟩
    · have e : (d'.toList.map fun x => x.1.1).flatten = (flatK (fun x : RawOf E => x.1.1) E.k d').toList.map id := by rw [List.map_id, flatK_list hk]
      rw [e]; exact h1
    · refine hr'.ext ⟨by simp [sortWorldK, putRowK, putRow, mapBlock, Sort.ahead], fun b' hb'' => ?_⟩
      exact h2 b' (hS b' hb'') (by rintro rfl; exact hb hb'')
  · rintro rfl
    exact hv _ rfl hb''

end Go.Vx
