/- Data in the heap: blocks that stay, rows of any make, rows of one's own. No condition. -/
import Derived.Test.YtdnlhicbjhgjiaaGreatDoorVxP0
namespace Go.Vx
open Go.RowKit

abbrev BS := Nat → Prop

/-- The blocks of 'S' stay as they are. -/
structure Ext (S : BS) (h h' : Heap) : Prop where
  size : h.size ≤ h'.size
  same : ∀ b, S b → h'[b]? = h[b]?

/-- All blocks of a heap. -/
def Al (h : Heap) : BS := fun b => b < h.size

/-- The blocks that a heap has more. -/
def New (h h' : Heap) : BS := fun b => h.size ≤ b ∧ b < h'.size

theorem Ext.rfl {S : BS} {h : Heap} : Ext S h h := ⟨Nat.le_refl _, fun _ _ => Eq.refl _⟩
theorem Ext.trans {S : BS} {h h1 h2 : Heap} (a : Ext S h h1) (b : Ext S h1 h2) : Ext S h h2 := ⟨Nat.le_trans a.size b.size, fun i hi => (b.same i hi).trans (a.same i hi)⟩
theorem Ext.mono {S S' : BS} {h h' : Heap} (a : Ext S h h') (hm : ∀ b, S' b → S b) : Ext S' h h' := ⟨a.size, fun i hi => a.same i (hm i hi)⟩
theorem Ext.al {h h' h2 : Heap} (a : Ext (Al h') h' h2) (hs : h.size ≤ h'.size) : Ext (Al h) h' h2 := a.mono fun _ hb => Nat.lt_of_lt_of_le hb hs
theorem Ext.push {S : BS} {h : Heap} {o : Obj} (hn : ∀ b, S b → b < h.size) : Ext S h (h.push o) := by
  refine ⟨by simp, fun b hb => ?_⟩
  rw [Array.getElem?_push, if_neg (by have := hn b hb; omega)]
theorem Ext.pushA {h : Heap} {o : Obj} : Ext (Al h) h (h.push o) := Ext.push fun _ h => h
theorem Ext.set {S : BS} {h : Heap} {b o : Nat} {vs : List Value} (hn : ¬ S b) : Ext S h (setCells h b o vs) :=
  ⟨by rw [size_setCells]; exact Nat.le_refl _, fun i hi => get_setCells_ne (by rintro rfl; exact hn hi) _ _ _⟩

theorem cellAt_ext {S : BS} {h h' : Heap} (e : Ext S h h') {b o : Nat} (hb : S b) : cellAt h' b o = cellAt h b o := by
  unfold cellAt
  rw [e.same b hb]

theorem frozenAt_zero {h : Heap} {b o : Nat} {cs : Array Value} {e : TypeId} (hb : h[b]? = some (.cells cs e (0, 0))) : frozenAt h b o = false := by
  simp [frozenAt, hb]

theorem setCells_one (h : Heap) (b o : Nat) (v : Value) : setCells h b o [v] = setAt h b o v := rfl

theorem get_lt {h : Heap} {b : Nat} {x : Obj} (hb : h[b]? = some x) : b < h.size := (Array.getElem?_eq_some_iff.1 hb).1

theorem get_push {h : Heap} {o : Obj} : (h.push o)[h.size]? = some o := by simp

/-- Cells written within a block. -/
theorem get_setCells {b : Nat} {e : TypeId} {f : Nat × Nat} : ∀ (vs pre mid post : List Value) (h : Heap) (o : Nat), h[b]? = some (.cells (pre ++ mid ++ post).toArray e f) → mid.length = vs.length → pre.length = o →
    (setCells h b o vs)[b]? = some (.cells (pre ++ vs ++ post).toArray e f)
  | [], pre, mid, post, h, o, hb, hl, ho => by
    have : mid = [] := List.length_eq_zero_iff.1 hl
    subst this; exact hb
  | v :: vs, pre, m :: mid, post, h, o, hb, hl, ho => by
    have := get_setCells (b := b) (e := e) (f := f) vs (pre ++ [v]) mid post (setAt h b o v) (o + 1) (by
      rw [get_setAt hb]
      subst ho
      simp) (by simpa using hl) (by simp [ho])
    simpa [setCells] using this
  | v :: vs, pre, [], post, h, o, hb, hl, ho => by simp at hl

/-- A whole block of cells, none frozen. -/
structure Blk (h : Heap) (b : Nat) (vs : List Value) : Prop where
  out : ∃ e f, h[b]? = some (.cells vs.toArray e f) ∧ ∀ o, o < vs.length → ¬ (f.1 ≤ o ∧ o < f.2)

theorem Blk.push {h : Heap} {vs : List Value} {e : TypeId} : Blk (h.push (.cells vs.toArray e (0, 0))) h.size vs := ⟨e, (0, 0), get_push, fun o _ ho => by simp at ho⟩
theorem Blk.lt {h : Heap} {b : Nat} {vs : List Value} (hb : Blk h b vs) : b < h.size := by obtain ⟨e, f, hb, _⟩ := hb.out; exact get_lt hb
theorem Blk.cell {h : Heap} {b : Nat} {vs : List Value} (hb : Blk h b vs) {o : Nat} : cellAt h b o = vs[o]? := by
  obtain ⟨e, f, hb, _⟩ := hb.out
  rw [cellAt_of hb]; simp
theorem Blk.ext {S : BS} {h h' : Heap} {b : Nat} {vs : List Value} (hb : Blk h b vs) (e : Ext S h h') (hs : S b) : Blk h' b vs := by
  obtain ⟨t, f, hb, hf⟩ := hb.out
  exact ⟨t, f, (e.same b hs).trans hb, hf⟩
theorem Blk.can {h : Heap} {b : Nat} {vs : List Value} (hb : Blk h b vs) {o k : Nat} (hk : o + k ≤ vs.length) : Writable h b o k := by
  refine ⟨fun j hj => ⟨?_, ?_⟩⟩
  · rw [hb.cell]; exact ⟨_, List.getElem?_eq_getElem (by omega)⟩
  · obtain ⟨e, f, hb, hf⟩ := hb.out
    have := hf (o + j) (by omega)
    obtain ⟨lo, hi⟩ := f
    simp only [frozenAt, hb, Bool.and_eq_false_iff, decide_eq_false_iff_not] at this ⊢
    rcases Classical.em (lo ≤ o + j) with h1 | h1
    · exact .inr fun h2 => this ⟨h1, h2⟩
    · exact .inl h1
theorem Blk.set {h : Heap} {b : Nat} {vs us : List Value} (hb : Blk h b vs) {o : Nat} (hk : o + us.length ≤ vs.length) : Blk (setCells h b o us) b (vs.take o ++ us ++ vs.drop (o + us.length)) := by
  obtain ⟨e, f, hb, hf⟩ := hb.out
  refine ⟨e, f, get_setCells us (vs.take o) ((vs.drop o).take us.length) (vs.drop (o + us.length)) h o ?_ (by simp; omega) (by simp; omega), fun q hq => hf q ?_⟩
  · rw [hb]
    have : vs = vs.take o ++ ((vs.drop o).take us.length) ++ vs.drop (o + us.length) := by
      rw [List.append_assoc, ← List.drop_drop, List.take_append_drop, List.take_append_drop]
    rw [← this]
  · simp at hq; omega

/-- A make of data of 'k' cells. -/
structure Enc (α : Type) where
  k : Nat
  rep : BS → Heap → List Value → α → Prop
  pos : 0 < k
  len : ∀ {S h cs x}, rep S h cs x → cs.length = k
  one : ∀ {S h cs x}, rep S h cs x → ∀ v ∈ cs, v.oneCell' = true
  ext : ∀ {S h h' cs x}, rep S h cs x → Ext S h h' → rep S h' cs x
  mono : ∀ {S S' h cs x}, rep S h cs x → (∀ b, S b → S' b) → rep S' h cs x

/-- A slice that reads as a list. -/
def Sl {α : Type} (E : Enc α) (S : BS) (h : Heap) (v : Value) (xs : List α) : Prop :=
  ∃ a c, v = .slice a xs.length c ∧ xs.length ≤ c ∧ ((a = none ∧ xs = []) ∨ ∃ b o, a = some ⟨b, o, none⟩ ∧ S b ∧
    ∀ i (hi : i < xs.length), ∃ cs, E.rep S h cs xs[i] ∧ ∀ j (hj : j < cs.length), cellAt h b (o + i * E.k + j) = some cs[j])

section
variable {α : Type} {E : Enc α} {S S' : BS} {h h' : Heap} {v : Value} {xs : List α}

theorem Sl.nil : Sl E S h (.slice none 0 0) [] := ⟨none, 0, rfl, Nat.le_refl _, .inl ⟨rfl, rfl⟩⟩

theorem Sl.ext (hl : Sl E S h v xs) (e : Ext S h h') : Sl E S h' v xs := by
  obtain ⟨a, c, rfl, hle, hc⟩ := hl
  refine ⟨a, c, rfl, hle, ?_⟩
  rcases hc with hc | ⟨b, o, rfl, hb, h1⟩
  · exact .inl hc
  · refine .inr ⟨b, o, rfl, hb, fun i hi => ?_⟩
    obtain ⟨cs, hr, hcs⟩ := h1 i hi
    exact ⟨cs, E.ext hr e, fun j hj => by rw [cellAt_ext e hb]; exact hcs j hj⟩

theorem Sl.mono (hl : Sl E S h v xs) (hm : ∀ b, S b → S' b) : Sl E S' h v xs := by
  obtain ⟨a, c, rfl, hle, hc⟩ := hl
  refine ⟨a, c, rfl, hle, ?_⟩
  rcases hc with hc | ⟨b, o, rfl, hb, h1⟩
  · exact .inl hc
  · refine .inr ⟨b, o, rfl, hm b hb, fun i hi => ?_⟩
    obtain ⟨cs, hr, hcs⟩ := h1 i hi
    exact ⟨cs, E.mono hr hm, hcs⟩

theorem Sl.form (hl : Sl E S h v xs) : ∃ a c, v = .slice a xs.length c ∧ xs.length ≤ c := by
  obtain ⟨a, c, rfl, hle, _⟩ := hl; exact ⟨a, c, rfl, hle⟩

theorem Sl.at {a : Option Addr} {n c : Nat} (hl : Sl E S h (.slice a n c) xs) {i : Nat} (hi : i < xs.length) :
    ∃ b o, a = some ⟨b, o, none⟩ ∧ S b ∧ ∃ cs, E.rep S h cs xs[i] ∧ ∀ j (hj : j < cs.length), cellAt h b (o + i * E.k + j) = some cs[j] := by
  obtain ⟨a', c', he, _, hc⟩ := hl
  simp only [Value.slice.injEq] at he
  obtain ⟨rfl, rfl, rfl⟩ := he
  rcases hc with ⟨rfl, rfl⟩ | ⟨b, o, rfl, hb, h1⟩
  · simp at hi
  · exact ⟨b, o, rfl, hb, h1 i hi⟩

theorem flat_get {k : Nat} : ∀ (css : List (List Value)) (_ : ∀ c ∈ css, c.length = k) (i j : Nat) (hi : i < css.length) (_ : j < k), css.flatten[i * k + j]? = (css[i])[j]?
  | c :: css, hk, 0, j, hi, hj => by
    have := hk c (by simp)
    simp only [List.flatten_cons, Nat.zero_mul, Nat.zero_add, List.getElem_cons_zero]
    rw [List.getElem?_append_left (by omega)]
  | c :: css, hk, i + 1, j, hi, hj => by
    have h1 := hk c (by simp)
    simp only [List.flatten_cons, List.getElem_cons_succ]
    rw [List.getElem?_append_right (by rw [h1, Nat.succ_mul]; omega), show (i + 1) * k + j - c.length = i * k + j from by rw [h1, Nat.succ_mul]; omega]
    exact flat_get css (fun c hc => hk c (by simp [hc])) i j (by simpa using hi) hj

theorem flat_len {k : Nat} : ∀ (css : List (List Value)) (_ : ∀ c ∈ css, c.length = k), css.flatten.length = css.length * k
  | [], _ => by simp
  | c :: css, hk => by
    simp only [List.flatten_cons, List.length_append, List.length_cons]
    rw [flat_len css (fun c hc => hk c (by simp [hc])), hk c (by simp), Nat.succ_mul]; omega

/-- Data one by one. -/
def Reps (E : Enc α) (S : BS) (h : Heap) : List (List Value) → List α → Prop
  | [], [] => True
  | c :: cs, x :: xs => E.rep S h c x ∧ Reps E S h cs xs
  | _, _ => False

theorem Reps.len : ∀ {css : List (List Value)} {xs : List α}, Reps E S h css xs → css.length = xs.length
  | [], [], _ => rfl
  | _ :: _, _ :: _, hr => by simp [Reps.len hr.2]
  | [], _ :: _, hr => by cases hr
  | _ :: _, [], hr => by cases hr
theorem Reps.all : ∀ {css : List (List Value)} {xs : List α}, Reps E S h css xs → ∀ c ∈ css, c.length = E.k
  | [], [], _, c, hc => by simp at hc
  | _ :: _, _ :: _, hr, c, hc => by
    rcases List.mem_cons.1 hc with rfl | hc
    · exact E.len hr.1
    · exact Reps.all hr.2 c hc
  | [], _ :: _, hr, _, _ => by cases hr
  | _ :: _, [], hr, _, _ => by cases hr
theorem Reps.one : ∀ {css : List (List Value)} {xs : List α}, Reps E S h css xs → ∀ v ∈ css.flatten, v.oneCell' = true
  | [], [], _, v, hv => by simp at hv
  | _ :: _, _ :: _, hr, v, hv => by
    simp only [List.flatten_cons, List.mem_append] at hv
    rcases hv with hv | hv
    · exact E.one hr.1 v hv
    · exact Reps.one hr.2 v hv
  | [], _ :: _, hr, _, _ => by cases hr
  | _ :: _, [], hr, _, _ => by cases hr
theorem Reps.ext : ∀ {css : List (List Value)} {xs : List α}, Reps E S h css xs → Ext S h h' → Reps E S h' css xs
  | [], [], _, _ => trivial
  | _ :: _, _ :: _, hr, e => ⟨E.ext hr.1 e, Reps.ext hr.2 e⟩
  | [], _ :: _, hr, _ => by cases hr
  | _ :: _, [], hr, _ => by cases hr
theorem Reps.mono : ∀ {css : List (List Value)} {xs : List α}, Reps E S h css xs → (∀ b, S b → S' b) → Reps E S' h css xs
  | [], [], _, _ => trivial
  | _ :: _, _ :: _, hr, e => ⟨E.mono hr.1 e, Reps.mono hr.2 e⟩
  | [], _ :: _, hr, _ => by cases hr
  | _ :: _, [], hr, _ => by cases hr
theorem Reps.append : ∀ {css dss : List (List Value)} {xs ys : List α}, Reps E S h css xs → Reps E S h dss ys → Reps E S h (css ++ dss) (xs ++ ys)
  | [], _, [], _, _, hs => hs
  | _ :: _, _, _ :: _, _, hr, hs => ⟨hr.1, Reps.append hr.2 hs⟩
  | [], _, _ :: _, _, hr, _ => by cases hr
  | _ :: _, _, [], _, hr, _ => by cases hr
theorem Reps.get : ∀ {css : List (List Value)} {xs : List α}, Reps E S h css xs → ∀ i (hi : i < css.length) (hx : i < xs.length), E.rep S h css[i] xs[i]
  | [], [], _, i, hi, _ => by simp at hi
  | _ :: _, _ :: _, hr, 0, _, _ => hr.1
  | _ :: _, _ :: _, hr, i + 1, hi, hx => by simpa using Reps.get hr.2 i (by simpa using hi) (by simpa using hx)
  | [], _ :: _, hr, _, _, _ => by cases hr
  | _ :: _, [], hr, _, _, _ => by cases hr

/-- The cells of a slice that reads as a list. -/
theorem Sl.rd (hl : Sl E S h v xs) : ∃ a c css, v = .slice a xs.length c ∧ RdCells h a (xs.length * E.k) css.flatten ∧ Reps E S h css xs := by
  obtain ⟨a, c, rfl, hle, hc⟩ := hl
  rcases hc with ⟨rfl, rfl⟩ | ⟨b, o, rfl, hb, h1⟩
  · exact ⟨none, c, [], rfl, ⟨by simp, by simp⟩, trivial⟩
  · have key : ∀ (ys : List α) (p : Nat), (∀ i (hi : i < ys.length), ∃ cs, E.rep S h cs ys[i] ∧ ∀ j (hj : j < cs.length), cellAt h b (p + i * E.k + j) = some cs[j]) →
        ∃ css, Reps E S h css ys ∧ ∀ j v, css.flatten[j]? = some v → cellAt h b (p + j) = some v := by
      intro ys
      induction ys with
      | nil => intro p _; exact ⟨[], trivial, by simp⟩
      | cons y ys ih =>
        intro p hp
        obtain ⟨cs, hr, hcs⟩ := hp 0 (by simp)
        obtain ⟨css, hrs, hcss⟩ := ih (p + E.k) (fun i hi => by
          obtain ⟨cs', hr', hcs'⟩ := hp (i + 1) (by simpa using hi)
          refine ⟨cs', by simpa using hr', fun j hj => ?_⟩
          rw [show p + E.k + i * E.k + j = p + (i + 1) * E.k + j from by rw [Nat.succ_mul]; omega]
          exact hcs' j hj)
        refine ⟨cs :: css, ⟨by simpa using hr, hrs⟩, fun j v hj => ?_⟩
        have hk := E.len hr
        simp only [List.flatten_cons] at hj
        rcases Nat.lt_or_ge j cs.length with hlt | hge
        · rw [List.getElem?_append_left hlt] at hj
          obtain ⟨hj1, rfl⟩ := List.getElem?_eq_some_iff.1 hj
          simpa using hcs j hj1
        · rw [List.getElem?_append_right hge] at hj
          have := hcss _ _ hj
          rw [show p + E.k + (j - cs.length) = p + j from by omega] at this
          exact this
    obtain ⟨css, hrs, hcss⟩ := key xs o h1
    refine ⟨_, c, css, rfl, ⟨?_, rfl, hcss⟩, hrs⟩
    rw [flat_len css hrs.all, hrs.len]

/-- A block that begins with data. -/
theorem Sl.of_blk {b n : Nat} {css : List (List Value)} {zs : List Value} (hb : Blk h b (css.flatten ++ zs)) (hr : Reps E S h css xs) (hS : S b) (hn : xs.length ≤ n) :
    Sl E S h (.slice (some ⟨b, 0, none⟩) xs.length n) xs := by
  refine ⟨_, _, rfl, hn, .inr ⟨b, 0, rfl, hS, fun i hi => ?_⟩⟩
  have hi' : i < css.length := by rw [hr.len]; exact hi
  refine ⟨css[i], hr.get i hi' hi, fun j hj => ?_⟩
  have hk := hr.all css[i] (List.getElem_mem hi')
  rw [hb.cell, Nat.zero_add, List.getElem?_append_left, flat_get css hr.all i j hi' (by omega), List.getElem?_eq_getElem hj]
  rw [flat_len css hr.all]
  have : (i + 1) * E.k ≤ css.length * E.k := Nat.mul_le_mul_right _ hi'
  rw [Nat.succ_mul] at this
  omega

/-- A row of one's own, from its block's start; its block is not of 'S'. -/
def Own (E : Enc α) (S : BS) (h : Heap) (v : Value) (xs : List α) : Prop :=
  (xs = [] ∧ v = .slice none 0 0) ∨ ∃ b c css zs, v = .slice (some ⟨b, 0, none⟩) xs.length c ∧ ¬ S b ∧ xs.length ≤ c ∧
    Blk h b (css.flatten ++ zs) ∧ Reps E S h css xs ∧ zs.length = (c - xs.length) * E.k

def blkOf : Value → Option Nat
  | .slice (some a) _ _ => some a.block
  | _ => none

theorem Own.nil : Own E S h (.slice none 0 0) [] := .inl ⟨rfl, rfl⟩

theorem Own.form (ho : Own E S h v xs) : ∃ a c, v = .slice a xs.length c ∧ xs.length ≤ c := by
  rcases ho with ⟨rfl, rfl⟩ | ⟨b, c, css, zs, rfl, hb, hle, hc, hr, hz⟩
  · exact ⟨none, 0, rfl, Nat.le_refl _⟩
  · exact ⟨_, c, rfl, hle⟩

theorem Own.fresh (ho : Own E S h v xs) {b : Nat} (hv : blkOf v = some b) : ¬ S b ∧ b < h.size := by
  rcases ho with ⟨rfl, rfl⟩ | ⟨b', c, css, zs, rfl, hb, hle, hc, hr, hz⟩
  · cases hv
  · cases hv; exact ⟨hb, hc.lt⟩

theorem Own.ext {T : BS} (ho : Own E S h v xs) (e : Ext T h h') (hT : ∀ b, S b → T b) (hv : ∀ b, blkOf v = some b → T b) : Own E S h' v xs := by
  rcases ho with ⟨rfl, rfl⟩ | ⟨b, c, css, zs, rfl, hb, hle, hc, hr, hz⟩
  · exact .inl ⟨rfl, rfl⟩
  · exact .inr ⟨b, c, css, zs, rfl, hb, hle, hc.ext e (hv b rfl), hr.ext (e.mono hT), hz⟩

theorem Own.extA (ho : Own E S h v xs) (e : Ext (Al h) h h') (hT : ∀ b, S b → b < h.size) : Own E S h' v xs :=
  ho.ext e hT fun _ hb => (ho.fresh hb).2

theorem Own.sl (ho : Own E S h v xs) (hS : ∀ b, S b → S' b) (hv : ∀ b, blkOf v = some b → S' b) : Sl E S' h v xs := by
  rcases ho with ⟨rfl, rfl⟩ | ⟨b, c, css, zs, rfl, hb, hle, hc, hr, hz⟩
  · exact Sl.nil
  · exact Sl.of_blk hc (hr.mono hS) (hv b rfl) hle

theorem Own.slA (ho : Own E S h v xs) (hS : ∀ b, S b → b < h.size) : Sl E (Al h) h v xs := ho.sl hS fun _ hb => (ho.fresh hb).2

theorem zerosOf_len (z : List Value) (n : Nat) : (zerosOf z n).length = n * z.length := by simp [zerosOf]

/-- What is appended to a row of one's own. -/
theorem Own.append {ya : Option Addr} {yc : Nat} {dss : List (List Value)} {ys : List α} {el eb : Nat} {z : List Value} {K : Option Addr → Nat → Nat → Heap → Prop} (ho : Own E S h v xs) (hrd : RdCells h ya (ys.length * E.k) dss.flatten)
    (hrs : Reps E S h dss ys) (hS : ∀ b, S b → b < h.size) (hz : z.length = E.k)
    (hb : (xs.length + ys.length) * eb ≤ 140737488355328) (hb' : xs.length + ys.length ≤ 9223372036854775807)
    (hK : ∀ a n c h', n = (xs ++ ys).length → Own E S h' (.slice a n c) (xs ++ ys) → (∀ T : BS, (∀ b, T b → b < h.size) → (∀ b, blkOf v = some b → ¬ T b) → Ext T h h') → (blkOf (.slice a n c) = blkOf v ∨ blkOf (.slice a n c) = some h.size) → K a n c h') : AppK el E.k eb z v (.slice ya ys.length yc) h K := by
  have hnew : ∀ (css : List (List Value)) (cap : Nat), Reps E S h css xs → xs.length + ys.length ≤ cap → Own E S (h.push (.cells (css.flatten ++ dss.flatten ++ zerosOf z (cap - (xs.length + ys.length))).toArray el (0, 0)))
      (.slice (some ⟨h.size, 0, none⟩) (xs.length + ys.length) cap) (xs ++ ys) := by
    intro css cap hr hcap
    refine .inr ⟨h.size, cap, css ++ dss, zerosOf z (cap - (xs.length + ys.length)), by simp, fun hs => Nat.lt_irrefl _ (hS _ hs), by simpa using hcap, ?_, ?_, ?_⟩
    · rw [List.flatten_append]; exact Blk.push
    · exact (hr.append hrs).ext (Ext.push hS)
    · rw [zerosOf_len, hz, List.length_append]
  refine ⟨?_⟩
  rcases ho with ⟨rfl, rfl⟩ | ⟨b, c, css, zs, rfl, hbS, hle, hc, hr, hzl⟩
  · refine ⟨none, 0, 0, ys.length, dss.flatten, rfl, .inl ⟨ya, yc, rfl, hrd⟩, hrs.one, ⟨by simpa using hb, by simpa using hb'⟩, fun hle => ?_, fun hlt => ?_⟩
    · have : ys = [] := List.length_eq_zero_iff.1 (by omega)
      subst this
      have : dss = [] := List.length_eq_zero_iff.1 (by simpa using hrs.len)
      subst this
      refine .inl ⟨rfl, rfl, ?_⟩
      exact hK _ _ _ _ rfl (.inl ⟨rfl, rfl⟩) (fun T _ _ => Ext.rfl) (.inl rfl)
    · refine ⟨[], ⟨by simp, by simp⟩, fun cap hcap => hK _ _ _ _ (by simp) ?_ (fun T hT _ => Ext.push hT) (.inr rfl)⟩
      have := hnew [] cap trivial (by simpa using hcap)
      simpa using this
  · have hcl : css.flatten.length = xs.length * E.k := by rw [flat_len css hr.all, hr.len]
    have hdl : dss.flatten.length = ys.length * E.k := by rw [flat_len dss hrs.all, hrs.len]
    refine ⟨some ⟨b, 0, none⟩, xs.length, c, ys.length, dss.flatten, rfl, .inl ⟨ya, yc, rfl, hrd⟩, hrs.one, ⟨hb, hb'⟩, fun hle2 => ?_, fun hlt => ?_⟩
    · have hroom : ys.length * E.k ≤ zs.length := by rw [hzl]; exact Nat.mul_le_mul_right _ (by omega)
      refine .inr ⟨b, 0, rfl, hc.can (by simp only [List.length_append]; omega), hK _ _ _ _ (by simp) ?_ (fun T _ hv => Ext.set (hv b rfl)) (.inl rfl)⟩
      refine .inr ⟨b, c, css ++ dss, zs.drop dss.flatten.length, by simp, hbS, by simpa using hle2, ?_, ?_, ?_⟩
      · have hset := hc.set (us := dss.flatten) (o := 0 + xs.length * E.k) (by simp only [List.length_append]; omega)
        rw [Nat.zero_add, ← hcl, List.take_left', List.drop_append, List.drop_of_length_le (by omega), List.nil_append, show css.flatten.length + dss.flatten.length - css.flatten.length = dss.flatten.length from by omega] at hset
        · rw [Nat.zero_add, ← hcl, List.flatten_append]; exact hset
        · rfl
      · exact (hr.append hrs).ext (Ext.set hbS)
      · rw [List.length_drop, hzl, hdl, ← Nat.sub_mul, List.length_append]
        congr 1; omega
    · refine ⟨css.flatten, ⟨hcl, rfl, fun j v hv => ?_⟩, fun cap hcap => hK _ _ _ _ (by simp) (hnew css cap hr hcap) (fun T hT _ => Ext.push hT) (.inr rfl)⟩
      rw [hc.cell]
      obtain ⟨hj, rfl⟩ := List.getElem?_eq_some_iff.1 hv
      rw [Nat.zero_add, List.getElem?_append_left hj, hv]

end

/-- Texts. -/
def eStr : Enc ByteArray where
  k := 1
  rep _ _ cs x := cs = [.string x]
  pos := by decide
  len := by rintro S h cs x rfl; rfl
  one := by rintro S h cs x rfl v hv; simp at hv; subst hv; rfl
  ext := fun hr _ => hr
  mono := fun hr _ => hr

/-- Numbers. -/
def eInt : Enc Int where
  k := 1
  rep _ _ cs x := cs = [.int .i64 x]
  pos := by decide
  len := by rintro S h cs x rfl; rfl
  one := by rintro S h cs x rfl v hv; simp at hv; subst hv; rfl
  ext := fun hr _ => hr
  mono := fun hr _ => hr


section
variable {S : BS} {h : Heap} {v : Value} {xs : List ByteArray}
theorem Sl.atS {a : Option Addr} {n c : Nat} (hl : Sl eStr S h (.slice a n c) xs) {i : Nat} (hi : i < xs.length) :
    ∃ b o, a = some ⟨b, o, none⟩ ∧ S b ∧ cellAt h b (o + i) = some (.string xs[i]) := by
  obtain ⟨b, o, rfl, hb, cs, rfl, hcs⟩ := hl.at hi
  refine ⟨b, o, rfl, hb, ?_⟩
  have := hcs 0 (by simp)
  simpa [eStr] using this
theorem flatS : ∀ {css : List (List Value)} {xs : List ByteArray}, Reps eStr S h css xs → css.flatten = xs.map .string
  | [], [], _ => rfl
  | _ :: _, _ :: _, hr => by rw [List.flatten_cons, List.map_cons, hr.1, flatS hr.2]; rfl
  | [], _ :: _, hr => by cases hr
  | _ :: _, [], hr => by cases hr
theorem repsS (xs : List ByteArray) : Reps eStr S h (xs.map fun x => [.string x]) xs := by
  induction xs with
  | nil => trivial
  | cons x xs ih => exact ⟨rfl, ih⟩
/-- A row of texts of one's own, by its block. -/
theorem Own.blkS (ho : Own eStr S h v xs) : (xs = [] ∧ v = .slice none 0 0) ∨ ∃ b c zs, v = .slice (some ⟨b, 0, none⟩) xs.length c ∧ ¬ S b ∧ xs.length ≤ c ∧ Blk h b (xs.map .string ++ zs) ∧ zs.length = c - xs.length := by
  rcases ho with ho | ⟨b, c, css, zs, rfl, hb, hle, hc, hr, hz⟩
  · exact .inl ho
  · rw [flatS hr] at hc
    exact .inr ⟨b, c, zs, rfl, hb, hle, hc, by rw [hz]; simp [eStr]⟩
theorem Own.mkS {b c : Nat} {zs : List Value} (hb : ¬ S b) (hle : xs.length ≤ c) (hc : Blk h b (xs.map .string ++ zs)) (hz : zs.length = c - xs.length) : Own eStr S h (.slice (some ⟨b, 0, none⟩) xs.length c) xs := by
  refine .inr ⟨b, c, xs.map fun x => [.string x], zs, rfl, hb, hle, ?_, repsS xs, by rw [hz]; simp [eStr]⟩
  rw [flatS (repsS (S := S) (h := h) xs)]; exact hc
end

theorem Own.newS {h0 h : Heap} {v : Value} {xs : List ByteArray} (ho : Own eStr (Al h0) h v xs) : Sl eStr (New h0 h) h v xs := by
  rcases ho.blkS with ⟨rfl, rfl⟩ | ⟨b, c, zs, rfl, hb, hle, hc, hz⟩
  · exact Sl.nil
  · refine Sl.of_blk (css := xs.map fun x => [.string x]) (zs := zs) ?_ (repsS xs) ⟨Nat.le_of_not_lt hb, hc.lt⟩ hle
    rw [flatS (repsS (S := Al h0) (h := h) xs)]; exact hc

theorem Sl.newAl {α : Type} {E : Enc α} {h0 h : Heap} {v : Value} {xs : List α} (hl : Sl E (New h0 h) h v xs) : Sl E (Al h) h v xs := hl.mono fun _ hb => hb.2

/-- One element of a row of one's own is written. -/
theorem Own.write {α : Type} {E : Enc α} {S : BS} {h : Heap} {a : Option Addr} {n c : Nat} {xs : List α} (ho : Own E S h (.slice a n c) xs) {i : Nat} (hi : i < xs.length) {cs : List Value} {y : α} (hy : E.rep S h cs y) :
    ∃ b, a = some ⟨b, 0, none⟩ ∧ n = xs.length ∧ ¬ S b ∧ b < h.size ∧ Writable h b (i * E.k) cs.length ∧ (∃ ds, E.rep S h ds xs[i] ∧ ∀ j (hj : j < ds.length), cellAt h b (i * E.k + j) = some ds[j]) ∧
      Own E S (setCells h b (i * E.k) cs) (.slice a n c) (xs.set i y) := by
  rcases ho with ⟨rfl, _⟩ | ⟨b, c', css, zs, hv, hb, hle, hc, hr, hz⟩
  · simp at hi
  cases hv
  have hlen := E.len hy
  have hcl : css.flatten.length = xs.length * E.k := by rw [flat_len css hr.all, hr.len]
  have hroom : i * E.k + E.k ≤ xs.length * E.k := by rw [← Nat.succ_mul]; exact Nat.mul_le_mul_right _ hi
  refine ⟨b, rfl, rfl, hb, hc.lt, hc.can (by rw [List.length_append, hcl, hlen]; omega), ?_, ?_⟩
  · have hi' : i < css.length := by rw [hr.len]; exact hi
    refine ⟨css[i], hr.get i hi' hi, fun j hj => ?_⟩
    have hk := hr.all css[i] (List.getElem_mem hi')
    rw [hc.cell, List.getElem?_append_left (by omega), flat_get css hr.all i j hi' (by omega), List.getElem?_eq_getElem hj]
  · have hset := hc.set (o := i * E.k) (us := cs) (by rw [List.length_append, hcl, hlen]; omega)
    refine .inr ⟨b, c, css.set i cs, zs, by rw [List.length_set], hb, by rw [List.length_set]; exact hle, ?_, ?_, by rw [List.length_set]; exact hz⟩
    · have key : ∀ (css : List (List Value)) (_ : ∀ c ∈ css, c.length = E.k) (i : Nat) (_ : i < css.length) (zs : List Value),
          (css.flatten ++ zs).take (i * E.k) ++ cs ++ (css.flatten ++ zs).drop (i * E.k + cs.length) = (css.set i cs).flatten ++ zs := by
        intro css
        induction css with
        | nil => intro _ i hi; simp at hi
        | cons d css ih =>
          intro hk i hi zs
          have hd := hk d (by simp)
          cases i with
          | zero =>
            rw [Nat.zero_mul, List.take_zero, List.nil_append, Nat.zero_add, List.set_cons_zero, List.flatten_cons, List.flatten_cons, List.append_assoc, List.drop_left' (by omega), List.append_assoc]
          | succ i =>
            have := ih (fun c hc => hk c (by simp [hc])) i (by simpa using hi) zs
            rw [List.set_cons_succ, List.flatten_cons, List.flatten_cons, List.append_assoc d, List.append_assoc d, ← this]
            rw [show (i + 1) * E.k = d.length + i * E.k from by rw [Nat.succ_mul, hd]; omega, List.take_length_add_append, List.append_assoc d, show d.length + i * E.k + cs.length = d.length + (i * E.k + cs.length) from by omega, List.drop_length_add_append]
            simp [List.append_assoc]
      rw [key css hr.all i (by rw [hr.len]; exact hi) zs] at hset
      exact hset
    · have key : ∀ (css : List (List Value)) (xs : List α) (i : Nat), Reps E S h css xs → Reps E S h (css.set i cs) (xs.set i y) := by
        intro css
        induction css with
        | nil => intro xs i hr; cases xs with
          | nil => trivial
          | cons _ _ => cases hr
        | cons d css ih => intro xs i hr; cases xs with
          | nil => cases hr
          | cons x xs => cases i with
            | zero => exact ⟨hy, hr.2⟩
            | succ i => exact ⟨hr.1, ih xs i hr.2⟩
      exact (key css xs i hr).ext (Ext.set hb)

/-- A loop whose rounds are told one by one. -/
def unr (P : Program) (fc : FC) (c : Code) (Q : Exit → Regs → Heap → Prop) : Nat → Regs → Heap → Prop
  | 0, _, _ => False
  | n + 1, r, h => Wrap (vcCode P fc c r h (vcThen (fun r' h' => unr P fc c Q n r' h') Q))

theorem loop_unr {P : Program} {fc : FC} {Q : Exit → Regs → Heap → Prop} {c : Code} {r : Regs} {h : Heap} (hm : P.follows .mixedOrders = true) (hd : codeOK fc c = true) (n : Nat)
    (hu : unr P fc c Q n r h) : VSem P fc (.loop c) r h Q := by
  refine ⟨fun hB a w hs hw => ?_⟩
  have key : ∀ n r a' w', Sub fc.n a' r → unr P fc c Q n r w'.heap → Below 0 w w' → ∀ b k cs,
      ∃ e a2 w2, QW fc.n w Q e a2 w2 ∧ Arrives P (lone (b.at a' (.code c :: .inLoop c :: k)) cs w') b k cs e a2 w2 := by
    intro n
    induction n with
    | zero => intro r a' w' _ hf; cases hf
    | succ n ih =>
      intro r a' w' hs' hu hb' b k cs
      obtain ⟨e, a1, w1, ⟨r1, hs1, hb1, hq⟩, harr⟩ := (vcCode_sound hm c _ _ _ hd hu.out).wp (blind_then hB) a' w' hs' rfl b (.inLoop c :: k) cs
      cases e with
      | normal =>
        obtain ⟨e2, a2, w2, hq2, harr2⟩ := ih r1 a1 w1 hs1 hq (hb'.trans hb1) b k cs
        exact ⟨e2, a2, w2, hq2, .of_steps (Steps.trans harr (.one step_inLoop)) harr2⟩
      | exit id => exact ⟨_, a1, w1, ⟨r1, hs1, hb'.trans hb1, hq⟩, .pass (x := .inLoop c) rfl (fun _ _ => .inl (by simp)) harr⟩
      | goto l => exact ⟨_, a1, w1, ⟨r1, hs1, hb'.trans hb1, hq⟩, .pass (x := .inLoop c) rfl (fun _ _ => .inl (by simp)) harr⟩
      | ret => exact ⟨_, a1, w1, ⟨r1, hs1, hb'.trans hb1, hq⟩, .pass (x := .inLoop c) rfl (fun _ _ => .inl (by simp)) harr⟩
      | panic ch => exact ⟨_, a1, w1, ⟨r1, hs1, hb'.trans hb1, hq⟩, .pass (x := .inLoop c) rfl (fun _ _ => .inl (by simp)) harr⟩
      | outgrown => exact ⟨_, a1, w1, ⟨r1, hs1, hb'.trans hb1, hq⟩, .pass (x := .inLoop c) rfl (fun _ _ => .inl (by simp)) harr⟩
  intro b k cs
  obtain ⟨e, a', w', hq, harr⟩ := key n r a w hs (hw ▸ hu) (.refl _ _) b k cs
  exact ⟨e, a', w', hq, .of_steps (.one step_loop) harr⟩

/-- A call whose runs are known. -/
theorem callK_of_calls {P : Program} {f : FuncId} {args : List Value} {h : Heap} {K : Value → Heap → Prop} {X : List PanicEntry → Heap → Prop} (hf : fnOK P f = true)
    (hc : ∀ w : World, w.heap = h → Calls P f args.toArray w fun e w' => Below 0 w w' ∧ ∃ v, e = .returned v ∧ K v w'.heap) : CallK P f args h K X :=
  ⟨hf, fun w hw => (hc w hw).mono fun e w' ⟨hb, v, he, hk⟩ => ⟨hb, by subst he; exact hk⟩⟩


/-- What became of a row of one's own: what is outside of it is as it was. -/
structure Grown {α : Type} (E : Enc α) (S : BS) (h : Heap) (v : Value) (h' : Heap) (v' : Value) (ys : List α) : Prop where
  own : Own E S h' v' ys
  size : h.size ≤ h'.size
  ext : ∀ T : BS, (∀ b, T b → b < h.size) → (∀ b, blkOf v = some b → ¬ T b) → Ext T h h'
  blk : ∀ b, blkOf v' = some b → blkOf v = some b ∨ h.size ≤ b

section
variable {α : Type} {E : Enc α} {S : BS} {h h1 h2 : Heap} {v v1 v2 : Value} {xs ys zs : List α}

theorem Grown.rfl (ho : Own E S h v xs) : Grown E S h v h v xs := ⟨ho, Nat.le_refl _, fun _ _ _ => Ext.rfl, fun _ hb => .inl hb⟩

theorem Grown.trans (a : Grown E S h v h1 v1 ys) (b : Grown E S h1 v1 h2 v2 zs) : Grown E S h v h2 v2 zs := by
  refine ⟨b.own, Nat.le_trans a.size b.size, fun T hT hv => (a.ext T hT hv).trans (b.ext T (fun c hc => Nat.lt_of_lt_of_le (hT c hc) a.size) fun c hc hTc => ?_), fun c hc => ?_⟩
  · rcases a.blk c hc with h1 | h1
    · exact hv c h1 hTc
    · exact absurd (hT c hTc) (by omega)
  · rcases b.blk c hc with h1 | h1
    · exact a.blk c h1
    · exact .inr (Nat.le_trans a.size h1)

/-- All that a row's own set says stays. -/
theorem Grown.keep (g : Grown E S h v h1 v1 ys) (ho : Own E S h v xs) (hS : ∀ b, S b → b < h.size) : Ext S h h1 :=
  g.ext S hS fun _ hb => (ho.fresh hb).1

theorem Own.appG {w : Value} {el eb : Nat} {z : List Value} {K : Option Addr → Nat → Nat → Heap → Prop} (ho : Own E S h v xs) (hS : ∀ b, S b → b < h.size) (hy : Sl E S h w ys) (hz : z.length = E.k)
    (hb : (xs.length + ys.length) * eb ≤ 140737488355328) (hb' : xs.length + ys.length ≤ 9223372036854775807)
    (hK : ∀ a n c h', n = (xs ++ ys).length → Grown E S h v h' (.slice a n c) (xs ++ ys) → K a n c h') : AppK el E.k eb z v w h K := by
  obtain ⟨ya, yc, dss, rfl, hrd, hrs⟩ := hy.rd
  refine ho.append hrd hrs hS hz hb hb' fun a n c h' hn hown hext hblk => hK a n c h' hn ⟨hown, ?_, hext, fun b hb => ?_⟩
  · exact (hext (fun _ => False) (fun _ h => h.elim) (fun _ _ h => h)).size
  · rcases hblk with h1 | h1
    · exact .inl (by rw [← h1]; exact hb)
    · rw [h1] at hb; cases hb; exact .inr (Nat.le_refl _)

/-- 'append(l, x, ..)': what is appended lies in a block of its own. -/
theorem Own.app {css : List (List Value)} {vs : List Value} {el eb t m : Nat} {z : List Value} {K : Option Addr → Nat → Nat → Heap → Prop} (ho : Own E S h v xs) (hS : ∀ b, S b → b < h.size) (hy : Reps E S h css ys) (hvs : vs = css.flatten) (hm : m = ys.length) (hz : z.length = E.k)
    (hb : (xs.length + ys.length) * eb ≤ 140737488355328) (hb' : xs.length + ys.length ≤ 9223372036854775807)
    (hK : ∀ a n c h', n = (xs ++ ys).length → Grown E S h v h' (.slice a n c) (xs ++ ys) → K a n c h') :
    ∀ (b : Nat) (h' : Array Obj), b = Array.size h → h' = Array.push h (Obj.cells vs.toArray t (0, 0)) → AppK el E.k eb z v (.slice (some ⟨b, 0, none⟩) m m) h' K := by
  rintro b h' rfl rfl
  subst hvs hm
  have e := Ext.pushA (h := h) (o := .cells css.flatten.toArray t (0, 0))
  have ho' := ho.extA e hS
  have hsz : (h.push (.cells css.flatten.toArray t (0, 0))).size = h.size + 1 := by simp
  have hrd : RdCells (h.push (.cells css.flatten.toArray t (0, 0))) (some ⟨h.size, 0, none⟩) (ys.length * E.k) css.flatten := by
    refine ⟨by rw [flat_len css hy.all, hy.len], rfl, fun j v hv => ?_⟩
    rw [Blk.push.cell, Nat.zero_add]; exact hv
  refine ho'.append hrd (hy.ext (Ext.push hS)) (fun b hb => by have := hS b hb; omega) hz hb hb' fun a n c h' hn hown hext hblk => hK a n c h' hn ⟨hown, ?_, fun T hT hv => ?_, fun b hb => ?_⟩
  · have := (hext (fun _ => False) (fun _ h => h.elim) (fun _ _ h => h)).size
    omega
  · exact (Ext.push hT).trans (hext T (fun b hb => by have := hT b hb; omega) hv)
  · rcases hblk with h1 | h1
    · exact .inl (by rw [← h1]; exact hb)
    · rw [h1] at hb; cases hb; exact .inr (by omega)

end


/-- A row of texts of one's own, opened: read and written by place. -/
theorem Own.openS {S : BS} {h : Heap} {a : Option Addr} {n c : Nat} {xs : List ByteArray} (ho : Own eStr S h (.slice a n c) xs) (hne : xs ≠ []) :
    ∃ b, a = some ⟨b, 0, none⟩ ∧ n = xs.length ∧ (∀ j (hj : j < xs.length), cellAt h b (0 + j) = some (.string xs[j])) ∧
      ∀ i, i < xs.length → ∀ y, Writable h b (0 + i) 1 ∧ Grown eStr S h (.slice a n c) (setCells h b (0 + i) [.string y]) (.slice a n c) (xs.set i y) := by
  obtain ⟨x, xs', rfl⟩ := List.exists_cons_of_ne_nil hne
  obtain ⟨b, rfl, rfl, _, hlt, _⟩ := ho.write (i := 0) (by simp) (cs := [.string x]) (y := x) rfl
  refine ⟨b, rfl, rfl, fun j hj => ?_, fun i hi y => ?_⟩
  · obtain ⟨b', hb', _, _, _, _, ⟨ds, hds, hcs⟩, _⟩ := ho.write (i := j) hj (cs := [.string x]) (y := x) rfl
    cases hb'
    subst hds
    simpa [eStr] using hcs 0 (by simp)
  · obtain ⟨b', hb', _, hS, _, hw, _, hown⟩ := ho.write (i := i) hi (cs := [.string y]) (y := y) rfl
    cases hb'
    simp only [eStr, Nat.mul_one, List.length_singleton] at hw hown
    rw [Nat.zero_add]
    exact ⟨hw, hown, by rw [size_setCells]; exact Nat.le_refl _, fun T hT hv => Ext.set (hv b rfl), fun c hc => .inl hc⟩

end Go.Vx
