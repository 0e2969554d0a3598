/- Trees of modules as data in the heap. No condition. -/
import Derived.Test.YtdnlhicbjhgjiaaGreatDoorVxS
namespace Go.Vx
open Go.RowKit

theorem Sl.one {α : Type} {E : Enc α} {S : BS} {h : Heap} {v : Value} {xs : List α} (hl : Sl E S h v xs) : v.oneCell' = true := by
  obtain ⟨a, c, rfl, _⟩ := hl.form; rfl

/-- Bools. -/
def eBool : Enc Bool where
  k := 1
  rep _ _ cs x := cs = [.bool x]
  pos := by decide
  len := by rintro S h cs x rfl; rfl
  one := by rintro S h cs x rfl v hv; simp at hv; subst hv; rfl
  ext := fun hr _ => hr
  mono := fun hr _ => hr

/-- Slices as elements. -/
def eSl {α : Type} (E : Enc α) : Enc (List α) where
  k := 1
  rep S h cs x := ∃ v, cs = [v] ∧ Sl E S h v x
  pos := by decide
  len := by rintro S h cs x ⟨v, rfl, _⟩; rfl
  one := by rintro S h cs x ⟨v, rfl, hl⟩ u hu; simp at hu; subst hu; exact hl.one
  ext := by rintro S h h' cs x ⟨v, rfl, hl⟩ e; exact ⟨v, rfl, hl.ext e⟩
  mono := by rintro S S' h cs x ⟨v, rfl, hl⟩ e; exact ⟨v, rfl, hl.mono e⟩

structure Import where
  name : ByteArray
  at_ : Int

structure Var where
  name : ByteArray
  label : ByteArray
  init : Int
  at_ : Int

structure Param where
  name : ByteArray
  label : ByteArray
  at_ : Int

structure Node where
  kind : Int
  num : Int
  mod : ByteArray
  name : ByteArray
  a : Int
  b : Int
  at_ : Int

inductive Stmt where
  | mk (kind at_ : Int) (mod name label : ByteArray) (has : Bool) (toMod to : ByteArray) (e : List Node) (args : List (List Node)) (body els : List Stmt)

structure Proc where
  name : ByteArray
  params : List Param
  has : Bool
  result : ByteArray
  pc : ByteArray
  uses : List ByteArray
  body : List Stmt
  at_ : Int

structure Module where
  name : ByteArray
  at_ : Int
  imports : List Import
  vars : List Var
  procs : List Proc

structure Lattice where
  names : List ByteArray
  le : List (List Bool)
  join : List (List Int)
  meet : List (List Int)
  low : Int
  high : Int

structure Sig where
  name : ByteArray
  params : List ByteArray
  has : Bool
  result : ByteArray
  pc : ByteArray
  uses : List ByteArray
  deriving DecidableEq

structure Face where
  vars : List Var
  procs : List Sig

structure Diag where
  mod : ByteArray
  at_ : Int
  code : Int
  name : ByteArray

def eImport : Enc Import where
  k := 2
  rep _ _ cs x := cs = [.string x.name, .int .i64 x.at_]
  pos := by decide
  len := by rintro S h cs x rfl; rfl
  one := by rintro S h cs x rfl v hv; simp at hv; rcases hv with rfl | rfl <;> rfl
  ext := fun hr _ => hr
  mono := fun hr _ => hr

def eVar : Enc Var where
  k := 4
  rep _ _ cs x := cs = [.string x.name, .string x.label, .int .i64 x.init, .int .i64 x.at_]
  pos := by decide
  len := by rintro S h cs x rfl; rfl
  one := by rintro S h cs x rfl v hv; simp at hv; rcases hv with rfl | rfl | rfl | rfl <;> rfl
  ext := fun hr _ => hr
  mono := fun hr _ => hr

def eParam : Enc Param where
  k := 3
  rep _ _ cs x := cs = [.string x.name, .string x.label, .int .i64 x.at_]
  pos := by decide
  len := by rintro S h cs x rfl; rfl
  one := by rintro S h cs x rfl v hv; simp at hv; rcases hv with rfl | rfl | rfl <;> rfl
  ext := fun hr _ => hr
  mono := fun hr _ => hr

def eNode : Enc Node where
  k := 7
  rep _ _ cs x := cs = [.int .i64 x.kind, .int .i64 x.num, .string x.mod, .string x.name, .int .i64 x.a, .int .i64 x.b, .int .i64 x.at_]
  pos := by decide
  len := by rintro S h cs x rfl; rfl
  one := by rintro S h cs x rfl v hv; simp at hv; rcases hv with rfl | rfl | rfl | rfl | rfl | rfl | rfl <;> rfl
  ext := fun hr _ => hr
  mono := fun hr _ => hr

def eDiag : Enc Diag where
  k := 4
  rep _ _ cs x := cs = [.string x.mod, .int .i64 x.at_, .int .i64 x.code, .string x.name]
  pos := by decide
  len := by rintro S h cs x rfl; rfl
  one := by rintro S h cs x rfl v hv; simp at hv; rcases hv with rfl | rfl | rfl | rfl <;> rfl
  ext := fun hr _ => hr
  mono := fun hr _ => hr

/-! Statements: by their depth. -/
def stmtN : Nat → Enc Stmt
  | 0 => { k := 12, rep := fun _ _ _ _ => False, pos := by decide, len := by rintro S h cs x ⟨⟩, one := by rintro S h cs x ⟨⟩, ext := by rintro S h h' cs x ⟨⟩, mono := by rintro S S' h cs x ⟨⟩ }
  | n + 1 => {
    k := 12
    rep := fun S h cs x => match x with
      | .mk kind at_ mod name label has toMod to e args body els => ∃ ve va vb vl, cs = [.int .i64 kind, .int .i64 at_, .string mod, .string name, .string label, .bool has, .string toMod, .string to, ve, va, vb, vl] ∧
          Sl eNode S h ve e ∧ Sl (eSl eNode) S h va args ∧ Sl (stmtN n) S h vb body ∧ Sl (stmtN n) S h vl els
    pos := by decide
    len := by rintro S h cs ⟨⟩ ⟨ve, va, vb, vl, rfl, _⟩; rfl
    one := by
      rintro S h cs ⟨⟩ ⟨ve, va, vb, vl, rfl, h1, h2, h3, h4⟩ v hv
      simp at hv
      rcases hv with rfl | rfl | rfl | rfl | rfl | rfl | rfl | rfl | rfl | rfl | rfl | rfl
      all_goals first | rfl | exact h1.one | exact h2.one | exact h3.one | exact h4.one
    ext := by rintro S h h' cs ⟨⟩ ⟨ve, va, vb, vl, rfl, h1, h2, h3, h4⟩ e; exact ⟨ve, va, vb, vl, rfl, h1.ext e, h2.ext e, h3.ext e, h4.ext e⟩
    mono := by rintro S S' h cs ⟨⟩ ⟨ve, va, vb, vl, rfl, h1, h2, h3, h4⟩ e; exact ⟨ve, va, vb, vl, rfl, h1.mono e, h2.mono e, h3.mono e, h4.mono e⟩ }

theorem stmtN_k (n : Nat) : (stmtN n).k = 12 := by cases n <;> rfl

theorem Sl.imp {α : Type} {E F : Enc α} {S : BS} {h : Heap} {v : Value} {xs : List α} (hk : E.k = F.k) (hi : ∀ x ∈ xs, ∀ cs, E.rep S h cs x → F.rep S h cs x) (hl : Sl E S h v xs) : Sl F S h v xs := by
  obtain ⟨a, c, rfl, hle, hc⟩ := hl
  refine ⟨a, c, rfl, hle, ?_⟩
  rcases hc with hc | ⟨b, o, rfl, hb, h1⟩
  · exact .inl hc
  · refine .inr ⟨b, o, rfl, hb, fun i hx => ?_⟩
    obtain ⟨cs, hr, hcs⟩ := h1 i hx
    exact ⟨cs, hi _ (List.getElem_mem hx) cs hr, fun j hj => by rw [← hk]; exact hcs j hj⟩

theorem stmtN_up {S : BS} {h : Heap} : ∀ {n m : Nat} {cs : List Value} {x : Stmt}, n ≤ m → (stmtN n).rep S h cs x → (stmtN m).rep S h cs x
  | 0, _, _, _, _, hr => by cases hr
  | n + 1, 0, _, _, hm, _ => by omega
  | n + 1, m + 1, cs, .mk .., hm, hr => by
    obtain ⟨ve, va, vb, vl, rfl, h1, h2, h3, h4⟩ := hr
    refine ⟨ve, va, vb, vl, rfl, h1, h2, h3.imp (by rw [stmtN_k, stmtN_k]) ?_, h4.imp (by rw [stmtN_k, stmtN_k]) ?_⟩
    · exact fun x _ cs hr => stmtN_up (Nat.le_of_succ_le_succ hm) hr
    · exact fun x _ cs hr => stmtN_up (Nat.le_of_succ_le_succ hm) hr

def eStmt : Enc Stmt where
  k := 12
  rep S h cs x := ∃ n, (stmtN n).rep S h cs x
  pos := by decide
  len := by rintro S h cs x ⟨n, hr⟩; rw [(stmtN n).len hr, stmtN_k]
  one := by rintro S h cs x ⟨n, hr⟩; exact (stmtN n).one hr
  ext := by rintro S h h' cs x ⟨n, hr⟩ e; exact ⟨n, (stmtN n).ext hr e⟩
  mono := by rintro S S' h cs x ⟨n, hr⟩ e; exact ⟨n, (stmtN n).mono hr e⟩

theorem slStmt_N {S : BS} {h : Heap} {v : Value} {xs : List Stmt} (hl : Sl eStmt S h v xs) : ∃ n, Sl (stmtN n) S h v xs := by
  obtain ⟨a, c, rfl, hle, hc⟩ := hl
  rcases hc with hc | ⟨b, o, rfl, hb, h1⟩
  · exact ⟨0, a, c, rfl, hle, .inl hc⟩
  · have key : ∀ m, m ≤ xs.length → ∃ n, ∀ i (hi : i < xs.length), i < m → ∃ cs, (stmtN n).rep S h cs xs[i] ∧ ∀ j (hj : j < cs.length), cellAt h b (o + i * 12 + j) = some cs[j] := by
      intro m
      induction m with
      | zero => intro _; exact ⟨0, fun i _ hi => by omega⟩
      | succ m ih =>
        intro hm
        obtain ⟨n, hn⟩ := ih (by omega)
        obtain ⟨cs, ⟨q, hr⟩, hcs⟩ := h1 m (by omega)
        refine ⟨max n q, fun i hx hi => ?_⟩
        rcases Nat.lt_succ_iff_lt_or_eq.1 hi with h2 | rfl
        · obtain ⟨cs, hr, hcs⟩ := hn i hx h2
          exact ⟨cs, stmtN_up (Nat.le_max_left _ _) hr, hcs⟩
        · exact ⟨cs, stmtN_up (Nat.le_max_right _ _) hr, hcs⟩
    obtain ⟨n, hn⟩ := key xs.length (Nat.le_refl _)
    exact ⟨n, _, c, rfl, hle, .inr ⟨b, o, rfl, hb, fun i hi => by rw [stmtN_k]; exact hn i hi hi⟩⟩

theorem eStmt_out {S : BS} {h : Heap} {cs : List Value} {kind at_ : Int} {mod name label : ByteArray} {has : Bool} {toMod to : ByteArray} {e : List Node} {args : List (List Node)} {body els : List Stmt}
    (hr : eStmt.rep S h cs (.mk kind at_ mod name label has toMod to e args body els)) :
    ∃ ve va vb vl, cs = [.int .i64 kind, .int .i64 at_, .string mod, .string name, .string label, .bool has, .string toMod, .string to, ve, va, vb, vl] ∧
      Sl eNode S h ve e ∧ Sl (eSl eNode) S h va args ∧ Sl eStmt S h vb body ∧ Sl eStmt S h vl els := by
  obtain ⟨n, hr⟩ := hr
  cases n with
  | zero => cases hr
  | succ n =>
    obtain ⟨ve, va, vb, vl, rfl, h1, h2, h3, h4⟩ := hr
    exact ⟨ve, va, vb, vl, rfl, h1, h2, h3.imp (stmtN_k n) fun _ _ _ h => ⟨n, h⟩, h4.imp (stmtN_k n) fun _ _ _ h => ⟨n, h⟩⟩

theorem eStmt_in {S : BS} {h : Heap} {kind at_ : Int} {mod name label : ByteArray} {has : Bool} {toMod to : ByteArray} {e : List Node} {args : List (List Node)} {body els : List Stmt} {ve va vb vl : Value}
    (h1 : Sl eNode S h ve e) (h2 : Sl (eSl eNode) S h va args) (h3 : Sl eStmt S h vb body) (h4 : Sl eStmt S h vl els) :
    eStmt.rep S h [.int .i64 kind, .int .i64 at_, .string mod, .string name, .string label, .bool has, .string toMod, .string to, ve, va, vb, vl] (.mk kind at_ mod name label has toMod to e args body els) := by
  obtain ⟨n, h3⟩ := slStmt_N h3
  obtain ⟨m, h4⟩ := slStmt_N h4
  exact ⟨max n m + 1, ve, va, vb, vl, rfl, h1, h2, h3.imp (by rw [stmtN_k, stmtN_k]) fun _ _ _ h => stmtN_up (Nat.le_max_left _ _) h, h4.imp (by rw [stmtN_k, stmtN_k]) fun _ _ _ h => stmtN_up (Nat.le_max_right _ _) h⟩

def eProc : Enc Proc where
  k := 8
  rep S h cs x := ∃ vp vu vb, cs = [.string x.name, vp, .bool x.has, .string x.result, .string x.pc, vu, vb, .int .i64 x.at_] ∧ Sl eParam S h vp x.params ∧ Sl eStr S h vu x.uses ∧ Sl eStmt S h vb x.body
  pos := by decide
  len := by rintro S h cs x ⟨vp, vu, vb, rfl, _⟩; rfl
  one := by
    rintro S h cs x ⟨vp, vu, vb, rfl, h1, h2, h3⟩ v hv
    simp at hv
    rcases hv with rfl | rfl | rfl | rfl | rfl | rfl | rfl | rfl
    all_goals first | rfl | exact h1.one | exact h2.one | exact h3.one
  ext := by rintro S h h' cs x ⟨vp, vu, vb, rfl, h1, h2, h3⟩ e; exact ⟨vp, vu, vb, rfl, h1.ext e, h2.ext e, h3.ext e⟩
  mono := by rintro S S' h cs x ⟨vp, vu, vb, rfl, h1, h2, h3⟩ e; exact ⟨vp, vu, vb, rfl, h1.mono e, h2.mono e, h3.mono e⟩

def eModule : Enc Module where
  k := 5
  rep S h cs x := ∃ vi vv vp, cs = [.string x.name, .int .i64 x.at_, vi, vv, vp] ∧ Sl eImport S h vi x.imports ∧ Sl eVar S h vv x.vars ∧ Sl eProc S h vp x.procs
  pos := by decide
  len := by rintro S h cs x ⟨vp, vu, vb, rfl, _⟩; rfl
  one := by
    rintro S h cs x ⟨vp, vu, vb, rfl, h1, h2, h3⟩ v hv
    simp at hv
    rcases hv with rfl | rfl | rfl | rfl | rfl
    all_goals first | rfl | exact h1.one | exact h2.one | exact h3.one
  ext := by rintro S h h' cs x ⟨vp, vu, vb, rfl, h1, h2, h3⟩ e; exact ⟨vp, vu, vb, rfl, h1.ext e, h2.ext e, h3.ext e⟩
  mono := by rintro S S' h cs x ⟨vp, vu, vb, rfl, h1, h2, h3⟩ e; exact ⟨vp, vu, vb, rfl, h1.mono e, h2.mono e, h3.mono e⟩

def eLattice : Enc Lattice where
  k := 6
  rep S h cs x := ∃ vn vl vj vm, cs = [vn, vl, vj, vm, .int .i64 x.low, .int .i64 x.high] ∧ Sl eStr S h vn x.names ∧ Sl (eSl eBool) S h vl x.le ∧ Sl (eSl eInt) S h vj x.join ∧ Sl (eSl eInt) S h vm x.meet
  pos := by decide
  len := by rintro S h cs x ⟨_, _, _, _, rfl, _⟩; rfl
  one := by
    rintro S h cs x ⟨_, _, _, _, rfl, h1, h2, h3, h4⟩ v hv
    simp at hv
    rcases hv with rfl | rfl | rfl | rfl | rfl | rfl
    all_goals first | rfl | exact h1.one | exact h2.one | exact h3.one | exact h4.one
  ext := by rintro S h h' cs x ⟨_, _, _, _, rfl, h1, h2, h3, h4⟩ e; exact ⟨_, _, _, _, rfl, h1.ext e, h2.ext e, h3.ext e, h4.ext e⟩
  mono := by rintro S S' h cs x ⟨_, _, _, _, rfl, h1, h2, h3, h4⟩ e; exact ⟨_, _, _, _, rfl, h1.mono e, h2.mono e, h3.mono e, h4.mono e⟩

def eSig : Enc Sig where
  k := 6
  rep S h cs x := ∃ vp vu, cs = [.string x.name, vp, .bool x.has, .string x.result, .string x.pc, vu] ∧ Sl eStr S h vp x.params ∧ Sl eStr S h vu x.uses
  pos := by decide
  len := by rintro S h cs x ⟨_, _, rfl, _⟩; rfl
  one := by
    rintro S h cs x ⟨_, _, rfl, h1, h2⟩ v hv
    simp at hv
    rcases hv with rfl | rfl | rfl | rfl | rfl | rfl
    all_goals first | rfl | exact h1.one | exact h2.one
  ext := by rintro S h h' cs x ⟨_, _, rfl, h1, h2⟩ e; exact ⟨_, _, rfl, h1.ext e, h2.ext e⟩
  mono := by rintro S S' h cs x ⟨_, _, rfl, h1, h2⟩ e; exact ⟨_, _, rfl, h1.mono e, h2.mono e⟩

def eFace : Enc Face where
  k := 2
  rep S h cs x := ∃ vv vp, cs = [vv, vp] ∧ Sl eVar S h vv x.vars ∧ Sl eSig S h vp x.procs
  pos := by decide
  len := by rintro S h cs x ⟨_, _, rfl, _⟩; rfl
  one := by
    rintro S h cs x ⟨_, _, rfl, h1, h2⟩ v hv
    simp at hv
    rcases hv with rfl | rfl
    all_goals first | rfl | exact h1.one | exact h2.one
  ext := by rintro S h h' cs x ⟨_, _, rfl, h1, h2⟩ e; exact ⟨_, _, rfl, h1.ext e, h2.ext e⟩
  mono := by rintro S S' h cs x ⟨_, _, rfl, h1, h2⟩ e; exact ⟨_, _, rfl, h1.mono e, h2.mono e⟩


/-! A struct whose last field is a row of its own. -/

/-- Two rows of different blocks. -/
def Apart (v w : Value) : Prop := ∀ b, blkOf v = some b → blkOf w ≠ some b

/-- What stays, the struct, the row of a slice. -/
def FS (S : BS) (p : Nat) (l : Value) : BS := fun b => S b ∨ b = p ∨ blkOf l = some b

/-- A struct at block 'p': fixed cells, then a row of one's own. -/
structure FSt {α : Type} (E : Enc α) (S : BS) (h : Heap) (p : Nat) (cs : List Value) (l : Value) (ds : List α) : Prop where
  blk : Blk h p (cs ++ [l])
  own : Own E S h l ds
  np : ¬ S p
  nl : blkOf l ≠ some p

section
variable {α : Type} {E : Enc α} {S : BS} {h h' : Heap} {p : Nat} {cs : List Value} {l : Value} {ds : List α}

theorem FSt.ext (f : FSt E S h p cs l ds) (e : Ext (FS S p l) h h') : FSt E S h' p cs l ds :=
  ⟨f.blk.ext e (.inr (.inl rfl)), f.own.ext e (fun _ hb => .inl hb) fun _ hb => .inr (.inr hb), f.np, f.nl⟩

theorem FSt.lt (f : FSt E S h p cs l ds) (hS : ∀ b, S b → b < h.size) : ∀ b, FS S p l b → b < h.size := by
  rintro b (hb | rfl | hb)
  · exact hS b hb
  · exact f.blk.lt
  · exact (f.own.fresh hb).2

theorem FSt.form (f : FSt E S h p cs l ds) : ∃ a c, l = .slice a ds.length c := by
  obtain ⟨a, c, rfl, _⟩ := f.own.form; exact ⟨a, c, rfl⟩

/-- More stays: a block that is neither the struct nor its row. -/
theorem FSt.more (f : FSt E S h p cs l ds) {q : Nat} (h1 : q ≠ p) (h2 : blkOf l ≠ some q) : FSt E (fun b => S b ∨ b = q) h p cs l ds := by
  refine ⟨f.blk, ?_, fun hh => hh.elim f.np fun e => h1 e.symm, f.nl⟩
  rcases f.own with ho | ⟨b, c, css, zs, rfl, hb, hle, hc, hr, hz⟩
  · exact .inl ho
  · refine .inr ⟨b, c, css, zs, rfl, ?_, hle, hc, hr.mono fun _ h => .inl h, hz⟩
    rintro (h | rfl)
    · exact hb h
    · exact h2 rfl

/-- 'f.l = append(f.l, d)' done: 'h1' behind the append, 'h2' behind the store. -/
theorem FSt.told {ds' : List α} {h1 : Heap} {l' : Value} (f : FSt E S h p cs l ds)
    (g : Grown E S h l h1 l' ds') : Writable h1 p cs.length 1 ∧ FSt E S (setCells h1 p cs.length [l']) p cs l' ds' ∧
      Ext (fun b => b < h.size ∧ b ≠ p ∧ blkOf l ≠ some b) h (setCells h1 p cs.length [l']) ∧ ∀ b, blkOf l' = some b → blkOf l = some b ∨ h.size ≤ b := by
  have hp := f.blk.lt
  have ep : Ext (fun b => b = p) h h1 := g.ext _ (fun b e => e ▸ hp) fun b h1 e => f.nl (e ▸ h1)
  have e0 : Ext (fun b => b < h.size ∧ b ≠ p ∧ blkOf l ≠ some b) h h1 := g.ext _ (fun _ h => h.1) fun b h1 h2 => h2.2.2 h1
  have hb1 := f.blk.ext ep rfl
  have hset := hb1.set (o := cs.length) (us := [l']) (by simp)
  rw [List.take_left, List.drop_of_length_le (by simp), List.append_nil] at hset
  have hne : ∀ b, blkOf l' = some b → b ≠ p := by
    rintro b hb rfl
    rcases g.blk b hb with h1 | h1
    · exact f.nl h1
    · omega
  refine ⟨hb1.can (by simp), ⟨hset, g.own.ext (T := fun b => b ≠ p) (Ext.set fun h => h rfl) (fun b hb e => f.np (e ▸ hb)) hne, f.np, fun h => hne p h rfl⟩, e0.trans (Ext.set fun h => h.2.1 rfl), g.blk⟩

end

/-- A variable laid, and its value stored. -/
theorem box_blk {h : Heap} {zs vs : List Value} {e : TypeId} (hl : zs.length = vs.length) : Writable (h.push (.cells zs.toArray e (0, 0))) h.size 0 vs.length ∧
    Blk (setCells (h.push (.cells zs.toArray e (0, 0))) h.size 0 vs) h.size vs ∧ Ext (Al h) h (setCells (h.push (.cells zs.toArray e (0, 0))) h.size 0 vs) := by
  have hb : Blk (h.push (.cells zs.toArray e (0, 0))) h.size zs := Blk.push
  refine ⟨hb.can (by omega), ?_, Ext.pushA.trans (Ext.set fun h => Nat.lt_irrefl _ h)⟩
  have := hb.set (o := 0) (us := vs) (by omega)
  rw [List.take_zero, List.nil_append, Nat.zero_add, List.drop_of_length_le (by omega), List.append_nil] at this
  exact this

theorem box_then {h : Heap} {zs vs : List Value} {e : TypeId} {k : Nat} {Q : Nat → Heap → Prop} (hl : zs.length = vs.length) (hk : k = vs.length) (hQ : ∀ h2, Blk h2 h.size vs → Ext (Al h) h h2 → h2.size = h.size + 1 → Q h.size h2) :
    ∀ (b : Nat) (h1 : Array Obj), b = Array.size h → h1 = Array.push h (Obj.cells zs.toArray e (0, 0)) → Writable h1 b 0 k ∧ ∀ h2 : Heap, h2 = setCells h1 b 0 vs → Q b h2 := by
  rintro b h1 rfl rfl
  subst hk
  obtain ⟨h1, h2, h3⟩ := box_blk (h := h) (e := e) hl
  exact ⟨h1, fun h' hh => hh ▸ hQ _ h2 h3 (by rw [size_setCells]; simp)⟩

theorem blk_cell {h : Heap} {b : Nat} {vs : List Value} (hb : Blk h b vs) {o : Nat} {v : Value} (hv : vs[o]? = some v) : cellAt h b o = some v := by rw [hb.cell]; exact hv

section
variable {S : BS} {h : Heap} {a : Option Addr} {n c i : Nat}
theorem Sl.atImport {xs : List Import} (hl : Sl eImport S h (.slice a n c) xs) (hi : i < xs.length) : ∃ b o, a = some ⟨b, o, none⟩ ∧ S b ∧
    cellAt h b (o + i * 2) = some (.string xs[i].name) ∧ cellAt h b (o + i * 2 + 1) = some (.int .i64 xs[i].at_) := by
  obtain ⟨b, o, rfl, hb, cs, rfl, hcs⟩ := hl.at hi
  exact ⟨b, o, rfl, hb, hcs 0 (by simp), hcs 1 (by simp)⟩
theorem Sl.atVar {xs : List Var} (hl : Sl eVar S h (.slice a n c) xs) (hi : i < xs.length) : ∃ b o, a = some ⟨b, o, none⟩ ∧ S b ∧
    cellAt h b (o + i * 4) = some (.string xs[i].name) ∧ cellAt h b (o + i * 4 + 1) = some (.string xs[i].label) ∧ cellAt h b (o + i * 4 + 1 + 1) = some (.int .i64 xs[i].init) ∧
    cellAt h b (o + i * 4 + 1 + 1 + 1) = some (.int .i64 xs[i].at_) := by
  obtain ⟨b, o, rfl, hb, cs, rfl, hcs⟩ := hl.at hi
  exact ⟨b, o, rfl, hb, hcs 0 (by simp), hcs 1 (by simp), hcs 2 (by simp), hcs 3 (by simp)⟩
theorem Sl.atParam {xs : List Param} (hl : Sl eParam S h (.slice a n c) xs) (hi : i < xs.length) : ∃ b o, a = some ⟨b, o, none⟩ ∧ S b ∧
    cellAt h b (o + i * 3) = some (.string xs[i].name) ∧ cellAt h b (o + i * 3 + 1) = some (.string xs[i].label) ∧ cellAt h b (o + i * 3 + 1 + 1) = some (.int .i64 xs[i].at_) := by
  obtain ⟨b, o, rfl, hb, cs, rfl, hcs⟩ := hl.at hi
  exact ⟨b, o, rfl, hb, hcs 0 (by simp), hcs 1 (by simp), hcs 2 (by simp)⟩
theorem Sl.atDiag {xs : List Diag} (hl : Sl eDiag S h (.slice a n c) xs) (hi : i < xs.length) : ∃ b o, a = some ⟨b, o, none⟩ ∧ S b ∧
    cellAt h b (o + i * 4) = some (.string xs[i].mod) ∧ cellAt h b (o + i * 4 + 1) = some (.int .i64 xs[i].at_) ∧ cellAt h b (o + i * 4 + 1 + 1) = some (.int .i64 xs[i].code) ∧
    cellAt h b (o + i * 4 + 1 + 1 + 1) = some (.string xs[i].name) := by
  obtain ⟨b, o, rfl, hb, cs, rfl, hcs⟩ := hl.at hi
  exact ⟨b, o, rfl, hb, hcs 0 (by simp), hcs 1 (by simp), hcs 2 (by simp), hcs 3 (by simp)⟩
theorem Sl.atProc {xs : List Proc} (hl : Sl eProc S h (.slice a n c) xs) (hi : i < xs.length) : ∃ b o, a = some ⟨b, o, none⟩ ∧ S b ∧ ∃ a1 n1 c1 a2 n2 c2 a3 n3 c3,
    cellAt h b (o + i * 8) = some (.string xs[i].name) ∧ cellAt h b (o + i * 8 + 1) = some (.slice a1 n1 c1) ∧ cellAt h b (o + i * 8 + 1 + 1) = some (.bool xs[i].has) ∧
    cellAt h b (o + i * 8 + 1 + 1 + 1) = some (.string xs[i].result) ∧ cellAt h b (o + i * 8 + 1 + 1 + 1 + 1) = some (.string xs[i].pc) ∧ cellAt h b (o + i * 8 + 1 + 1 + 1 + 1 + 1) = some (.slice a2 n2 c2) ∧
    cellAt h b (o + i * 8 + 1 + 1 + 1 + 1 + 1 + 1) = some (.slice a3 n3 c3) ∧ cellAt h b (o + i * 8 + 1 + 1 + 1 + 1 + 1 + 1 + 1) = some (.int .i64 xs[i].at_) ∧
    Sl eParam S h (.slice a1 n1 c1) xs[i].params ∧ Sl eStr S h (.slice a2 n2 c2) xs[i].uses ∧ Sl eStmt S h (.slice a3 n3 c3) xs[i].body := by
  obtain ⟨b, o, rfl, hb, cs, ⟨vp, vu, vb, rfl, h1, h2, h3⟩, hcs⟩ := hl.at hi
  obtain ⟨a1, c1, rfl, _⟩ := h1.form
  obtain ⟨a2, c2, rfl, _⟩ := h2.form
  obtain ⟨a3, c3, rfl, _⟩ := h3.form
  exact ⟨b, o, rfl, hb, a1, _, c1, a2, _, c2, a3, _, c3, hcs 0 (by simp), hcs 1 (by simp), hcs 2 (by simp), hcs 3 (by simp), hcs 4 (by simp), hcs 5 (by simp), hcs 6 (by simp), hcs 7 (by simp), h1, h2, h3⟩
theorem Sl.atSig {xs : List Sig} (hl : Sl eSig S h (.slice a n c) xs) (hi : i < xs.length) : ∃ b o, a = some ⟨b, o, none⟩ ∧ S b ∧ ∃ a1 n1 c1 a2 n2 c2,
    cellAt h b (o + i * 6) = some (.string xs[i].name) ∧ cellAt h b (o + i * 6 + 1) = some (.slice a1 n1 c1) ∧ cellAt h b (o + i * 6 + 1 + 1) = some (.bool xs[i].has) ∧
    cellAt h b (o + i * 6 + 1 + 1 + 1) = some (.string xs[i].result) ∧ cellAt h b (o + i * 6 + 1 + 1 + 1 + 1) = some (.string xs[i].pc) ∧ cellAt h b (o + i * 6 + 1 + 1 + 1 + 1 + 1) = some (.slice a2 n2 c2) ∧
    Sl eStr S h (.slice a1 n1 c1) xs[i].params ∧ Sl eStr S h (.slice a2 n2 c2) xs[i].uses := by
  obtain ⟨b, o, rfl, hb, cs, ⟨vp, vu, rfl, h1, h2⟩, hcs⟩ := hl.at hi
  obtain ⟨a1, c1, rfl, _⟩ := h1.form
  obtain ⟨a2, c2, rfl, _⟩ := h2.form
  exact ⟨b, o, rfl, hb, a1, _, c1, a2, _, c2, hcs 0 (by simp), hcs 1 (by simp), hcs 2 (by simp), hcs 3 (by simp), hcs 4 (by simp), hcs 5 (by simp), h1, h2⟩
end

/-- Rows of texts look at no other block. -/
theorem Own.lessS {S T : BS} {h : Heap} {v : Value} {xs : List ByteArray} (ho : Own eStr S h v xs) (hv : ∀ b, blkOf v = some b → ¬ T b) : Own eStr T h v xs := by
  rcases ho.blkS with ho | ⟨b, c, zs, rfl, hb, hle, hc, hz⟩
  · exact .inl ho
  · exact Own.mkS (hv b rfl) hle hc hz

/-! What is wrong with names and labels. -/
def dup1 (mod : ByteArray) (ahead : List ByteArray) (name : ByteArray) (at_ : Int) : List Diag := if memB ahead name then [⟨mod, at_, 6, name⟩] else []

def dups (mod : ByteArray) : List ByteArray → List (ByteArray × Int) → List Diag
  | _, [] => []
  | ahead, (n, a) :: l => dup1 mod ahead n a ++ dups mod (ahead ++ [n]) l

theorem dups_append (mod : ByteArray) : ∀ (l r : List (ByteArray × Int)) (ahead : List ByteArray), dups mod ahead (l ++ r) = dups mod ahead l ++ dups mod (ahead ++ l.map (·.1)) r
  | [], r, ahead => by simp [dups]
  | (n, a) :: l, r, ahead => by
    rw [List.cons_append, dups, dups_append mod l r, dups, List.append_assoc]
    simp [List.append_assoc]

def unk1 (mod : ByteArray) (t : Lattice) (name : ByteArray) (at_ : Int) : List Diag := if posOf t.names name < 0 then [⟨mod, at_, 7, name⟩] else []

def twices (m : Module) : List Diag :=
  dups m.name [m.name] (m.imports.map fun i => (i.name, i.at_)) ++ (dups m.name [] (m.vars.map (fun v => (v.name, v.at_)) ++ m.procs.map fun p => (p.name, p.at_)) ++
    m.procs.flatMap fun p => dups m.name [] (p.params.map fun x => (x.name, x.at_)))

def unkP (mod : ByteArray) (t : Lattice) (p : Proc) : List Diag :=
  (p.params.flatMap fun x => unk1 mod t x.label x.at_) ++ ((if p.has then unk1 mod t p.result p.at_ else []) ++ unk1 mod t p.pc p.at_)

def unknowns (m : Module) (t : Lattice) : List Diag := (m.vars.flatMap fun v => unk1 m.name t v.label v.at_) ++ m.procs.flatMap (unkP m.name t)

def wrongs (m : Module) (t : Lattice) : List Diag := twices m ++ unknowns m t

theorem dup1_len (mod : ByteArray) (ahead : List ByteArray) (name : ByteArray) (at_ : Int) : (dup1 mod ahead name at_).length ≤ 1 := by
  unfold dup1; split <;> simp
theorem dups_len (mod : ByteArray) : ∀ (l : List (ByteArray × Int)) (ahead : List ByteArray), (dups mod ahead l).length ≤ l.length
  | [], _ => Nat.zero_le _
  | (n, a) :: l, ahead => by
    have := dups_len mod l (ahead ++ [n])
    have := dup1_len mod ahead n a
    simp only [dups, List.length_append, List.length_cons]; omega
theorem unk1_len (mod : ByteArray) (t : Lattice) (name : ByteArray) (at_ : Int) : (unk1 mod t name at_).length ≤ 1 := by
  unfold unk1; split <;> simp

/-- One more name behind those that were looked at. -/
theorem dups_take {α : Type} (mod : ByteArray) (ahead : List ByteArray) (f : α → ByteArray × Int) (xs : List α) (i : Nat) (hi : i < xs.length) :
    dups mod ahead ((xs.take (i + 1)).map f) = dups mod ahead ((xs.take i).map f) ++ dup1 mod (ahead ++ (xs.take i).map fun x => (f x).1) (f xs[i]).1 (f xs[i]).2 := by
  rw [List.take_succ_eq_append_getElem hi, List.map_append, dups_append, List.map_map]
  simp [dups, Function.comp_def]

theorem map_take_succ {α β : Type} (f : α → β) (xs : List α) (i : Nat) (hi : i < xs.length) : (xs.take (i + 1)).map f = (xs.take i).map f ++ [f xs[i]] := by
  rw [List.take_succ_eq_append_getElem hi, List.map_append]; rfl

theorem flatMap_take_succ {α β : Type} (f : α → List β) (xs : List α) (i : Nat) (hi : i < xs.length) : (xs.take (i + 1)).flatMap f = (xs.take i).flatMap f ++ f xs[i] := by
  rw [List.take_succ_eq_append_getElem hi, List.flatMap_append]; simp

theorem flatMap_len {α β : Type} (f : α → List β) (n : Nat) : ∀ (xs : List α), (∀ x ∈ xs, (f x).length ≤ n) → (xs.flatMap f).length ≤ xs.length * n
  | [], _ => by simp
  | x :: xs, h => by
    have := flatMap_len f n xs (fun y hy => h y (by simp [hy]))
    have := h x (by simp)
    rw [List.flatMap_cons, List.length_append, List.length_cons, Nat.succ_mul]; omega

theorem Own.less {α : Type} {E : Enc α} {S T : BS} {h : Heap} {v : Value} {xs : List α} (ho : Own E S h v xs) (hT : ∀ b, T b → S b) (hr : ∀ css, Reps E S h css xs → Reps E T h css xs) : Own E T h v xs := by
  rcases ho with ho | ⟨b, c, css, zs, rfl, hb, hle, hc, h1, hz⟩
  · exact .inl ho
  · exact .inr ⟨b, c, css, zs, rfl, fun h => hb (hT b h), hle, hc, hr css h1, hz⟩

theorem repsDiag {S T : BS} {h : Heap} : ∀ {css : List (List Value)} {xs : List Diag}, Reps eDiag S h css xs → Reps eDiag T h css xs
  | [], [], _ => trivial
  | _ :: _, _ :: _, hr => ⟨hr.1, repsDiag hr.2⟩
  | [], _ :: _, hr => by cases hr
  | _ :: _, [], hr => by cases hr

/-! A struct one of whose fields is a row of its own. -/
structure RSt {α : Type} (E : Enc α) (S : BS) (h : Heap) (p : Nat) (pre : List Value) (l : Value) (post : List Value) (xs : List α) : Prop where
  blk : Blk h p (pre ++ l :: post)
  own : Own E S h l xs
  np : ¬ S p
  nl : blkOf l ≠ some p

section
variable {α : Type} {E : Enc α} {S : BS} {h h' : Heap} {p : Nat} {pre post : List Value} {l : Value} {xs : List α}

theorem RSt.form (f : RSt E S h p pre l post xs) : ∃ a c, l = .slice a xs.length c := by
  obtain ⟨a, c, rfl, _⟩ := f.own.form; exact ⟨a, c, rfl⟩

theorem RSt.ext (f : RSt E S h p pre l post xs) (e : Ext (FS S p l) h h') : RSt E S h' p pre l post xs :=
  ⟨f.blk.ext e (.inr (.inl rfl)), f.own.ext e (fun _ hb => .inl hb) fun _ hb => .inr (.inr hb), f.np, f.nl⟩

theorem RSt.lt (f : RSt E S h p pre l post xs) (hS : ∀ b, S b → b < h.size) : ∀ b, FS S p l b → b < h.size := by
  rintro b (hb | rfl | hb)
  · exact hS b hb
  · exact f.blk.lt
  · exact (f.own.fresh hb).2

theorem RSt.extA (f : RSt E S h p pre l post xs) (hS : ∀ b, S b → b < h.size) (e : Ext (Al h) h h') : RSt E S h' p pre l post xs := f.ext (e.mono (f.lt hS))

theorem RSt.told {xs' : List α} {h1 : Heap} {l' : Value} (f : RSt E S h p pre l post xs)
    (g : Grown E S h l h1 l' xs') : Writable h1 p pre.length 1 ∧ RSt E S (setCells h1 p pre.length [l']) p pre l' post xs' ∧
      Ext (fun b => b < h.size ∧ b ≠ p ∧ blkOf l ≠ some b) h (setCells h1 p pre.length [l']) ∧ ∀ b, blkOf l' = some b → blkOf l = some b ∨ h.size ≤ b := by
  have hp := f.blk.lt
  have ep : Ext (fun b => b = p) h h1 := g.ext _ (fun b e => e ▸ hp) fun b h1 e => f.nl (e ▸ h1)
  have e0 : Ext (fun b => b < h.size ∧ b ≠ p ∧ blkOf l ≠ some b) h h1 := g.ext _ (fun _ h => h.1) fun b h1 h2 => h2.2.2 h1
  have hb1 := f.blk.ext ep rfl
  have hset := hb1.set (o := pre.length) (us := [l']) (by simp)
  rw [List.take_left, show pre.length + [l'].length = pre.length + 1 from rfl, List.drop_length_add_append, List.append_assoc] at hset
  have hne : ∀ b, blkOf l' = some b → b ≠ p := by
    rintro b hb rfl
    rcases g.blk b hb with h1 | h1
    · exact f.nl h1
    · omega
  refine ⟨hb1.can (by simp), ⟨hset, g.own.ext (T := fun b => b ≠ p) (Ext.set fun h => h rfl) (fun b hb e => f.np (e ▸ hb)) hne, f.np, fun h => hne p h rfl⟩, e0.trans (Ext.set fun h => h.2.1 rfl), g.blk⟩

end

/-! By names. -/
def leN {α : Type} (nm : α → ByteArray) (x y : α) : Bool := decide (key (nm x) ≤ key (nm y))
def sortN {α : Type} (nm : α → ByteArray) (xs : List α) : List α := xs.mergeSort (leN nm)

theorem sorted_ext {α : Type} (nm : α → ByteArray) : ∀ {xs ys : List α}, xs.Pairwise (fun x y => key (nm x) < key (nm y)) → ys.Pairwise (fun x y => key (nm x) < key (nm y)) → (∀ s, s ∈ xs ↔ s ∈ ys) → xs = ys
  | [], [], _, _, _ => rfl
  | [], y :: ys, _, _, h => by have := (h y).2 (by simp); simp at this
  | x :: xs, [], _, _, h => by have := (h x).1 (by simp); simp at this
  | x :: xs, y :: ys, hx, hy, h => by
    have hx := List.pairwise_cons.1 hx
    have hy := List.pairwise_cons.1 hy
    have e : x = y := by
      have h1 := (h x).1 (by simp)
      have h2 := (h y).2 (by simp)
      rcases List.mem_cons.1 h1 with h1 | h1
      · exact h1
      rcases List.mem_cons.1 h2 with h2 | h2
      · exact h2.symm
      exact absurd (hx.1 y h2) (List.lt_asymm (hy.1 x h1))
    subst e
    congr 1
    refine sorted_ext nm hx.2 hy.2 fun s => ?_
    constructor
    · intro hs
      rcases List.mem_cons.1 ((h s).1 (by simp [hs])) with rfl | h1
      · exact absurd (hx.1 s hs) (List.lt_irrefl _)
      · exact h1
    · intro hs
      rcases List.mem_cons.1 ((h s).2 (by simp [hs])) with rfl | h1
      · exact absurd (hy.1 s hs) (List.lt_irrefl _)
      · exact h1

/-- No two of one name. -/
def NoTwins {α : Type} (nm : α → ByteArray) (xs : List α) : Prop := xs.Pairwise fun x y => nm x ≠ nm y

theorem strict_of {α : Type} {nm : α → ByteArray} {xs : List α} (h1 : xs.Pairwise fun x y => key (nm x) ≤ key (nm y)) (h2 : NoTwins nm xs) : xs.Pairwise fun x y => key (nm x) < key (nm y) :=
  (h1.and h2).imp fun {x y} h => by
    rcases lt_tri (key (nm x)) (key (nm y)) with h3 | h3 | h3
    · exact h3
    · exact absurd (key_inj h3) h.2
    · exact absurd h3 (List.not_lt.2 h.1)

theorem NoTwins.perm {α : Type} {nm : α → ByteArray} {xs ys : List α} (h : NoTwins nm xs) (hp : xs.Perm ys) : NoTwins nm ys :=
  hp.pairwise h fun h => Ne.symm h

theorem sortN_sorted {α : Type} (nm : α → ByteArray) (xs : List α) : (sortN nm xs).Pairwise fun x y => key (nm x) ≤ key (nm y) := by
  have := List.pairwise_mergeSort (le := leN nm) (fun a b c h1 h2 => by
    simp only [leN, decide_eq_true_eq] at *
    exact List.le_trans h1 h2) (fun a b => by
    simp only [leN, Bool.or_eq_true, decide_eq_true_eq]
    exact List.le_total ..) xs
  exact this.imp fun h => by simpa [leN] using h

theorem sortN_perm {α : Type} (nm : α → ByteArray) (xs : List α) : (sortN nm xs).Perm xs := List.mergeSort_perm xs _

/-- What is permuted, and in order, is as sorted. -/
theorem sortN_eq {α : Type} {nm : α → ByteArray} {xs ys : List α} (hn : NoTwins nm xs) (hp : ys.Perm xs) (hs : ys.Pairwise fun x y => ¬ key (nm y) < key (nm x)) : ys = sortN nm xs := by
  refine sorted_ext nm (strict_of (hs.imp fun h => List.not_lt.1 h) (hn.perm hp.symm)) (strict_of (sortN_sorted nm xs) (hn.perm (sortN_perm nm xs).symm)) fun s => ?_
  rw [hp.mem_iff, (sortN_perm nm xs).mem_iff]

theorem memB_false {xs : List ByteArray} {s : ByteArray} : memB xs s = false ↔ s ∉ xs := by rw [← Bool.not_eq_true, memB_iff]

theorem dups_nil {mod : ByteArray} : ∀ {l : List (ByteArray × Int)} {ahead : List ByteArray}, dups mod ahead l = [] → (l.map (·.1)).Pairwise (· ≠ ·) ∧ ∀ x ∈ l.map (·.1), x ∉ ahead
  | [], _, _ => by simp
  | (n, a) :: l, ahead, h => by
    rw [dups, List.append_eq_nil_iff] at h
    obtain ⟨h1, h2⟩ := dups_nil h.2
    have h3 : n ∉ ahead := by
      have := h.1
      unfold dup1 at this
      split at this
      · cases this
      · rename_i h; exact memB_false.1 (by simpa using h)
    refine ⟨List.pairwise_cons.2 ⟨fun x hx e => h2 x hx (by have e : n = x := e; rw [e]; simp), h1⟩, fun x hx => ?_⟩
    rcases List.mem_cons.1 hx with rfl | hx
    · exact h3
    · exact fun h4 => h2 x hx (by simp [h4])

def sigOf (p : Proc) : Sig := ⟨p.name, p.params.map (·.label), p.has, p.result, p.pc, rise p.uses⟩

def faceOf (m : Module) : Face := ⟨sortN Var.name (m.vars.map fun v => ⟨v.name, v.label, 0, 0⟩), sortN Sig.name (m.procs.map sigOf)⟩

theorem noTwins_of {m : Module} (h : twices m = []) : NoTwins Var.name (m.vars.map fun v => (⟨v.name, v.label, 0, 0⟩ : Var)) ∧ NoTwins Sig.name (m.procs.map sigOf) := by
  unfold twices at h
  simp only [List.append_eq_nil_iff] at h
  have := (dups_nil h.2.1).1
  rw [List.map_append, List.pairwise_append] at this
  constructor
  · unfold NoTwins
    rw [List.pairwise_map]
    have h1 := this.1
    rw [List.map_map, List.pairwise_map] at h1
    exact h1
  · unfold NoTwins
    rw [List.pairwise_map]
    have h1 := this.2.1
    rw [List.map_map, List.pairwise_map] at h1
    exact h1

end Go.Vx
