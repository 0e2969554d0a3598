/- The walk by verification conditions: what each operation asks. No condition. -/
import Derived.Test.YtdnlhicbjhgjiaaGreatDoorVx0
import Derived.Scope
namespace Go.Vx
open Go.RowKit

/-! Calls over heaps -/
def fnOK (P : Program) (f : FuncId) : Bool :=
  match P.funcs[f]? with
  | some fn => fn.body.isSome && !(fn.name == "runtime.NumGoroutine")
  | none => false

def CallH (P : Program) (f : FuncId) (args : List Value) (h : Heap) (R : Ending → Heap → Prop) : Prop :=
  fnOK P f = true ∧ ∀ w : World, w.heap = h → Calls P f args.toArray w fun e w' => Below 0 w w' ∧ R e w'.heap

theorem CallH.mono {P f args h} {R R' : Ending → Heap → Prop} (hc : CallH P f args h R) (hr : ∀ e h', R e h' → R' e h') : CallH P f args h R' :=
  ⟨hc.1, fun w hw => (hc.2 w hw).mono fun e _ ⟨hb, hR⟩ => ⟨hb, hr e _ hR⟩⟩

/-- A call: what holds behind its return, and behind its panic. -/
structure CallK (P : Program) (f : FuncId) (args : List Value) (h : Heap) (K : Value → Heap → Prop) (X : List PanicEntry → Heap → Prop) : Prop where
  call : CallH P f args h fun e h' => match e with
    | .returned v => K v h'
    | .panicked ch => X ch h'
    | .outgrown => False

theorem CallK.mono {P f args h K X} {K' : Value → Heap → Prop} {X' : List PanicEntry → Heap → Prop} (hc : CallK P f args h K X)
    (hK : ∀ v h', K v h' → K' v h') (hX : ∀ ch h', X ch h' → X' ch h') : CallK P f args h K' X' :=
  ⟨hc.call.mono fun e h' he => by cases e with
    | returned v => exact hK _ _ he
    | panicked ch => exact hX _ _ he
    | outgrown => exact he⟩

/-! Registers -/
def rgetK : Regs → Nat → (Value → Prop) → Prop
  | [], _, _ => False
  | (i, v) :: r, t, k => bif i == t then k v else rgetK r t k

def rget : Regs → Nat → Option Value
  | [], _ => none
  | (i, v) :: r, t => if i = t then some v else rget r t

theorem rgetK_iff {r : Regs} {t : Nat} {k : Value → Prop} : rgetK r t k ↔ ∃ v, rget r t = some v ∧ k v := by
  induction r with
  | nil => simp [rgetK, rget]
  | cons x r ih =>
    obtain ⟨i, v⟩ := x
    by_cases h : i = t
    · simp [rgetK, rget, h]
    · have : (i == t) = false := by simp [h]
      simp [rgetK, rget, h, this, ih]

/-- The registers that are kept, in order. -/
def rprune (r : Regs) : List Nat → Regs
  | [] => []
  | t :: l => match rget r t with
    | some v => (t, v) :: rprune r l
    | none => rprune r l

theorem rprune_get {r : Regs} : ∀ {l : List Nat} {t : Nat} {v : Value}, rget (rprune r l) t = some v → rget r t = some v
  | [], t, v, h => by simp [rprune, rget] at h
  | x :: l, t, v, h => by
    unfold rprune at h
    split at h
    · rename_i u hu
      simp only [rget] at h
      split at h
      · rename_i e; subst e; rw [hu]; exact h
      · exact rprune_get h
    · exact rprune_get h

def rput : Option Nat → Value → Regs → Regs
  | some d, v, r => (d, v) :: r
  | none, _, r => r

def ev (r : Regs) (x : Operand) (k : Value → Prop) : Prop :=
  match x with
  | .tmp t => rgetK r t k
  | .const v => k v
  | .global g => k (.pointer (some ⟨g, 0, none⟩))
  | .func f => k (.func (.func f) #[] #[])

def evs (r : Regs) : List Operand → (List Value → Prop) → Prop
  | [], k => k []
  | x :: xs, k => ev r x fun v => evs r xs fun vs => k (v :: vs)

/-- The registers' reading of a state. -/
structure Sub (n : Nat) (a : Act) (r : Regs) : Prop where
  size : a.tmps.size = n
  defers : a.defers = []
  get : ∀ t v, rget r t = some v → a.tmps[t]? = some v

theorem Sub.eval {n a r} (h : Sub n a r) {x : Operand} {k : Value → Prop} (he : ev r x k) : k (a.eval x) := by
  cases x with
  | tmp t =>
    obtain ⟨v, hv, hk⟩ := rgetK_iff.1 he
    have := h.get t v hv
    simpa [Act.eval, Array.getD_eq_getD_getElem?, this] using hk
  | const v => exact he
  | global g => exact he
  | func f => exact he

theorem Sub.evals {n a r} (h : Sub n a r) : ∀ {xs : List Operand} {k : List Value → Prop}, evs r xs k → k (xs.map a.eval)
  | [], _, he => he
  | _ :: xs, _, he => Sub.evals h (xs := xs) (h.eval he)

theorem Sub.put {n a r} (h : Sub n a r) {d : Option Nat} {v : Value} (hd : ∀ t, d = some t → t < n) : Sub n (a.put d v) (rput d v r) := by
  cases d with
  | none => exact h
  | some d =>
    have hd' := hd d rfl
    refine ⟨by simp [Act.put, h.size], h.defers, fun t u ht => ?_⟩
    simp only [rput, rget] at ht
    simp only [Act.put, Array.getElem?_setIfInBounds]
    split at ht
    · rename_i e; subst e
      have : d < a.tmps.size := by rw [h.size]; exact hd'
      simp [this] at ht ⊢; exact ht
    · rename_i e; rw [if_neg e]; exact h.get t u ht

theorem Sub.set {n a r} (h : Sub n a r) {t : Nat} {v u : Value} (hv : rget r t = some v) (he : v = u) : Sub n a ((t, u) :: r) := by
  subst he
  refine ⟨h.size, h.defers, fun t' u' ht => ?_⟩
  simp only [rget] at ht
  split at ht
  · rename_i e; subst e; simp at ht; subst ht; exact h.get _ _ hv
  · exact h.get _ _ ht

/-! Values of a type -/
def genC : CK → (Value → Prop) → Prop
  | .bool, K => ∃ x, K (.bool x)
  | .int k, K => ∃ x, K (.int k x)
  | .str, K => ∃ x, K (.string x)
  | .ptr, K => ∃ x, K (.pointer x)
  | .slice, K => ∃ a n c, K (.slice a n c)
  | .map, K => ∃ x, K (.map x)
  | .iface, K => K .nilIface ∨ ∃ t v, K (.iface t v)
  | .any, K => ∃ v, K v

def genCs : List CK → (List Value → Prop) → Prop
  | [], K => K []
  | c :: cs, K => genC c fun v => genCs cs fun vs => K (v :: vs)

inductive Sh where
  | cell (c : CK)
  | agg (cs : List CK)

def genS : Sh → (Value → Prop) → Prop
  | .cell c, K => genC c K
  | .agg cs, K => genCs cs fun vs => K (.agg vs.toArray)

def genSs : List Sh → (List Value → Prop) → Prop
  | [], K => K []
  | c :: cs, K => genS c fun v => genSs cs fun vs => K (v :: vs)

theorem genC_out {c : CK} {K : Value → Prop} (h : genC c K) : ∃ v, K v := by
  cases c with
  | slice => obtain ⟨a, n, c, h⟩ := h; exact ⟨_, h⟩
  | bool => obtain ⟨x, h⟩ := h; exact ⟨_, h⟩
  | int k => obtain ⟨x, h⟩ := h; exact ⟨_, h⟩
  | str => obtain ⟨x, h⟩ := h; exact ⟨_, h⟩
  | ptr => obtain ⟨x, h⟩ := h; exact ⟨_, h⟩
  | map => obtain ⟨x, h⟩ := h; exact ⟨_, h⟩
  | iface =>
    rcases h with h | ⟨t, v, h⟩
    · exact ⟨_, h⟩
    · exact ⟨_, h⟩
  | any => obtain ⟨x, h⟩ := h; exact ⟨_, h⟩
theorem genCs_out : ∀ {cs : List CK} {K : List Value → Prop}, genCs cs K → ∃ v, K v
  | [], _, h => ⟨_, h⟩
  | _ :: _, _, h => by
    obtain ⟨v, h⟩ := genC_out h
    obtain ⟨vs, h⟩ := genCs_out h
    exact ⟨_, h⟩
theorem genS_out {s : Sh} {K : Value → Prop} (h : genS s K) : ∃ v, K v := by
  cases s with
  | cell c => exact genC_out h
  | agg cs => obtain ⟨vs, h⟩ := genCs_out h; exact ⟨_, h⟩
theorem genSs_out : ∀ {cs : List Sh} {K : List Value → Prop}, genSs cs K → ∃ v, K v
  | [], _, h => ⟨_, h⟩
  | _ :: _, _, h => by
    obtain ⟨v, h⟩ := genS_out h
    obtain ⟨vs, h⟩ := genSs_out h
    exact ⟨_, h⟩

def shOf (P : Program) (t : TypeId) : Sh :=
  match tiOf P t with
  | some ti => bif ti.agg then .agg ti.cks else match ti.cks with | [c] => .cell c | _ => .cell .any
  | none => .cell .any

def genR (P : Program) (t : TypeId) (K : Value → Prop) : Prop :=
  match P.underlying t with
  | some (.tuple ts) => genSs (ts.toList.map (shOf P)) fun vs => K (.tuple vs.toArray)
  | _ => genS (shOf P t) K

/-- A result of a type. -/
def resIs (P : Program) (t : TypeId) (v : Value) (K : Value → Prop) : Prop := genR P t fun u => v = u ∧ K u

theorem resIs_out {P : Program} {t : TypeId} {v : Value} {K : Value → Prop} (h : resIs P t v K) : K v := by
  have : ∃ u, v = u ∧ K u := by
    unfold resIs genR at h
    split at h
    · obtain ⟨vs, h⟩ := genSs_out h; exact ⟨_, h⟩
    · exact genS_out h
  obtain ⟨u, rfl, h⟩ := this
  exact h

def ldc (c : CK) (h : Heap) (b o : Nat) (K : Value → Prop) : Prop :=
  match c with
  | .bool => ∃ x, cellAt h b o = some (.bool x) ∧ K (.bool x)
  | .int k => ∃ x, cellAt h b o = some (.int k x) ∧ K (.int k x)
  | .str => ∃ x, cellAt h b o = some (.string x) ∧ K (.string x)
  | .ptr => ∃ x, cellAt h b o = some (.pointer x) ∧ K (.pointer x)
  | .slice => ∃ a n c, cellAt h b o = some (.slice a n c) ∧ K (.slice a n c)
  | .map => ∃ x, cellAt h b o = some (.map x) ∧ K (.map x)
  | .iface => (cellAt h b o = some .nilIface ∧ K .nilIface) ∨ ∃ t v, cellAt h b o = some (.iface t v) ∧ K (.iface t v)
  | .any => ∃ x, cellAt h b o = some x ∧ K x

theorem ldc_out {c h b o} {K : Value → Prop} (hh : ldc c h b o K) : ∃ v, cellAt h b o = some v ∧ K v := by
  cases c with
  | slice => obtain ⟨a, n, c, h1, h2⟩ := hh; exact ⟨_, h1, h2⟩
  | bool => obtain ⟨x, h1, h2⟩ := hh; exact ⟨_, h1, h2⟩
  | int k => obtain ⟨x, h1, h2⟩ := hh; exact ⟨_, h1, h2⟩
  | str => obtain ⟨x, h1, h2⟩ := hh; exact ⟨_, h1, h2⟩
  | ptr => obtain ⟨x, h1, h2⟩ := hh; exact ⟨_, h1, h2⟩
  | map => obtain ⟨x, h1, h2⟩ := hh; exact ⟨_, h1, h2⟩
  | iface =>
    rcases hh with ⟨h1, h2⟩ | ⟨t, v, h1, h2⟩
    · exact ⟨_, h1, h2⟩
    · exact ⟨_, h1, h2⟩
  | any => exact hh

def ldcs (h : Heap) (b : Nat) : List CK → Nat → (List Value → Prop) → Prop
  | [], _, k => k []
  | c :: cs, o, k => ldc c h b o fun v => ldcs h b cs (o + 1) fun vs => k (v :: vs)

/-- Two ways. -/
def iteB (c : Bool) (p q : Prop) : Prop :=
  match c with
  | true => p
  | false => q

theorem iteB_in {c : Bool} {p q : Prop} (h1 : c = true → p) (h2 : c = false → q) : iteB c p q := by
  cases c with
  | true => exact h1 rfl
  | false => exact h2 rfl

theorem iteB_out {c : Bool} {p q : Prop} (h : iteB c p q) : (c = true → p) ∧ (c = false → q) := by
  cases c with
  | true => exact ⟨fun _ => h, by simp⟩
  | false => exact ⟨by simp, fun _ => h⟩

/-- What is reckoned at once. -/
def chk (b : Bool) (p : Prop) : Prop :=
  match b with
  | true => p
  | false => False

theorem chk_out {b : Bool} {p : Prop} (h : chk b p) : b = true ∧ p := by
  cases b with
  | true => exact ⟨rfl, h⟩
  | false => cases h

/-- 'x' is 'y' brought into the kind's range. -/
structure Wr (k : IntKind) (y x : Int) : Prop where
  eq : x = k.wrap y

def strEq (x y : ByteArray) : Bool := x.toList == y.toList
def strLt (x y : ByteArray) : Bool := Op.bytesLess x.toList y.toList

/-- Operations on two values. -/
def vcBin (op : BinOp) (x y : Value) (K : Value → Prop) : Prop :=
  match op, x, y with
  | .add, .int k a, .int k' b => chk (decide (k = k')) <| ∃ n, Wr k (a + b) n ∧ K (.int k n)
  | .sub, .int k a, .int k' b => chk (decide (k = k')) <| ∃ n, Wr k (a - b) n ∧ K (.int k n)
  | .mul, .int k a, .int k' b => chk (decide (k = k')) <| ∃ n, Wr k (a * b) n ∧ K (.int k n)
  | .quo, .int k a, .int k' b => chk (decide (k = k')) <| b ≠ 0 ∧ ∃ n, Wr k (a.tdiv b) n ∧ K (.int k n)
  | .rem, .int k a, .int k' b => chk (decide (k = k')) <| b ≠ 0 ∧ K (.int k (a.tmod b))
  | .eql, .int k a, .int k' b => chk (decide (k = k')) <| K (.bool (a == b))
  | .neq, .int k a, .int k' b => chk (decide (k = k')) <| K (.bool (a != b))
  | .lss, .int k a, .int k' b => chk (decide (k = k')) <| K (.bool (decide (a < b)))
  | .leq, .int k a, .int k' b => chk (decide (k = k')) <| K (.bool (decide (a ≤ b)))
  | .gtr, .int k a, .int k' b => chk (decide (k = k')) <| K (.bool (decide (a > b)))
  | .geq, .int k a, .int k' b => chk (decide (k = k')) <| K (.bool (decide (a ≥ b)))
  | .shl, .int k a, .int _ b => 0 ≤ b ∧ ∃ n, Wr k (a * 2 ^ (min b.toNat k.bits)) n ∧ K (.int k n)
  | .shr, .int k a, .int _ b => 0 ≤ b ∧ K (.int k (a.fdiv (2 ^ (min b.toNat k.bits))))
  | .and, .int k a, .int k' b => chk (decide (k = k')) <| ∃ n, Wr k (((a % 2 ^ k.bits).toNat &&& (b % 2 ^ k.bits).toNat : Nat) : Int) n ∧ K (.int k n)
  | .or, .int k a, .int k' b => chk (decide (k = k')) <| ∃ n, Wr k (((a % 2 ^ k.bits).toNat ||| (b % 2 ^ k.bits).toNat : Nat) : Int) n ∧ K (.int k n)
  | .xor, .int k a, .int k' b => chk (decide (k = k')) <| ∃ n, Wr k (((a % 2 ^ k.bits).toNat ^^^ (b % 2 ^ k.bits).toNat : Nat) : Int) n ∧ K (.int k n)
  | .add, .string a, .string b => ((a.size + b.size : Nat) : Int) ≤ 9223372036854775807 ∧ K (.string (a ++ b))
  | .eql, .string a, .string b => K (.bool (strEq a b))
  | .neq, .string a, .string b => K (.bool (!strEq a b))
  | .lss, .string a, .string b => K (.bool (strLt a b))
  | .leq, .string a, .string b => K (.bool (strLt a b || strEq a b))
  | .gtr, .string a, .string b => K (.bool (!(strLt a b || strEq a b)))
  | .geq, .string a, .string b => K (.bool (!strLt a b))
  | _, _, _ => False

def isScal : Value → Bool
  | .int _ _ => true
  | .string _ => true
  | _ => false

/-- '==' where one side is nil, by the kind of the type. -/
def vcNil (kd : Kd) (x y : Value) (K : Bool → Prop) : Prop :=
  match kd, x, y with
  | .ptr, .pointer a, .pointer none => K a.isNone
  | .ptr, .pointer none, .pointer (some _) => K false
  | .slice, .slice a _ _, .slice none _ _ => K a.isNone
  | .map, .map a, .map none => K a.isNone
  | .func, .func _ _ _, .nilFunc => K false
  | .func, .nilFunc, .nilFunc => K true
  | .iface, .iface _ _, .nilIface => K false
  | .iface, .nilIface, .nilIface => K true
  | .bool, .bool a, .bool b => K (a == b)
  | _, _, _ => False

/-- The cells of a row that is read. -/
def RdCells (h : Heap) (a : Option Addr) (k : Nat) (xs : List Value) : Prop :=
  xs.length = k ∧ match a with
    | none => k = 0
    | some a => a.spot = none ∧ ∀ j v, xs[j]? = some v → cellAt h a.block (a.off + j) = some v

/-- All cells may stand alone. -/
def onesK : List Value → Prop → Prop
  | [], p => p
  | v :: vs, p => chk v.oneCell' (onesK vs p)

theorem onesK_out : ∀ {vs : List Value} {p : Prop}, onesK vs p → (∀ c ∈ vs, c.oneCell' = true) ∧ p
  | [], _, h => ⟨by simp, h⟩
  | v :: vs, p, h => by
    obtain ⟨h1, h2⟩ := chk_out h
    obtain ⟨h3, h4⟩ := onesK_out h2
    exact ⟨by simpa using ⟨h1, h3⟩, h4⟩

def zerosOf (z : List Value) (n : Nat) : List Value := (List.replicate n z).flatten

def setCells (h : Heap) (b o : Nat) : List Value → Heap
  | [] => h
  | v :: vs => setCells (setAt h b o v) b (o + 1) vs

structure Writable (h : Heap) (b o k : Nat) : Prop where
  at_ : ∀ j, j < k → (∃ v, cellAt h b (o + j) = some v) ∧ frozenAt h b (o + j) = false

/-- The cells ahead of an element. -/
def mulE (j e : Nat) : Nat := bif Nat.beq e 1 then j else j * e
theorem mulE_eq (j e : Nat) : mulE j e = j * e := by
  unfold mulE
  cases h : Nat.beq e 1 with
  | true => have := Nat.eq_of_beq_eq_true h; subst this; simp
  | false => rfl
def spotless : Option Addr → Prop
  | none => True
  | some x => x.spot = none

/-- Where a slice of a slice begins. -/
structure SubA (a : Option Addr) (e l m : Nat) (a' : Option Addr) : Prop where
  nil : a = none → a' = none
  at_ : ∀ b o, a = some ⟨b, o, none⟩ → ∃ o', a' = some ⟨b, o', none⟩ ∧ (m = l → o' = o) ∧ (m ≠ l → o' = o + mulE l e)

/-- What is appended: cells and their count. -/
def vcAppend (elem esize ebytes : Nat) (ezero : List Value) (sv xv : Value) (h : Heap) (K : Option Addr → Nat → Nat → Heap → Prop) : Prop :=
  ∃ sa n c m xs, sv = .slice sa n c ∧
    ((∃ xa c', xv = .slice xa m c' ∧ RdCells h xa (m * esize) xs) ∨
     (∃ s : ByteArray, xv = .string s ∧ m = s.size ∧ esize = 1 ∧ xs = s.data.toList.map fun b => .int .u8 b.toNat)) ∧
    (∀ v ∈ xs, v.oneCell' = true) ∧ ((n + m) * ebytes ≤ 140737488355328 ∧ n + m ≤ 9223372036854775807) ∧
    (n + m ≤ c → (sa = none ∧ xs = [] ∧ K none (n + m) c h) ∨
      ∃ b o, sa = some ⟨b, o, none⟩ ∧ Writable h b (o + n * esize) xs.length ∧ K (some ⟨b, o, none⟩) (n + m) c (setCells h b (o + n * esize) xs)) ∧
    (c < n + m → ∃ old, RdCells h sa (n * esize) old ∧
      ∀ cap, n + m ≤ cap → K (some ⟨h.size, 0, none⟩) (n + m) cap (h.push (.cells (old ++ xs ++ zerosOf ezero (cap - (n + m))).toArray elem (0, 0))))

structure AppK (elem esize ebytes : Nat) (ezero : List Value) (sv xv : Value) (h : Heap) (K : Option Addr → Nat → Nat → Heap → Prop) : Prop where
  out : vcAppend elem esize ebytes ezero sv xv h K

/-- Zeros that are appended. -/
def vcAppZ (elem esize ebytes : Nat) (ezero : List Value) (sv : Value) (q : Int) (h : Heap) (K : Option Addr → Nat → Nat → Heap → Prop) : Prop :=
  ∃ sa n c, ∃ m : Nat, sv = .slice sa n c ∧ q = m ∧ ((n + m) * ebytes ≤ 140737488355328 ∧ n + m ≤ 9223372036854775807) ∧
    (∀ v ∈ ezero, v.oneCell' = true) ∧
    (n + m ≤ c → (sa = none ∧ m = 0 ∧ K none (n + m) c h) ∨
      ∃ b o, sa = some ⟨b, o, none⟩ ∧ Writable h b (o + n * esize) (m * esize) ∧ K (some ⟨b, o, none⟩) (n + m) c (setCells h b (o + n * esize) (zerosOf ezero m))) ∧
    (c < n + m → ∃ old, RdCells h sa (n * esize) old ∧
      ∀ cap, n + m ≤ cap → K (some ⟨h.size, 0, none⟩) (n + m) cap (h.push (.cells (old ++ zerosOf ezero m ++ zerosOf ezero (cap - (n + m))).toArray elem (0, 0))))

structure AppZ (elem esize ebytes : Nat) (ezero : List Value) (sv : Value) (q : Int) (h : Heap) (K : Option Addr → Nat → Nat → Heap → Prop) : Prop where
  out : vcAppZ elem esize ebytes ezero sv q h K

/-- A slice that is made. -/
structure MkK (elem esize ebytes : Nat) (ezero : List Value) (l c : Int) (h : Heap) (K : Option Addr → Nat → Nat → Heap → Prop) : Prop where
  out : ∃ n m : Nat, l = n ∧ c = m ∧ n ≤ m ∧ m ≤ 9223372036854775807 ∧ m * ebytes ≤ 140737488355328 ∧ K (some ⟨h.size, 0, none⟩) n m (h.push (.cells (zerosOf ezero m).toArray elem (0, 0)))

def strCells (s : ByteArray) : List Value := s.data.toList.map fun b => .int .u8 b.toNat

def tiK (P : Program) (t : TypeId) (k : TI → Prop) : Prop := match tiOf P t with | some ti => k ti | none => False

def vcells (v : Value) : List Value := v.cells.toList
theorem vcells_bool (x : Bool) : vcells (.bool x) = [.bool x] := rfl
theorem vcells_int (k : IntKind) (x : Int) : vcells (.int k x) = [.int k x] := rfl
theorem vcells_str (x : ByteArray) : vcells (.string x) = [.string x] := rfl
theorem vcells_ptr (x : Option Addr) : vcells (.pointer x) = [.pointer x] := rfl
theorem vcells_slice (x : Option Addr) (n c : Nat) : vcells (.slice x n c) = [.slice x n c] := rfl
theorem vcells_map (x : Option Nat) : vcells (.map x) = [.map x] := rfl
theorem vcells_func (f : Fn) (a b : Array Value) : vcells (.func f a b) = [.func f a b] := rfl
theorem vcells_nilFunc : vcells .nilFunc = [.nilFunc] := rfl
theorem vcells_iface (t : TypeId) (v : Value) : vcells (.iface t v) = [.iface t v] := rfl
theorem vcells_nilIface : vcells .nilIface = [.nilIface] := rfl
theorem vcells_agg (x : Array Value) : vcells (.agg x) = x.toList := rfl

/-- The places of the parts of a struct. -/
def fillL (fields : List (Nat × Nat × Bool)) (cells : List Value) : List (Nat × Value) → Option (List Value)
  | [] => some cells
  | (i, v) :: rest =>
    match fields[i]? with
    | some (off, size, _) =>
      if (vcells v).length = size ∧ off + size ≤ cells.length then fillL fields (cells.take off ++ vcells v ++ cells.drop (off + size)) rest else none
    | none => none

def evParts (r : Regs) : List (Nat × Operand) → (List (Nat × Value) → Prop) → Prop
  | [], k => k []
  | (i, x) :: xs, k => ev r x fun v => evParts r xs fun vs => k ((i, v) :: vs)

def optEv (r : Regs) : Option Operand → (Option Value → Prop) → Prop
  | none, k => k none
  | some x, k => ev r x fun v => k (some v)

/-- A slice's or a string's bounds. -/
def bndIs (v : Option Value) (d : Nat) (j : Nat) : Prop :=
  match v with
  | none => j = d
  | some (.int _ i) => i = (j : Int)
  | _ => False

end Go.Vx
