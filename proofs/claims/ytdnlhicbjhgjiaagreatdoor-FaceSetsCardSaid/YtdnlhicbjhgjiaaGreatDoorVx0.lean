/- The walk by verification conditions: a reading of code over registers and a heap, and its soundness. No condition. -/
import Derived.OrdersHeld
import Derived.Below
import Derived.Tactics2
import Derived.KernelRfl
namespace Go.Vx
open Go.RowKit

abbrev Heap := Array Obj
abbrev Regs := List (Nat × Value)

def cellAt (h : Heap) (b o : Nat) : Option Value :=
  match h[b]? with
  | some (.cells c _ _) => c[o]?
  | _ => none

def frozenAt (h : Heap) (b o : Nat) : Bool :=
  match h[b]? with
  | some (.cells _ _ (lo, hi)) => lo ≤ o && o < hi
  | _ => false

def setAt (h : Heap) (b o : Nat) (v : Value) : Heap :=
  h.modify b fun
    | .cells c e f => .cells (c.setIfInBounds o v) e f
    | x => x

/-- Kinds of cells. -/
inductive CK where
  | bool | int (k : IntKind) | str | ptr | slice | map | iface | any
  deriving DecidableEq

inductive Kd where
  | bool | int (k : IntKind) | str | ptr | slice | map | func | iface | struct | other
  deriving DecidableEq

/-- What is used of a type. -/
structure TI where
  agg : Bool
  cks : List CK
  zero : List Value
  fields : List (Nat × Nat × Bool)
  elem : Nat
  esize : Nat
  ebytes : Nat
  ezero : List Value
  kd : Kd

def isAggD : TypeDesc → Bool
  | .struct _ => true
  | .array _ _ => true
  | _ => false

def ckOf : TypeDesc → CK
  | .bool => .bool
  | .int k => .int k
  | .string => .str
  | .pointer _ => .ptr
  | .slice _ => .slice
  | .map _ _ => .map
  | .interface _ => .iface
  | _ => .any

def kdOf : TypeDesc → Kd
  | .bool => .bool
  | .int k => .int k
  | .string => .str
  | .pointer _ => .ptr
  | .slice _ => .slice
  | .map _ _ => .map
  | .func _ _ _ => .func
  | .interface _ => .iface
  | .struct _ => .struct
  | _ => .other

/-- The kinds of a type's cells, where they are told. -/
def cksOf (P : Program) : Nat → TypeId → List CK
  | 0, _ => []
  | n + 1, t =>
    match P.underlying t with
    | some (.struct fs) => fs.toList.flatMap fun f => cksOf P n f.type
    | some (.array len e) => (List.replicate len (cksOf P n e)).flatten
    | some d => [ckOf d]
    | none => []

def sizeOfT (P : Program) (t : TypeId) : Nat := match P.info? t with | some i => i.size | none => 0
def aggOfT (P : Program) (t : TypeId) : Bool := match P.underlying t with | some d => isAggD d | none => false
def isU8 (P : Program) (t : TypeId) : Bool := match P.underlying t with | some (.int .u8) => true | _ => false
def zeroOfT (P : Program) (t : TypeId) : List Value := match P.info? t with | some i => (match i.zero with | some z => z.cells.toList | none => []) | none => []
def bytesOfT (P : Program) (t : TypeId) : Nat := match P.info? t with | some i => i.bytes | none => 0

/-- A type's reading: none where it is not of the plain make. -/
def tiOf (P : Program) (t : TypeId) : Option TI :=
  match P.info? t, P.underlying t with
  | some i, some d =>
    match i.zero with
    | some z =>
      let cks := cksOf P 8 t
      if cks.length = i.size ∧ z.cells.size = i.size then
        match d with
        | .struct fs =>
          if (fs.toList.all fun f => (P.info? f.type).isSome && (P.underlying f.type).isSome && decide (0 < sizeOfT P f.type)) then
            some ⟨true, cks, z.cells.toList, fs.toList.map fun f => (f.offset, sizeOfT P f.type, aggOfT P f.type), 0, 0, 0, [], .struct⟩
          else none
        | .slice e =>
          match P.info? e with
          | some ie =>
            match ie.zero with
            | some ze => if ze.cells.size = ie.size ∧ 0 < ie.size then some ⟨false, cks, z.cells.toList, [], e, ie.size, ie.bytes, ze.cells.toList, .slice⟩ else none
            | none => none
          | none => none
        | .array _ _ => none
        | d => if z.cells.size = 1 then some ⟨false, cks, z.cells.toList, [], 0, 0, 0, [], kdOf d⟩ else none
      else none
    | none => none
  | _, _ => none

end Go.Vx
