/- The walk by verification conditions: the conditions of code. No condition. -/
import Derived.Test.YtdnlhicbjhgjiaaGreatDoorVx1
namespace Go.Vx
open Go.RowKit

/-- What one operation asks. -/
def vcOp (P : Program) (o : Oper) (r : Regs) (h : Heap) (K : Value → Heap → Prop) (X : List PanicEntry → Heap → Prop) : Prop :=
  match o.op with
  | .move x => ev r x fun v => K v h
  | .assign x => ev r x fun v => K v h
  | .pick c a b => ev r c fun c => match c with
    | .bool x => iteB x (ev r a fun v => K v h) (ev r b fun v => K v h)
    | _ => False
  | .alloc e => tiK P e fun ti => ∀ b h', b = h.size → h' = h.push (.cells ti.zero.toArray e (0, 0)) → K (.pointer (some ⟨b, 0, none⟩)) h'
  | .box e x => ev r x fun v => ∀ b h', b = h.size → h' = h.push (.cells (vcells v).toArray e (0, 0)) → K (.pointer (some ⟨b, 0, none⟩)) h'
  | .build t parts => tiK P t fun ti => chk (decide (ti.kd = .struct)) <| evParts r parts.toList fun ps =>
      match fillL ti.fields ti.zero ps with
      | some cs => K (.agg cs.toArray) h
      | none => False
  | .buildSlice t len parts => tiK P t fun ti => chk (decide (ti.kd = .slice) && decide (len * ti.esize ≤ 16777216)) <| evParts r parts.toList fun ps =>
      match fillL ((List.range len).map fun i => (i * ti.esize, ti.esize, false)) (zerosOf ti.ezero len) ps with
      | some cs => ∀ b h', b = h.size → h' = h.push (.cells cs.toArray ti.elem (0, 0)) → K (.slice (some ⟨b, 0, none⟩) len len) h'
      | none => False
  | .load t x => ev r x fun v => match v with
    | .pointer (some ⟨b, o, none⟩) => tiK P t fun ti =>
      bif ti.agg then ldcs h b ti.cks o fun vs => K (.agg vs.toArray) h
      else match ti.cks with
        | [c] => ldc c h b o fun v => K v h
        | _ => False
    | _ => False
  | .store t x y => ev r x fun v => ev r y fun u => match v with
    | .pointer (some ⟨b, o, none⟩) => tiK P t fun ti =>
      chk (decide ((vcells u).length = ti.cks.length)) <| onesK (vcells u) <| Writable h b o (vcells u).length ∧ ∀ h', h' = setCells h b o (vcells u) → K undef h'
    | _ => False
  | .nilCheck x => ev r x fun v => match v with
    | .pointer (some a) => K (.pointer (some a)) h
    | .func (.func f) a c => K (.func (.func f) a c) h
    | .iface t v => K (.iface t v) h
    | _ => False
  | .binOp op t x y _ => ev r x fun a => ev r y fun b =>
    bif isScal a then vcBin op a b fun v => K v h
    else tiK P t fun ti => chk (decide (ti.kd ≠ .iface) || Region.isConst x || Region.isConst y) <| match op with
      | .eql => vcNil ti.kd a b fun v => K (.bool v) h
      | .neq => vcNil ti.kd a b fun v => K (.bool !v) h
      | _ => False
  | .unOp op _ x => ev r x fun v => match op, v with
    | .not, .bool b => K (.bool !b) h
    | .neg, .int k n => ∃ m, Wr k (0 - n) m ∧ K (.int k m) h
    | _, _ => False
  | .convert s d x => ev r x fun v => tiK P s fun si => tiK P d fun di => match di.kd, v with
    | .int k, .int _ n => ∃ m, Wr k n m ∧ K (.int k m) h
    | .str, .string y => chk (decide (si.kd = .str)) <| K (.string y) h
    | _, _ => False
  | .makeInterface t x => tiK P t fun ti => chk (decide (ti.kd ≠ .iface)) <| ev r x fun v => K (.iface t v) h
  | .makeFunc fn first captured => evs r first.toList fun fs => evs r captured.toList fun cs => K (.func fn fs.toArray cs.toArray) h
  | .makeMap t none => tiK P t fun ti => chk (decide (ti.kd = .map)) <| ∀ b h', b = h.size → h' = h.push (.map #[] 0) → K (.map (some b)) h'
  | .makeSlice t l c => ev r l fun lv => ev r c fun cv => match lv, cv with
    | .int _ l, .int _ c => tiK P t fun ti => chk (decide (ti.kd = .slice)) <| MkK ti.elem ti.esize ti.ebytes ti.ezero l c h fun a n c h => K (.slice a n c) h
    | _, _ => False
  | .fieldAddr s x f => ev r x fun v => match v with
    | .pointer (some ⟨b, o, none⟩) => tiK P s fun ti => chk (decide (ti.kd = .struct)) <| match ti.fields[f]? with
      | some (off, _, _) => K (.pointer (some ⟨b, o + off, none⟩)) h
      | none => False
    | _ => False
  | .field s x f => ev r x fun v => match v with
    | .agg cs => tiK P s fun ti => chk (decide (ti.kd = .struct)) <| match ti.fields[f]? with
      | some (off, size, agg) => bif agg then K (.agg (cs.extract off (off + size))) h else match cs.toList[off]? with
        | some c => K c h
        | none => False
      | none => False
    | _ => False
  | .indexAddr t x i => ev r x fun v => ev r i fun iv => match v, iv with
    | .slice a len _, .int _ i => tiK P t fun ti => chk (decide (ti.kd = .slice)) <| ∃ b o j : Nat, a = some ⟨b, o, none⟩ ∧ i = (j : Int) ∧ j < len ∧ K (.pointer (some ⟨b, o + mulE j ti.esize, none⟩)) h
    | _, _ => False
  | .index t x i => ev r x fun v => ev r i fun iv => match v, iv with
    | .string s, .int _ i => tiK P t fun ti => chk (decide (ti.kd = .str)) <| ∃ j : Nat, ∃ hj : j < s.size, i = (j : Int) ∧ K (.int .u8 (s[j]'hj).toNat) h
    | _, _ => False
  | .slice t x lo hi mx => ev r x fun v => optEv r lo fun lv => optEv r hi fun hv => optEv r mx fun mv => match v with
    | .string s => chk mv.isNone <| tiK P t fun ti => chk (decide (ti.kd = .str)) <| ∃ l h' : Nat, bndIs lv 0 l ∧ bndIs hv s.size h' ∧ l ≤ h' ∧ h' ≤ s.size ∧ K (.string (s.extract l h')) h
    | .slice a len cap => tiK P t fun ti => chk (decide (ti.kd = .slice)) <| chk (mv.isNone || hv.isSome) <| ∃ l h' m : Nat, bndIs lv 0 l ∧ bndIs hv len h' ∧ bndIs mv cap m ∧ l ≤ h' ∧ h' ≤ m ∧ m ≤ cap ∧ spotless a ∧ ∀ a', SubA a ti.esize l m a' → K (.slice a' (h' - l) (m - l)) h
    | _ => False
  | .extract x i => ev r x fun v => match v with
    | .tuple vs => match vs.toList[i]? with
      | some v => K v h
      | none => False
    | _ => False
  | .panic x => ev r x fun v => match v with
    | .iface t v => X [{ v := .iface t v, recovered := false }] h
    | _ => False
  | .call c => match c.callee with
    | .builtin .len => evs r c.args.toList fun vs => match vs, c.argTypes.toList with
      | [.string s], [t] => tiK P t fun ti => chk (decide (ti.kd = .str)) <| K (.int .i64 s.size) h
      | [.slice _ n _], [t] => tiK P t fun ti => chk (decide (ti.kd = .slice)) <| K (.int .i64 n) h
      | _, _ => False
    | .builtin .append => evs r c.args.toList fun vs => match vs, c.argTypes.toList with
      | [s, x], [t, u] => tiK P t fun ti => chk (decide (ti.kd = .slice)) <| tiK P u fun ui => match ui.kd, x with
        | .int _, .int _ q => AppZ ti.elem ti.esize ti.ebytes ti.ezero s q h fun a n c h => K (.slice a n c) h
        | .int _, _ => False
        | _, _ => chk (decide (ui.kd = .slice ∨ ui.kd = .str)) <| AppK ti.elem ti.esize ti.ebytes ti.ezero s x h fun a n c h => K (.slice a n c) h
      | _, _ => False
    | .builtin .cap => evs r c.args.toList fun vs => match vs, c.argTypes.toList with
      | [.slice _ _ n], [t] => tiK P t fun ti => chk (decide (ti.kd = .slice)) <| K (.int .i64 n) h
      | _, _ => False
    | .builtin .max => evs r c.args.toList fun vs => match vs with
      | [.int k a, .int _ b] => K (.int k (if a < b then b else a)) h
      | _ => False
    | .builtin .min => evs r c.args.toList fun vs => match vs with
      | [.int k a, .int _ b] => K (.int k (if b < a then b else a)) h
      | _ => False
    | .builtin .panic => evs r c.args.toList fun vs => match vs with
      | [.iface t v] => X [{ v := .iface t v, recovered := false }] h
      | _ => False
    | .value f => ev r f fun fv => evs r c.args.toList fun vs => match fv with
      | .func (.func g) first captured => CallK P g (first.toList ++ vs ++ captured.toList) h (fun v h' => resIs P o.type v fun v => K v h') X
      | _ => False
    | _ => False
  | _ => False

/-- Operations that hang on the heap, or make memory, beside 'vcOp'. -/
def vcOpx (P : Program) (o : Oper) (r : Regs) (h : Heap) (K : Value → Heap → Prop) (X : List PanicEntry → Heap → Prop) : Prop :=
  match o.op with
  | .convert s d x => ev r x fun v => match v with
    | .slice a n _ => tiK P s fun si => tiK P d fun di => chk (decide (di.kd = .str) && decide (si.kd = .slice) && isU8 P si.elem) <| ∃ s : ByteArray, s.size = n ∧ RdCells h a n (strCells s) ∧ K (.string s) h
    | _ => vcOp P o r h K X
  | _ => vcOp P o r h K X

def gslot (ops : List Oper) (j : Nat) : Option Nat := (ops[j]?).bind (·.dst)

def vcOps (P : Program) (kp : List Nat) (ops : List Oper) (Q : Exit → Regs → Heap → Prop) : List Oper → Regs → Heap → Prop
  | [], r, h => Q .normal (rprune r kp) h
  | o :: rest, r, h =>
    match o.guard with
    | none => vcOpx P o r h (fun v h' => vcOps P kp ops Q rest (rput o.dst v r) h') (fun ch h' => Q (.panic ch) r h')
    | some (j, want) =>
      match gslot ops j with
      | some d => rgetK r d fun v => match v with
        | .bool c =>
          match want with
          | true => iteB c (vcOpx P o ((d, .bool true) :: r) h (fun v h' => vcOps P kp ops Q rest (rput o.dst v ((d, .bool true) :: r)) h') (fun ch h' => Q (.panic ch) r h'))
                     (vcOps P kp ops Q rest (rput o.dst undef ((d, .bool false) :: r)) h)
          | false => iteB c (vcOps P kp ops Q rest (rput o.dst undef ((d, .bool true) :: r)) h)
                     (vcOpx P o ((d, .bool false) :: r) h (fun v h' => vcOps P kp ops Q rest (rput o.dst v ((d, .bool false) :: r)) h') (fun ch h' => Q (.panic ch) r h'))
        | .tuple _ => vcOps P kp ops Q rest (rput o.dst undef r) h
        | _ => False
      | none => False

/-- The meaning of a reading of code: what the machine's rule says. -/
def QW (n : Nat) (w0 : World) (Q : Exit → Regs → Heap → Prop) : Exit → Act → World → Prop := fun e a w =>
  ∃ r, Sub n a r ∧ Below 0 w0 w ∧ Q e r w.heap

def vcThen (next : Regs → Heap → Prop) (Q : Exit → Regs → Heap → Prop) : Exit → Regs → Heap → Prop
  | .normal, r, h => next r h
  | .exit i, r, h => Q (.exit i) r h
  | .goto l, r, h => Q (.goto l) r h
  | .ret, r, h => Q .ret r h
  | .panic c, r, h => Q (.panic c) r h
  | .outgrown, r, h => Q .outgrown r h

def vcBlock (id : Nat) (Q : Exit → Regs → Heap → Prop) : Exit → Regs → Heap → Prop
  | .normal, r, h => Q .normal r h
  | .exit i, r, h => bif i == id then Q .normal r h else Q (.exit i) r h
  | .goto l, r, h => Q (.goto l) r h
  | .ret, r, h => Q .ret r h
  | .panic c, r, h => Q (.panic c) r h
  | .outgrown, r, h => Q .outgrown r h

/-- All temporaries that are written lie in the frame. -/
def dstOK (n : Nat) : Code → Bool
  | .region _ ops _ => ops.toList.all fun o => match o.dst with | some d => decide (d < n) | none => true
  | .seq a b => dstOK n a && dstOK n b
  | .cond _ a b => dstOK n a && dstOK n b
  | .block _ c => dstOK n c
  | .loop c => dstOK n c
  | .scope c => dstOK n c
  | .rangeFunc _ _ a b => dstOK n a && dstOK n b
  | _ => true

end Go.Vx
