/- Hk, part 3: from the model's code to the resolved code. -/
import Derived.Test.YtmgkffdnnjpmpaaHkRel
import GoSem.Core.View
import GoSem.Dispatch
namespace Hk
open Go
set_option linter.unusedVariables false

def pv1 : Value → Option PV
  | .int k n => some (.int k n)
  | .bool x => some (.b x)
  | .string s => some (.str s.data.toList)
  | .float k b => some (.lit (.float k b))
  | .pointer none => some (.lit (.pointer none))
  | .slice none 0 0 => some (.isl 0 [] (some 0))
  | .map none => some (.lit (.map none))
  | .nilFunc => some (.lit .nilFunc)
  | .nilIface => some (.lit .nilIface)
  | _ => none

def pvL : List Value → Option (List PV)
  | [] => some []
  | v :: r => match pv1 v, pvL r with
    | some x, some l => some (x :: l)
    | _, _ => none

def pvOf : Value → Option PV
  | .agg cs => (pvL cs.toList).map .agg
  | v => pv1 v

def cOpd : Operand → Option Opd
  | .tmp t => some (.t t)
  | .const v => (pvOf v).map .c
  | .func f => some (.c (.fn f [] []))
  | .global _ => none

def cOpds : List Operand → Option (List Opd)
  | [] => some []
  | x :: r => match cOpd x, cOpds r with
    | some y, some l => some (y :: l)
    | _, _ => none

def cOpdO : Option Operand → Option (Option Opd)
  | none => some none
  | some x => (cOpd x).map some

def aggT (P : Program) (t : TypeId) : Option Bool :=
  match P.underlying t with
  | some (.struct _) | some (.array _ _) => some true
  | some _ => some false
  | none => none

def szT (P : Program) (t : TypeId) : Option Nat := (P.info? t).map (·.size)
def bytesT (P : Program) (t : TypeId) : Option Nat := (P.info? t).map (·.bytes)
def zeroT (P : Program) (t : TypeId) : Option (List PV) :=
  match (P.info? t).bind (·.zero) with
  | some v => pvL v.cells.toList
  | none => none

def isArrT (P : Program) (t : TypeId) : Bool :=
  match P.underlying t with
  | some (.array _ _) => true
  | _ => false

/-- The kinds of the cells of a type of plain kinds, arrays and structs of those, whose fields lie one behind the other; none: another type. -/
def plainF (sz : TypeId → Option (List CK)) : Nat → List Field → Option (List CK)
  | _, [] => some []
  | off, f :: r => if f.name = "_" ∨ f.offset ≠ off then none else match sz f.type with
    | some ks => if ks.length = 0 then none else match plainF sz (off + ks.length) r with
      | some ls => some (ks ++ ls)
      | none => none
    | none => none

def plainK (P : Program) : Nat → TypeId → Option (List CK)
  | 0, _ => none
  | d + 1, t => match P.underlying t with
    | some .bool => if szT P t = some 1 then some [.b] else none
    | some (.int k) => if szT P t = some 1 then some [.int k] else none
    | some .string => if szT P t = some 1 then some [.str] else none
    | some (.array len e) => match plainK P d e with
      | some ks => if ks.length ≠ 0 ∧ szT P e = some ks.length ∧ szT P t = some (len * ks.length) then some (List.replicate len ks).flatten else none
      | none => none
    | some (.struct fs) => if P.stoodInHeld t then none else match plainF (plainK P d) 0 fs.toList with
      | some ks => if szT P t = some ks.length then some ks else none
      | none => none
    | _ => none

def cParts (places : Nat → Option (Nat × Nat)) : List (Nat × Operand) → Option (List (Nat × Nat × Opd))
  | [] => some []
  | (i, x) :: r => match places i, cOpd x, cParts places r with
    | some (o, s), some y, some l => some ((o, s, y) :: l)
    | _, _, _ => none

/-- Parts of a slice, dense and rising. -/
def cDense (n : Nat) : List (Nat × Operand) → Option (List Opd)
  | [] => some []
  | (i, x) :: r => if i = n then match cOpd x, cDense (n + 1) r with
    | some y, some l => some (y :: l)
    | _, _ => none else none

def cBin (P : Program) (op : BinOp) (t : TypeId) (x y : Opd) : Option RO :=
  match P.underlying t with
  | some (.int _) | some .string => some (.bin op x y)
  | some .bool => match op with
    | .eql => some (.cmpb false x y)
    | .neq => some (.cmpb true x y)
    | _ => none
  | some (.pointer e) => if (szT P e).getD 0 = 0 then none else match op with
    | .eql => some (.cmpp false x y)
    | .neq => some (.cmpp true x y)
    | _ => none
  | some (.struct _) | some (.array _ _) => match plainK P 20 t with
    | some ks => if P.eqGuardType P.depth t = false then match op with
      | .eql => some (.cmpa false ks x y)
      | .neq => some (.cmpa true ks x y)
      | _ => none else none
    | none => none
  | _ => none

def cop (P : Program) (o : Oper) : Option RO :=
  match o.op with
  | .move x | .assign x => (cOpd x).map .mov
  | .pick c a b => match cOpd c, cOpd a, cOpd b with
    | some c, some a, some b => some (.pick c a b)
    | _, _, _ => none
  | .binOp op t x y _ => match cOpd x, cOpd y with
    | some x, some y => cBin P op t x y
    | _, _ => none
  | .unOp op _ x => (cOpd x).map (.un op)
  | .alloc e => (zeroT P e).map (.alloc (isArrT P e))
  | .box e x => match cOpd x, szT P e with
    | some x, some s => some (.box (isArrT P e) x s)
    | _, _ => none
  | .build t parts => match P.underlying t, zeroT P t with
    | some (.struct fs), some z => if fs.toList.all (fun f => (szT P f.type).isSome) then
        (cParts (fun i => (fs.map fun f => (f.offset, (szT P f.type).getD 0))[i]?) parts.toList).map (.build z) else none
    | some (.array _ e), some z => match szT P e with
      | some s => (cParts (fun i => some (i * s, s)) parts.toList).map (.build z)
      | none => none
    | _, _ => none
  | .buildSlice t len parts => match P.underlying t with
    | some (.slice e) => match szT P e, cDense 0 parts.toList with
      | some s, some l => if l.length = len ∧ len * s ≤ 2 ^ 24 ∧ 0 < s ∧ (zeroT P e).isSome then some (.bslice s l) else none
      | _, _ => none
    | _ => none
  | .load t x => match cOpd x, szT P t, aggT P t with
    | some x, some s, some g => some (.load x s g)
    | _, _, _ => none
  | .store t x v => match cOpd x, cOpd v, szT P t with
    | some x, some v, some s => some (.store x v s)
    | _, _, _ => none
  | .nilCheck x => (cOpd x).map .nilchk
  | .fieldAddr t x f => match P.underlying t, cOpd x with
    | some (.struct fs), some x => match fs[f]? with
      | some fd => match szT P fd.type with
        | some (_ + 1) => some (.fadr x fd.offset)
        | _ => none
      | none => none
    | _, _ => none
  | .field t x f => match P.underlying t, cOpd x with
    | some (.struct fs), some x => match fs[f]? with
      | some fd => match szT P fd.type, aggT P fd.type with
        | some s, some g => some (.fld x fd.offset s g)
        | _, _ => none
      | none => none
    | _, _ => none
  | .indexAddr t x i => match P.underlying t, cOpd x, cOpd i with
    | some (.array n e), some x, some i => (szT P e).map (.idxA x i n)
    | some (.slice e), some x, some i => (szT P e).map (.idxS x i)
    | _, _, _ => none
  | .index t x i => match P.underlying t, cOpd x, cOpd i with
    | some (.array n e), some x, some i => match szT P e, aggT P e with
      | some s, some g => some (.idxArr x i n s g)
      | _, _ => none
    | some .string, some x, some i => some (.idxStr x i)
    | _, _, _ => none
  | .slice t x lo hi mx => match P.underlying t, cOpd x, cOpdO lo, cOpdO hi, cOpdO mx with
    | some (.array n e), some x, some lo, some hi, some mx => (szT P e).bind fun s => if mx.isSome && hi.isNone then none else some (.slcA x lo hi mx n s)
    | some (.slice e), some x, some lo, some hi, some mx => (szT P e).bind fun s => if mx.isSome && hi.isNone then none else some (.slcS x lo hi mx s)
    | some .string, some x, some lo, some hi, some none => some (.slcStr x lo hi)
    | _, _, _, _, _ => none
  | .convert s d x => match P.underlying s, P.underlying d, cOpd x with
    | some (.int _), some (.int k), some x => some (.convI k x)
    | some .string, some .string, some x => some (.strId x)
    | some (.slice e), some .string, some x => match P.underlying e with
      | some (.int .u8) => some (.strOf x)
      | _ => none
    | some .string, some (.slice e), some x => match P.underlying e with
      | some (.int .u8) => some (.bytesOf x)
      | _ => none
    | _, _, _ => none
  | .makeInterface t x => match P.underlying t, cOpd x with
    | some (.interface _), _ => none
    | some _, some x => some (.mkif t x)
    | _, _ => none
  | .makeFunc (.func f) first cap => match cOpds first.toList, cOpds cap.toList with
    | some a, some c => some (.mkfn f a c)
    | _, _ => none
  | .makeSlice t l c => match P.underlying t, cOpd l, cOpd c with
    | some (.slice e), some l, some c => match zeroT P e, szT P e, bytesT P e with
      | some z, some s, some b => if z.length = s ∧ 0 < s ∧ 0 < b then some (.mksl z s b l c) else none
      | _, _, _ => none
    | _, _, _ => none
  | .extract x i => (cOpd x).map fun x => .ext x i
  | .call c => match c.callee with
    | .value (.func f) => (cOpds c.args.toList).map (.call f)
    | .value x => match cOpd x, cOpds c.args.toList with
      | some x, some l => some (.callv x l)
      | _, _ => none
    | .builtin .len => match c.args.toList, c.argTypes.toList with
      | [x], [t] => match P.underlying t, cOpd x with
        | some .string, some x => some (.lenStr x)
        | some (.slice _), some x => some (.len x)
        | _, _ => none
      | _, _ => none
    | .builtin .append => match c.args.toList, c.argTypes.toList with
      | [s, x], [t, u] => match P.underlying t, P.underlying u, cOpd s, cOpd x with
        | some (.slice e), some (.slice _), some s, some x | some (.slice e), some .string, some s, some x => match zeroT P e, szT P e, bytesT P e with
          | some z, some n, some b => if z.length = n ∧ 0 < n ∧ 0 < b then some (.app s x n b) else none
          | _, _, _ => none
        | _, _, _, _ => none
      | _, _ => none
    | .builtin .copy => match c.args.toList, c.argTypes.toList with
      | [a, s], [t, _] => match P.underlying t, cOpd a, cOpd s with
        | some (.slice e), some a, some s => (szT P e).map fun n => .copy a s n
        | _, _, _ => none
      | _, _ => none
    | .builtin .max => match c.args.toList with
      | [x, y] => match cOpd x, cOpd y with
        | some x, some y => some (.mm true x y)
        | _, _ => none
      | _ => none
    | .builtin .min => match c.args.toList with
      | [x, y] => match cOpd x, cOpd y with
        | some x, some y => some (.mm false x y)
        | _, _ => none
      | _ => none
    | _ => none
  | _ => none

end Hk
