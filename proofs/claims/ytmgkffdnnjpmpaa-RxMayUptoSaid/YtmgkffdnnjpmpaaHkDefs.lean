/- Hk, part 1: pure values, abstract states, the resolved code and its verification conditions. Definitions alone. -/
import Derived.OrdersHeld
import Derived.Laws.Cells
import Derived.Lib.Hide
namespace Hk
open Go
set_option linter.unusedVariables false

/-- A value that needs no memory of the call's own: a slice is its rows (each element's cells), as it stands. -/
inductive PV where
  | int (k : IntKind) (n : Int)
  | b (b : Bool)
  | str (l : List UInt8)
  | lit (v : Value)
  | isl (wd : Nat) (rows : List (List PV)) (cap : Option Nat)
  | irow (row : List PV) (j : Nat)
  | agg (cells : List PV)
  | fn (f : Nat) (first captured : List PV)
  | ifc (t : TypeId) (x : PV)
  deriving Inhabited

/-- A value of a call: pure, or one that leads to the call's own blocks. -/
inductive AV where
  | p (x : PV)
  | agg (cells : List AV)
  | tup (vs : List AV)
  | fn (f : Nat) (first captured : List AV)
  | ifc (t : TypeId) (x : AV)
  | ptr (b wd i j : Nat)
  | sl (b wd i len : Nat) (cap : Option Nat)
  | csl (b wd i j esz len : Nat)
  | undef
  deriving Inhabited

inductive Opd where
  | t (n : Nat)
  | c (x : PV)

/-- A block of the call's own: gone; a variable's cells; rows of pure values, each of a width. -/
inductive Blk where
  | dead
  | mx (cells : List AV)
  | pr (wd : Nat) (rows : List (List PV))
  deriving Inhabited

structure St where
  tmps : List (Nat × AV)
  heap : List Blk

/-- The plain kinds of cells. -/
inductive CK where
  | int (k : IntKind)
  | b
  | str

inductive RO where
  | mov (x : Opd)
  | pick (c a b : Opd)
  | bin (op : BinOp) (x y : Opd)
  | cmpa (neg : Bool) (ks : List CK) (x y : Opd)
  | cmpb (neg : Bool) (x y : Opd)
  | cmpp (neg : Bool) (x y : Opd)
  | un (op : UnOp) (x : Opd)
  | load (x : Opd) (sz : Nat) (ag : Bool)
  | nilchk (x : Opd)
  | idxA (x i : Opd) (len esz : Nat)
  | idxS (x i : Opd) (esz : Nat)
  | idxStr (x i : Opd)
  | idxArr (x i : Opd) (len esz : Nat) (ag : Bool)
  | fadr (x : Opd) (off : Nat)
  | fld (x : Opd) (off sz : Nat) (ag : Bool)
  | slcS (x : Opd) (lo hi mx : Option Opd) (esz : Nat)
  | slcA (x : Opd) (lo hi mx : Option Opd) (len esz : Nat)
  | slcStr (x : Opd) (lo hi : Option Opd)
  | len (x : Opd)
  | lenStr (x : Opd)
  | mm (isMax : Bool) (x y : Opd)
  | convI (k : IntKind) (x : Opd)
  | strOf (x : Opd)
  | strId (x : Opd)
  | ext (x : Opd) (i : Nat)
  | mkfn (f : Nat) (first captured : List Opd)
  | mkif (t : TypeId) (x : Opd)
  | build (zero : List PV) (parts : List (Nat × Nat × Opd))
  -- these make memory
  | alloc (arr : Bool) (zero : List PV)
  | box (arr : Bool) (x : Opd) (sz : Nat)
  | bslice (esz : Nat) (parts : List Opd)
  | mksl (zero : List PV) (esz bytes : Nat) (l c : Opd)
  | bytesOf (x : Opd)
  -- these write, or may
  | store (x v : Opd) (sz : Nat)
  | app (s x : Opd) (esz bytes : Nat)
  | copy (d s : Opd) (esz : Nat)
  | call (f : Nat) (args : List Opd)
  | callv (f : Opd) (args : List Opd)

/-- An operation with its guard and the slot that it writes. -/
structure It where
  g : Option (Nat × Bool)
  d : Option Nat
  o : RO

/-- A region that draws its order, as it may be taken. -/
inductive DT where
  | done
  | take (it : It) (rest : DT)
  | alt (it : It) (last : Bool) (rest other : DT)
  | noalt

inductive RC where
  | skip
  | ops (l : List It)
  | draw (t : DT)
  | seq (a b : RC)
  | cond (c : Opd) (a b : RC)
  | block (id : Nat) (a : RC)
  | loop (live : List Nat) (a : RC)
  | exit (id : Nat)
  | ret

inductive RRes where
  | tmp (t : Nat)
  | cell (t sz : Nat) (ag : Bool)

structure RFn where
  np : Nat
  nt : Nat
  res : List RRes
  body : RC

inductive Ex where
  | normal | exit (id : Nat) | ret

/-! ### Small functions that reduce -/

abbrev oneC : Value → Bool := Value.oneCell'


def lk : List (Nat × AV) → Nat → AV
  | [], _ => .undef
  | (k, v) :: r, n => bif Nat.beq k n then v else lk r n

def nth {α : Type} (d : α) : List α → Nat → α
  | [], _ => d
  | x :: _, 0 => x
  | _ :: r, n + 1 => nth d r n

def setNth {α : Type} : List α → Nat → α → List α
  | [], _, _ => []
  | _ :: r, 0, v => v :: r
  | x :: r, n + 1, v => x :: setNth r n v

def dropN {α : Type} : Nat → List α → List α
  | 0, l => l
  | n + 1, l => l.drop (n + 1)

def ev (st : St) : Opd → AV
  | .t n => lk st.tmps n
  | .c x => .p x

def St.put (st : St) (d : Option Nat) (v : AV) : St :=
  match d with
  | some d => ⟨(d, v) :: st.tmps, st.heap⟩
  | none => st

def forceP (x : PV) (k : PV → Prop) : Prop :=
  match x with
  | .int kk n => k (.int kk n)
  | .b n => k (.b n)
  | .str n => k (.str n)
  | .lit n => k (.lit n)
  | .isl w r c => k (.isl w r c)
  | .irow r j => k (.irow r j)
  | .agg r => k (.agg r)
  | .fn f a c => k (.fn f a c)
  | .ifc t x => k (.ifc t x)

def force (a : AV) (k : AV → Prop) : Prop :=
  match a with
  | .p x => forceP x fun x => k (.p x)
  | .agg l => k (.agg l)
  | .tup l => k (.tup l)
  | .fn f a c => k (.fn f a c)
  | .ifc t x => k (.ifc t x)
  | .ptr b w i j => k (.ptr b w i j)
  | .sl b w i l c => k (.sl b w i l c)
  | .csl b w i j e l => k (.csl b w i j e l)
  | .undef => k .undef

/-- A test: two goals, or one where the walk knows it. -/
inductive bk (b : Bool) (k : Bool → Prop) : Prop where
  | mk (h : k b) : bk b k
theorem bk_true {k : Bool → Prop} (h : k true) : bk true k := ⟨h⟩
theorem bk_false {k : Bool → Prop} (h : k false) : bk false k := ⟨h⟩
theorem bk_split {b : Bool} {k : Bool → Prop} (h1 : b = true → k true) (h2 : b = false → k false) : bk b k := by
  cases b
  · exact ⟨h2 rfl⟩
  · exact ⟨h1 rfl⟩
theorem bk_of {b : Bool} {k : Bool → Prop} (h : bk b k) : k b := h.1

def allP : List AV → Option (List PV)
  | [] => some []
  | .p x :: r => match allP r with
    | some l => some (x :: l)
    | none => none
  | _ :: _ => none

def mkAgg (l : List AV) : AV :=
  match allP l with
  | some ps => .p (.agg ps)
  | none => .agg l

/-- A value's cells. -/
def cellsOf : AV → List AV
  | .p (.agg l) => l.map .p
  | .agg l => l
  | x => [x]

/-- A value that may lie in a variable. -/
def vok : AV → Bool
  | .undef => false
  | .tup _ => false
  | _ => true

/-! ### Slots that lead to a block no more -/

mutual
def AV.kill (b : Nat) : AV → AV
  | .p x => .p x
  | .agg l => .agg (AV.killL b l)
  | .tup l => .tup (AV.killL b l)
  | .fn f a c => .fn f (AV.killL b a) (AV.killL b c)
  | .ifc t x => .ifc t (AV.kill b x)
  | .ptr b' w i j => bif Nat.beq b' b then .undef else .ptr b' w i j
  | .sl b' w i l c => bif Nat.beq b' b then .undef else .sl b' w i l c
  | .csl b' w i j e l => bif Nat.beq b' b then .undef else .csl b' w i j e l
  | .undef => .undef
def AV.killL (b : Nat) : List AV → List AV
  | [] => []
  | x :: r => AV.kill b x :: AV.killL b r
end

def killT (b : Nat) : List (Nat × AV) → List (Nat × AV)
  | [] => []
  | (s, x) :: r => (s, AV.kill b x) :: killT b r

def Blk.kill (b : Nat) : Blk → Blk
  | .dead => .dead
  | .mx cells => .mx (AV.killL b cells)
  | .pr wd rows => .pr wd rows

def killH (b : Nat) : List Blk → List Blk
  | [] => []
  | x :: r => Blk.kill b x :: killH b r

/-- Nothing leads to block b any more but what is laid anew. -/
def St.kill (b : Nat) (st : St) : St := ⟨killT b st.tmps, killH b st.heap⟩

/-! ### The verification conditions of the operations -/

def intAr (op : BinOp) (k : IntKind) (a b : Int) : Int :=
  match op with
  | .add => k.wrap (a + b)
  | .sub => k.wrap (a - b)
  | .mul => k.wrap (a * b)
  | .and => k.wrap (BitVec.ofInt k.bits a &&& BitVec.ofInt k.bits b).toNat
  | .or => k.wrap (BitVec.ofInt k.bits a ||| BitVec.ofInt k.bits b).toNat
  | .xor => k.wrap (BitVec.ofInt k.bits a ^^^ BitVec.ofInt k.bits b).toNat
  | .andNot => k.wrap (BitVec.ofInt k.bits a &&& ~~~ BitVec.ofInt k.bits b).toNat
  | .quo => k.wrap (a.tdiv b)
  | .rem => a.tmod b
  | .shl => k.wrap (a * 2 ^ (min b.toNat k.bits))
  | .shr => a.fdiv (2 ^ (min b.toNat k.bits))
  | _ => 0

def intCm (op : BinOp) (a b : Int) : Bool :=
  match op with
  | .eql => a == b
  | .neq => a != b
  | .lss => a < b
  | .leq => a ≤ b
  | .gtr => a > b
  | .geq => a ≥ b
  | _ => false

def strCm (op : BinOp) (a b : List UInt8) : Bool :=
  match op with
  | .eql => a == b
  | .neq => !(a == b)
  | .lss => Op.bytesLess a b
  | .leq => Op.bytesLess a b || a == b
  | .gtr => !(Op.bytesLess a b || a == b)
  | .geq => !Op.bytesLess a b
  | _ => false

def sameK (a b : IntKind) (A : Prop) : Prop :=
  match a, b with
  | .i8, .i8 => A | .i16, .i16 => A | .i32, .i32 => A | .i64, .i64 => A
  | .u8, .u8 => A | .u16, .u16 => A | .u32, .u32 => A | .u64, .u64 => A
  | _, _ => False

def vbin (op : BinOp) (x y : AV) (k : AV → Prop) : Prop :=
  match x, y with
  | .p (.int kk a), .p (.int kb b) =>
    match op with
    | .add | .sub | .mul | .and | .or | .xor | .andNot => sameK kk kb (k (.p (.int kk (intAr op kk a b))))
    | .quo | .rem => sameK kk kb (b ≠ 0 ∧ k (.p (.int kk (intAr op kk a b))))
    | .shl | .shr => 0 ≤ b ∧ k (.p (.int kk (intAr op kk a b)))
    | .eql | .neq | .lss | .leq | .gtr | .geq => sameK kk kb (k (.p (.b (intCm op a b))))
  | .p (.str a), .p (.str b) =>
    match op with
    | .add => a.length + b.length ≤ 9223372036854775807 ∧ k (.p (.str (a ++ b)))
    | .eql | .neq | .lss | .leq | .gtr | .geq => k (.p (.b (strCm op a b)))
    | _ => False
  | _, _ => False

/-- Are two cells of plain kinds alike? -/
def cellEq : PV → PV → Bool
  | .int _ a, .int _ b => a == b
  | .b a, .b b => a == b
  | .str a, .str b => a == b
  | _, _ => false

def cellsEq : List PV → List PV → Bool
  | x :: r, y :: s => cellEq x y && cellsEq r s
  | _, _ => true

/-- Cells of plain kinds, of both sides. -/
def plainCells : List CK → List PV → List PV → Prop
  | [], [], [] => True
  | .int k :: ks, .int k1 _ :: r, .int k2 _ :: s => sameK k k1 (sameK k k2 (plainCells ks r s))
  | .b :: ks, .b _ :: r, .b _ :: s => plainCells ks r s
  | .str :: ks, .str _ :: r, .str _ :: s => plainCells ks r s
  | _, _, _ => False

def vun (op : UnOp) (x : AV) (k : AV → Prop) : Prop :=
  match op, x with
  | .neg, .p (.int kk n) => k (.p (.int kk (intAr .sub kk 0 n)))
  | .xor, .p (.int kk n) => k (.p (.int kk (intAr .xor kk (if kk.signed then -1 else kk.max) n)))
  | .not, .p (.b b) => k (.p (.b (!b)))
  | _, _ => False

/-- What stands in a row, from j on: one cell, or an aggregate of so many. -/
def vrow (row : List PV) (j sz : Nat) (ag : Bool) (k : AV → Prop) : Prop :=
  match ag with
  | true => ∃ cs, (dropN j row).take sz = cs ∧ cs.length = sz ∧ k (.p (.agg cs))
  | false => ∃ x, row[j]? = some x ∧ forceP x fun x => k (.p x)

def vcells (cells : List AV) (j sz : Nat) (ag : Bool) (k : AV → Prop) : Prop :=
  match ag with
  | true => (bif Nat.ble (j + sz) cells.length then k (mkAgg ((dropN j cells).take sz)) else False)
  | false => (bif Nat.blt j cells.length then force (nth .undef cells j) k else False)

def vload (h : List Blk) (a : AV) (sz : Nat) (ag : Bool) (k : AV → Prop) : Prop :=
  match a with
  | .ptr b wd i j =>
    match nth .dead h b with
    | .mx cells => match i with
      | 0 => vcells cells j sz ag k
      | _ + 1 => False
    | .pr wd' rows => bif Nat.beq wd wd' then ∃ row, rows[i]? = some row ∧ vrow row j sz ag k else False
    | .dead => False
  | .p (.irow row j) => vrow row j sz ag k
  | _ => False

def vidxA (x i : AV) (len esz : Nat) (k : AV → Prop) : Prop :=
  match i with
  | .p (.int _ n) =>
    (0 ≤ n ∧ n < (len : Int)) ∧
    match x with
    | .ptr b wd r j => k (.ptr b wd r (j + n.toNat * esz))
    | .p (.irow row j) => k (.p (.irow row (j + n.toNat * esz)))
    | _ => False
  | _ => False

def vidxS (x i : AV) (esz : Nat) (k : AV → Prop) : Prop :=
  match i with
  | .p (.int _ n) =>
    match x with
    | .p (.isl wd rows _) => (0 ≤ n ∧ n < (rows.length : Int)) ∧ ∃ row, rows[n.toNat]? = some row ∧ bif Nat.beq wd esz then k (.p (.irow row 0)) else False
    | .sl b wd r len _ => (0 ≤ n ∧ n < (len : Int)) ∧ bif Nat.beq wd esz then k (.ptr b wd (r + n.toNat) 0) else False
    | .csl b wd r j e len => (0 ≤ n ∧ n < (len : Int)) ∧ bif Nat.beq e esz then k (.ptr b wd r (j + n.toNat * esz)) else False
    | _ => False
  | _ => False

def vidxStr (x i : AV) (k : AV → Prop) : Prop :=
  match x, i with
  | .p (.str l), .p (.int _ n) => 0 ≤ n ∧ ∃ c, l[n.toNat]? = some c ∧ k (.p (.int .u8 c.toNat))
  | _, _ => False

def vidxArr (x i : AV) (len esz : Nat) (ag : Bool) (k : AV → Prop) : Prop :=
  match x, i with
  | .p (.agg cells), .p (.int _ n) => (0 ≤ n ∧ n < (len : Int)) ∧ vrow cells (n.toNat * esz) esz ag k
  | _, _ => False

def vfadr (x : AV) (off : Nat) (k : AV → Prop) : Prop :=
  match x with
  | .ptr b wd i j => k (.ptr b wd i (j + off))
  | .p (.irow row j) => k (.p (.irow row (j + off)))
  | _ => False

def vfld (x : AV) (off sz : Nat) (ag : Bool) (k : AV → Prop) : Prop :=
  match x with
  | .p (.agg cells) => vrow cells off sz ag k
  | .agg cells => vcells cells off sz ag k
  | _ => False

/-- Bounds of a slice expression: low, high, and the last one, of a length and a capacity that may be known. -/
def vbnd (o : Option AV) (d : Int) (k : Int → Prop) : Prop :=
  match o with
  | none => k d
  | some (.p (.int _ n)) => k n
  | some _ => False

def vslcS (x : AV) (lo hi mx : Option AV) (esz : Nat) (k : AV → Prop) : Prop :=
  match x with
  | .p (.isl wd rows cap) =>
    match mx with
    | none => vbnd lo 0 fun l => vbnd hi rows.length fun h => (0 ≤ l ∧ l ≤ h ∧ h ≤ (rows.length : Int)) ∧
      bif Nat.beq wd esz || rows.isEmpty then ∃ rs, (dropN l.toNat rows).take (h.toNat - l.toNat) = rs ∧ rs.length = h.toNat - l.toNat ∧
        k (.p (.isl wd rs (cap.map (· - l.toNat)))) else False
    | some m => vbnd lo 0 fun l => vbnd hi rows.length fun h => vbnd (some m) 0 fun m => (0 ≤ l ∧ l ≤ h ∧ h ≤ m ∧ m ≤ (rows.length : Int)) ∧
      bif Nat.beq wd esz || rows.isEmpty then ∃ rs, (dropN l.toNat rows).take (h.toNat - l.toNat) = rs ∧ rs.length = h.toNat - l.toNat ∧
        k (.p (.isl wd rs (some (m.toNat - l.toNat)))) else False
  | .sl b wd i len cap =>
    match mx with
    | none => vbnd lo 0 fun l => vbnd hi len fun h => (0 ≤ l ∧ l ≤ h ∧ h ≤ (len : Int)) ∧
      bif Nat.beq wd esz then k (.sl b wd (i + l.toNat) (h.toNat - l.toNat) (cap.map (· - l.toNat))) else False
    | some m => vbnd lo 0 fun l => vbnd hi len fun h => vbnd (some m) 0 fun m => (0 ≤ l ∧ l ≤ h ∧ h ≤ m ∧ m ≤ (len : Int)) ∧
      bif Nat.beq wd esz then k (.sl b wd (i + l.toNat) (h.toNat - l.toNat) (some (m.toNat - l.toNat))) else False
  | _ => False

def vslcA (x : AV) (lo hi mx : Option AV) (len esz : Nat) (k : AV → Prop) : Prop :=
  match x with
  | .ptr b wd i j => vbnd lo 0 fun l => vbnd hi len fun h => vbnd mx len fun m => (0 ≤ l ∧ l ≤ h ∧ h ≤ m ∧ m ≤ (len : Int)) ∧
      k (.csl b wd i (j + l.toNat * esz) esz (h.toNat - l.toNat))
  | _ => False

def vslcStr (x : AV) (lo hi : Option AV) (k : AV → Prop) : Prop :=
  match x with
  | .p (.str s) => vbnd lo 0 fun l => vbnd hi s.length fun h => (0 ≤ l ∧ l ≤ h ∧ h ≤ (s.length : Int)) ∧
      k (.p (.str ((dropN l.toNat s).take (h.toNat - l.toNat))))
  | _ => False

def vlen (x : AV) (k : AV → Prop) : Prop :=
  match x with
  | .p (.isl _ r _) => k (.p (.int .i64 r.length))
  | .sl _ _ _ l _ => k (.p (.int .i64 l))
  | .csl _ _ _ _ _ l => k (.p (.int .i64 l))
  | _ => False

def vlenStr (x : AV) (k : AV → Prop) : Prop :=
  match x with
  | .p (.str l) => k (.p (.int .i64 l.length))
  | _ => False

def encByte (b : UInt8) : List PV := [.int .u8 b.toNat]

/-- The rows that a slice holds, own or not. -/
def vslices (h : List Blk) (x : AV) (esz : Nat) (k : List (List PV) → Prop) : Prop :=
  match x with
  | .p (.isl wd rows _) => (bif Nat.beq wd esz || rows.isEmpty then k rows else False)
  | .sl b wd i len _ => match nth .dead h b with
    | .pr wd' rows => bif Nat.beq wd wd' && Nat.beq wd esz then ∃ rs, (dropN i rows).take len = rs ∧ rs.length = len ∧ k rs else False
    | _ => False
  | .csl b wd i j e len => match nth .dead h b with
    | .pr wd' rows => bif Nat.beq wd wd' && Nat.beq e esz && Nat.beq e 1 then ∃ row rs, rows[i]? = some row ∧ ((dropN j row).take len).map (fun x => [x]) = rs ∧ rs.length = len ∧ k rs else False
    | _ => False
  | _ => False

/-- The rows that a slice or a string holds. -/
def vrows (h : List Blk) (x : AV) (esz : Nat) (k : List (List PV) → Prop) : Prop :=
  match x with
  | .p (.str l) => (bif Nat.beq esz 1 then k (l.map encByte) else False)
  | x => vslices h x esz k

def vext (x : AV) (i : Nat) (k : AV → Prop) : Prop :=
  match x with
  | .tup l => (bif Nat.blt i l.length then force (nth .undef l i) k else False)
  | _ => False

def evL (st : St) : List Opd → List AV
  | [] => []
  | x :: r => ev st x :: evL st r

def fillA : List AV → List (Nat × Nat × AV) → Option (List AV)
  | cells, [] => some cells
  | cells, (off, size, v) :: r =>
    let cs := cellsOf v
    bif vok v && Nat.beq cs.length size && Nat.ble (off + size) cells.length then fillA (cells.take off ++ cs ++ cells.drop (off + size)) r else none

def evParts (st : St) : List (Nat × Nat × Opd) → List (Nat × Nat × AV)
  | [] => []
  | (o, s, x) :: r => (o, s, ev st x) :: evParts st r

/-- Contracts: function, arguments, the blocks that are handed over, those of them that may move; results and blocks behind. -/
abbrev FC := Nat → List AV → List Blk → List Nat → (AV → List Blk → Prop) → Prop

/-- What is known of functions; the blocks, of the first k, that must keep their place. -/
structure En where
  F : FC
  fx : Nat → Bool
  k : Nat

/-- A value as a pure one: an own slice is given up. -/
def vpure (E : En) (st : St) (x : AV) (k : St → PV → Prop) : Prop :=
  match x with
  | .p x => forceP x fun x => k st x
  | .sl b wd i len _ => match nth .dead st.heap b with
    | .pr wd' rows => bif Nat.beq wd wd' && !E.fx b then ∃ rs, (dropN i rows).take len = rs ∧ rs.length = len ∧
        k ⟨killT b st.tmps, setNth (killH b st.heap) b .dead⟩ (.isl wd rs none) else False
    | _ => False
  | _ => False

def vpureL (E : En) (st : St) : List AV → (St → List PV → Prop) → Prop
  | [], k => k st []
  | x :: r, k => vpure E st x fun st y => vpureL E st r fun st ys => k st (y :: ys)

/-- A value's cells as pure ones. -/
def vagg (E : En) (st : St) (x : AV) (k : St → List PV → Prop) : Prop :=
  match x with
  | .p (.agg l) => k st l
  | x => vpureL E st (cellsOf x) k

/-- Parts of a slice that is made: the row of each place. -/
def vbsl (E : En) (st : St) : List AV → (St → List (List PV) → Prop) → Prop
  | [], k => k st []
  | x :: r, k => vagg E st x fun st row => vbsl E st r fun st rows => k st (row :: rows)

def valsOnly (it : RO) : Bool :=
  match it with
  | .alloc _ _ | .box _ _ _ | .bslice _ _ | .mksl _ _ _ _ _ | .bytesOf _ | .store _ _ _ | .app _ _ _ _ | .copy _ _ _ | .call _ _ | .callv _ _ => false
  | _ => true

/-- Equality of aggregates, of bools, of pointers; the greater and the less of two numbers; a function value; a built aggregate. -/
def vcmpa (neg : Bool) (ks : List CK) (x y : AV) (k : AV → Prop) : Prop :=
  match x, y with
  | .p (.agg a), .p (.agg b) => plainCells ks a b ∧ k (.p (.b (bif neg then !cellsEq a b else cellsEq a b)))
  | _, _ => False

def vcmpb (neg : Bool) (x y : AV) (k : AV → Prop) : Prop :=
  match x, y with
  | .p (.b a), .p (.b b) => k (.p (.b (bif neg then !(a == b) else (a == b))))
  | _, _ => False

def vcmpp (neg : Bool) (x y : AV) (k : AV → Prop) : Prop :=
  match x, y with
  | .p (.lit (.pointer none)), .p (.lit (.pointer none)) => k (.p (.b (bif neg then false else true)))
  | .ptr _ _ _ _, .p (.lit (.pointer none)) => k (.p (.b (bif neg then true else false)))
  | .p (.irow _ _), .p (.lit (.pointer none)) => k (.p (.b (bif neg then true else false)))
  | _, _ => False

def vmm (isMax : Bool) (x y : AV) (k : AV → Prop) : Prop :=
  match x, y with
  | .p (.int kk a), .p (.int kb b) => sameK kk kb (k (.p (.int kk (bif isMax then max a b else min a b))))
  | _, _ => False

def vmkfn (f : Nat) (first cap : List AV) (k : AV → Prop) : Prop :=
  match allP first, allP cap with
  | some a, some c => k (.p (.fn f a c))
  | _, _ => k (.fn f first cap)

def vbuild (o : Option (List AV)) (k : AV → Prop) : Prop :=
  match o with
  | some l => k (mkAgg l)
  | none => False

def vpick (c a b : AV) (k : AV → Prop) : Prop :=
  match c with
  | .p (.b c) => bk c fun c => match c with
    | true => force a k
    | false => force b k
  | _ => False

def vnil (x : AV) (k : AV → Prop) : Prop :=
  match x with
  | .ptr b wd i j => k (.ptr b wd i j)
  | .p (.irow row j) => k (.p (.irow row j))
  | .p (.fn f a c) => k (.p (.fn f a c))
  | .fn f a c => k (.fn f a c)
  | _ => False

def vconvI (kk : IntKind) (x : AV) (k : AV → Prop) : Prop :=
  match x with
  | .p (.int _ n) => k (.p (.int kk (kk.wrap n)))
  | _ => False

def vstrId (x : AV) (k : AV → Prop) : Prop :=
  match x with
  | .p (.str l) => k (.p (.str l))
  | _ => False

def vmkif (t : TypeId) (x : AV) (k : AV → Prop) : Prop :=
  match x with
  | .p x => k (.p (.ifc t x))
  | x => k (.ifc t x)

/-- Operations that only reckon or read. -/
def vval (o : RO) (st : St) (k : AV → Prop) : Prop :=
  match o with
  | .mov x => force (ev st x) k
  | .pick c a b => vpick (ev st c) (ev st a) (ev st b) k
  | .bin op x y => force (ev st x) fun x => force (ev st y) fun y => vbin op x y k
  | .cmpa neg ks x y => vcmpa neg ks (ev st x) (ev st y) k
  | .cmpb neg x y => vcmpb neg (ev st x) (ev st y) k
  | .cmpp neg x y => vcmpp neg (ev st x) (ev st y) k
  | .un op x => vun op (ev st x) k
  | .load x sz ag => force (ev st x) fun a => vload st.heap a sz ag k
  | .nilchk x => vnil (ev st x) k
  | .idxA x i len esz => vidxA (ev st x) (ev st i) len esz k
  | .idxS x i esz => force (ev st x) fun x => vidxS x (ev st i) esz k
  | .idxStr x i => vidxStr (ev st x) (ev st i) k
  | .idxArr x i len esz ag => vidxArr (ev st x) (ev st i) len esz ag k
  | .fadr x off => vfadr (ev st x) off k
  | .fld x off sz ag => vfld (ev st x) off sz ag k
  | .slcS x lo hi mx esz => force (ev st x) fun x => vslcS x (lo.map (ev st)) (hi.map (ev st)) (mx.map (ev st)) esz k
  | .slcA x lo hi mx len esz => vslcA (ev st x) (lo.map (ev st)) (hi.map (ev st)) (mx.map (ev st)) len esz k
  | .slcStr x lo hi => vslcStr (ev st x) (lo.map (ev st)) (hi.map (ev st)) k
  | .len x => vlen (ev st x) k
  | .lenStr x => vlenStr (ev st x) k
  | .mm isMax x y => vmm isMax (ev st x) (ev st y) k
  | .convI kk x => vconvI kk (ev st x) k
  | .strOf x => force (ev st x) fun x => vslices st.heap x 1 fun rows => ∃ l : List UInt8, rows = l.map encByte ∧ k (.p (.str l))
  | .strId x => vstrId (ev st x) k
  | .ext x i => vext (ev st x) i k
  | .mkfn f first cap => vmkfn f (evL st first) (evL st cap) k
  | .mkif t x => force (ev st x) fun x => vmkif t x k
  | .build zero parts => vbuild (fillA (zero.map .p) (evParts st parts)) k
  | _ => False

/-! ### Weaker values, weaker states -/

mutual
/-- What is known of a pure value may be forgotten: a slice's capacity, the width of an empty one. -/
inductive PLe : PV → PV → Prop
  | refl (x : PV) : PLe x x
  | isl {wd : Nat} {rows rows' : List (List PV)} {cap cap' : Option Nat} : PLeR rows rows' → (cap' = none ∨ cap' = cap) → PLe (.isl wd rows cap) (.isl wd rows' cap')
  | nil {wd wd' : Nat} {cap cap' : Option Nat} : (cap' = none ∨ cap' = cap) → PLe (.isl wd [] cap) (.isl wd' [] cap')
  | agg {xs ys : List PV} : PLeL xs ys → PLe (.agg xs) (.agg ys)
inductive PLeL : List PV → List PV → Prop
  | refl (l : List PV) : PLeL l l
  | cons {x y : PV} {xs ys : List PV} : PLe x y → PLeL xs ys → PLeL (x :: xs) (y :: ys)
inductive PLeR : List (List PV) → List (List PV) → Prop
  | refl (l : List (List PV)) : PLeR l l
  | cons {x y : List PV} {xs ys : List (List PV)} : PLeL x y → PLeR xs ys → PLeR (x :: xs) (y :: ys)
end

mutual
/-- One value serves as another: blocks that 'fz' lets may be given up, those that 'kp' lets are kept. -/
inductive KLe (h : List Blk) (fz kp : Nat → Bool) : AV → AV → Prop
  | p {x y : PV} : PLe x y → KLe h fz kp (.p x) (.p y)
  | und (x : AV) : KLe h fz kp x .undef
  | ptr {b w i j : Nat} : kp b = true → KLe h fz kp (.ptr b w i j) (.ptr b w i j)
  | sl {b w i l : Nat} {cap cap' : Option Nat} : kp b = true → (cap' = none ∨ cap' = cap) → KLe h fz kp (.sl b w i l cap) (.sl b w i l cap')
  | csl {b w i j e l : Nat} : kp b = true → KLe h fz kp (.csl b w i j e l) (.csl b w i j e l)
  | fsl {b w i l : Nat} {cap : Option Nat} {rows rs : List (List PV)} {y : PV} : fz b = true → nth .dead h b = .pr w rows → (dropN i rows).take l = rs →
      rs.length = l → PLe (.isl w rs none) y → KLe h fz kp (.sl b w i l cap) (.p y)
  | agg {l l' : List AV} : KLeL h fz kp l l' → KLe h fz kp (.agg l) (.agg l')
  | aggp {l : List AV} {ys : List PV} : KLeL h fz kp l (ys.map .p) → KLe h fz kp (.agg l) (.p (.agg ys))
  | tup {l l' : List AV} : KLeL h fz kp l l' → KLe h fz kp (.tup l) (.tup l')
  | fn {f : Nat} {a a' c c' : List AV} : KLeL h fz kp a a' → KLeL h fz kp c c' → KLe h fz kp (.fn f a c) (.fn f a' c')
  | fnp {f : Nat} {a c : List AV} {a' c' : List PV} : KLeL h fz kp a (a'.map .p) → KLeL h fz kp c (c'.map .p) → KLe h fz kp (.fn f a c) (.p (.fn f a' c'))
  | ifc {t : TypeId} {x y : AV} : KLe h fz kp x y → KLe h fz kp (.ifc t x) (.ifc t y)
  | ifcp {t : TypeId} {x : AV} {y : PV} : KLe h fz kp x (.p y) → KLe h fz kp (.ifc t x) (.p (.ifc t y))
inductive KLeL (h : List Blk) (fz kp : Nat → Bool) : List AV → List AV → Prop
  | nil : KLeL h fz kp [] []
  | cons {x y : AV} {xs ys : List AV} : KLe h fz kp x y → KLeL h fz kp xs ys → KLeL h fz kp (x :: xs) (y :: ys)
end

/-- A block serves as another. -/
inductive BLe (h : List Blk) (fz kp : Nat → Bool) : Blk → Blk → Prop
  | dead (x : Blk) : BLe h fz kp x .dead
  | mx {l l' : List AV} : KLeL h fz kp l l' → BLe h fz kp (.mx l) (.mx l')
  | pr {wd : Nat} {r r' : List (List PV)} : PLeR r r' → BLe h fz kp (.pr wd r) (.pr wd r')

/-- A heap's first blocks, as many as there are of the other's. -/
inductive HLe (h : List Blk) (fz kp : Nat → Bool) : List Blk → List Blk → Prop
  | nil (l : List Blk) : HLe h fz kp l []
  | cons {x y : Blk} {xs ys : List Blk} : BLe h fz kp x y → HLe h fz kp xs ys → HLe h fz kp (x :: xs) (y :: ys)

inductive TLe (h : List Blk) (fz kp : Nat → Bool) (t : List (Nat × AV)) : List (Nat × AV) → Prop
  | nil : TLe h fz kp t []
  | cons {s : Nat} {y : AV} {r : List (Nat × AV)} : KLe h fz kp (lk t s) y → TLe h fz kp t r → TLe h fz kp t ((s, y) :: r)

/-- Blocks that must keep their place are there. -/
def fixOk (fx : Nat → Bool) (h : List Blk) : Nat → Bool
  | 0 => true
  | k + 1 => (!fx k || (match nth .dead h k with | .dead => false | _ => true)) && fixOk fx h k

/-- Is there such a block? -/
def liveB (h : List Blk) (b : Nat) : Bool :=
  match nth .dead h b with
  | .dead => false
  | _ => true

def StLe (E : En) (st st' : St) : Prop :=
  (Nat.ble E.k st'.heap.length = true ∧ fixOk E.fx st'.heap E.k = true) ∧
  TLe st.heap (fun b => !liveB st'.heap b) (fun b => liveB st'.heap b) st.tmps st'.tmps ∧
  HLe st.heap (fun b => !liveB st'.heap b) (fun b => liveB st'.heap b) st.heap st'.heap

def trim (live : List Nat) (st : St) : St := ⟨live.map fun s => (s, lk st.tmps s), st.heap⟩

/-- A nil slice as an empty one of the call's own, which may grow. -/
def matV (n wd : Nat) : AV → AV × List Blk
  | .p (.isl _ [] (some 0)) => (.sl n wd 0 0 none, [.pr wd []])
  | x => (x, [])

def setT : List (Nat × AV) → Nat → AV → List (Nat × AV)
  | [], _, _ => []
  | (k, v) :: r, n, x => bif Nat.beq k n then (k, x) :: r else (k, v) :: setT r n x

/-- Places whose nil slices become empty ones of the call's own: slots, or cells of blocks; with the elements' width. -/
inductive MatAt where
  | slot (s wd : Nat)
  | cell (b j wd : Nat)

def St.mat1 (st : St) : MatAt → St
  | .slot s wd => match matV st.heap.length wd (lk st.tmps s) with
    | (x, bs) => ⟨setT st.tmps s x, st.heap ++ bs⟩
  | .cell b j wd => match nth .dead st.heap b with
    | .mx cells => match matV st.heap.length wd (nth .undef cells j) with
      | (x, bs) => ⟨st.tmps, setNth st.heap b (.mx (setNth cells j x)) ++ bs⟩
    | _ => st

def St.mat (st : St) : List MatAt → St
  | [] => st
  | m :: r => (st.mat1 m).mat r

/-! ### What makes memory, writes, calls. 'F': what is known of functions -/

mutual
def AV.ren (ids : List Nat) (n : Nat) : AV → AV
  | .p x => .p x
  | .agg l => .agg (AV.renL ids n l)
  | .tup l => .tup (AV.renL ids n l)
  | .fn f a c => .fn f (AV.renL ids n a) (AV.renL ids n c)
  | .ifc t x => .ifc t (AV.ren ids n x)
  | .ptr b w i j => .ptr (renB ids n b) w i j
  | .sl b w i l c => .sl (renB ids n b) w i l c
  | .csl b w i j e l => .csl (renB ids n b) w i j e l
  | .undef => .undef
def AV.renL (ids : List Nat) (n : Nat) : List AV → List AV
  | [] => []
  | x :: r => AV.ren ids n x :: AV.renL ids n r
/-- A block's number at the caller: one that was handed over, or a new one behind the caller's n. -/
def renB : List Nat → Nat → Nat → Nat
  | [], n, b => n + b
  | x :: _, _, 0 => x
  | _ :: r, n, b + 1 => renB r n b
end

def Blk.ren (ids : List Nat) (n : Nat) : Blk → Blk
  | .dead => .dead
  | .mx cells => .mx (AV.renL ids n cells)
  | .pr wd rows => .pr wd rows

def renH (ids : List Nat) (n : Nat) : List Blk → List Blk
  | [] => []
  | x :: r => Blk.ren ids n x :: renH ids n r

def getIds (h : List Blk) : List Nat → List Blk
  | [] => []
  | i :: r => nth .dead h i :: getIds h r

/-- The caller's heap behind a call: what was handed over as it came back, then what is new. -/
def backH (h : List Blk) : List Nat → List Blk → List Blk
  | [], new => h ++ new
  | i :: r, x :: new => backH (setNth h i x) r new
  | _ :: _, [] => h

def killAll : List Nat → St → St
  | [], st => st
  | b :: r, st => killAll r (st.kill b)

def memN : List Nat → Nat → Bool
  | [], _ => false
  | x :: r, n => Nat.beq x n || memN r n

def distinctN : List Nat → Bool
  | [] => true
  | x :: r => !memN r x && distinctN r

def liveIds (h : List Blk) : List Nat → Bool
  | [] => true
  | i :: r => (match nth .dead h i with | .dead => false | _ => true) && liveIds h r

def nthIds (ids : List Nat) : List Nat → List Nat
  | [] => []
  | k :: r => nth 0 ids k :: nthIds ids r

def allFree (fx : Nat → Bool) : List Nat → Bool
  | [] => true
  | b :: r => !fx b && allFree fx r

def boundedN (n : Nat) : List Nat → Bool
  | [] => true
  | b :: r => Nat.blt b n && boundedN n r

mutual
/-- A value that leads to no memory. -/
def flatP : PV → Bool
  | .isl _ _ _ => false
  | .irow _ _ => false
  | .agg l => flatPL l
  | .fn _ a c => flatPL a && flatPL c
  | .ifc _ x => flatP x
  | _ => true
def flatPL : List PV → Bool
  | [] => true
  | x :: r => flatP x && flatPL r
end

mutual
def flatV : AV → Bool
  | .p x => flatP x
  | .tup l => flatVL l
  | _ => false
def flatVL : List AV → Bool
  | [] => true
  | x :: r => flatV x && flatVL r
end

def isNil {α : Type} : List α → Bool
  | [] => true
  | _ :: _ => false

def disjN (l : List Nat) : List Nat → Bool
  | [] => true
  | x :: r => !memN l x && disjN l r

/-- Blocks are given up. -/
def dropAll : List Nat → St → St
  | [], st => st
  | b :: r, st => dropAll r ⟨killT b st.tmps, setNth (killH b st.heap) b .dead⟩

/-- A call by a contract: the blocks that are handed over (ids), given up (fr); or (flat) a result that leads to no memory. 'q': nothing that was there is turned. -/
def vcall0 (E : En) (q : Bool) (f : Nat) (args : List AV) (d : Option Nat) (st : St) (k : St → Prop) : Prop :=
  ∃ (ids : List Nat) (H : List Blk) (args' : List AV) (mv : List Nat) (Post : AV → List Blk → Prop) (fr : List Nat) (flat : Bool),
    E.F f args' H mv Post ∧
    ((bif q then isNil ids else true) = true ∧ (bif flat then isNil ids && isNil fr else true) = true ∧ allFree E.fx (nthIds ids mv) = true ∧ allFree E.fx fr = true ∧
      boundedN H.length mv = true ∧ boundedN st.heap.length fr = true ∧ ids.length = H.length ∧ distinctN ids = true ∧ disjN ids fr = true ∧ liveIds st.heap ids = true) ∧
    renH ids st.heap.length H = getIds st.heap ids ∧
    KLeL st.heap (fun b => flat || memN fr b) (memN ids) args (AV.renL ids st.heap.length args') ∧
    ∀ r H', Post r H' → H.length ≤ H'.length → (flat = true → flatV r = true ∧ H' = []) ∧
      k ((⟨(killAll (nthIds ids mv) (dropAll fr st)).tmps, backH (killAll (nthIds ids mv) (dropAll fr st)).heap ids (renH ids st.heap.length H')⟩ : St).put d (AV.ren ids st.heap.length r))

/-- A call, as a thing of its own: nothing looks into it but by its law. -/
inductive vcall (E : En) (q : Bool) (f : Nat) (args : List AV) (d : Option Nat) (st : St) (k : St → Prop) : Prop where
  | mk (h : vcall0 E q f args d st k) : vcall E q f args d st k

def newSt (st : St) (d : Option Nat) (v : AV) (b : Blk) : St := (⟨st.tmps, st.heap ++ [b]⟩ : St).put d v

def vstore (E : En) (st : St) (a v : AV) (sz : Nat) (k : St → Prop) : Prop :=
  match a with
  | .ptr b wd i j =>
    match nth .dead st.heap b with
    | .mx cells => match i with
      | 0 => (bif vok v && Nat.beq (cellsOf v).length sz && Nat.ble (j + sz) cells.length then
          k ⟨st.tmps, setNth st.heap b (.mx (cells.take j ++ cellsOf v ++ cells.drop (j + sz)))⟩ else False)
      | _ + 1 => False
    | .pr _ _ => bif vok v then vagg E st v fun st ys => (match nth .dead st.heap b with
      | .pr wd' rows => bif Nat.beq wd wd' then ∃ row, rows[i]? = some row ∧
          ys.length = sz ∧ j + sz ≤ row.length ∧ k ⟨st.tmps, setNth st.heap b (.pr wd (rows.set i (row.take j ++ ys ++ row.drop (j + sz))))⟩ else False
      | _ => False) else False
    | .dead => False
  | _ => False

def roomMost : Nat := 70368744177664

def vapp (E : En) (st : St) (s x : AV) (esz bytes : Nat) (d : Option Nat) (k : St → Prop) : Prop :=
  match s with
  | .p (.isl _ [] (some 0)) => vrows st.heap x esz fun xs => xs.length * bytes ≤ roomMost ∧
      k (newSt st d (.sl st.heap.length esz 0 xs.length none) (.pr esz xs))
  | .p (.isl wd rows (some c)) => vrows st.heap x esz fun xs => (c < rows.length + xs.length ∧ (rows.length + xs.length) * bytes ≤ roomMost) ∧
      (bif Nat.beq wd esz then k (newSt st d (.sl st.heap.length esz 0 (rows.length + xs.length) none) (.pr esz (rows ++ xs))) else False)
  | .p (.isl wd rows none) => vrows st.heap x esz fun xs => xs = [] ∧ k (st.put d (.p (.isl wd rows none)))
  | .sl b wd i len _ => match nth .dead st.heap b with
    | .pr wd' rows => bif Nat.beq wd wd' && Nat.beq wd esz && !E.fx b then vrows st.heap x esz fun xs =>
        i + len = rows.length ∧ (len + xs.length) * bytes ≤ roomMost ∧
        k ((⟨killT b st.tmps, setNth (killH b st.heap) b (.pr wd (dropN i rows ++ xs))⟩ : St).put d (.sl b wd 0 (len + xs.length) none)) else False
    | _ => False
  | _ => False

def vcopy (st : St) (a s : AV) (esz : Nat) (d : Option Nat) (k : St → Prop) : Prop :=
  match a with
  | .sl b wd i len _ => match nth .dead st.heap b with
    | .pr wd' rows => bif Nat.beq wd wd' && Nat.beq wd esz then vrows st.heap s esz fun xs => i + len ≤ rows.length ∧
        k ((⟨st.tmps, setNth st.heap b (.pr wd (rows.take i ++ xs.take (min xs.length len) ++ rows.drop (i + min xs.length len)))⟩ : St).put d (.p (.int .i64 (min xs.length len : Nat)))) else False
    | _ => False
  | .csl b wd i j e len => match nth .dead st.heap b with
    | .pr wd' rows => bif Nat.beq wd wd' && Nat.beq e esz && Nat.beq e 1 then vrows st.heap s esz fun xs => ∃ row ys, rows[i]? = some row ∧ j + len ≤ row.length ∧
        xs.take (min xs.length len) = ys.map (fun x => [x]) ∧
        k ((⟨st.tmps, setNth st.heap b (.pr wd (rows.set i (row.take j ++ ys ++ row.drop (j + min xs.length len))))⟩ : St).put d (.p (.int .i64 (min xs.length len : Nat)))) else False
    | _ => False
  | _ => False

def allPL (l : List AV) (k : List PV → Prop) : Prop :=
  match allP l with
  | some ps => k ps
  | none => False

def aggPL (x : AV) (k : List PV → Prop) : Prop :=
  match x with
  | .p (.agg l) => k l
  | x => allPL (cellsOf x) k

def vbox (arr : Bool) (sz : Nat) (d : Option Nat) (st : St) (v : AV) (k : St → Prop) : Prop :=
  match arr with
  | true => aggPL v fun ps => ps.length = sz ∧ k (newSt st d (.ptr st.heap.length sz 0 0) (.pr sz [ps]))
  | false => (bif vok v && Nat.beq (cellsOf v).length sz then k (newSt st d (.ptr st.heap.length sz 0 0) (.mx (cellsOf v))) else False)

def vmksl (zero : List PV) (esz bytes : Nat) (d : Option Nat) (st : St) (l c : AV) (k : St → Prop) : Prop :=
  match l, c with
  | .p (.int _ n), .p (.int _ m) => (0 ≤ n ∧ n ≤ m ∧ m * bytes ≤ roomMost ∧ m ≤ roomMost) ∧
      k (newSt st d (.sl st.heap.length esz 0 n.toNat (some m.toNat)) (.pr esz (List.replicate m.toNat zero)))
  | _, _ => False

def vbytesOf (d : Option Nat) (st : St) (x : AV) (k : St → Prop) : Prop :=
  match x with
  | .p (.str l) => k (newSt st d (.sl st.heap.length 1 0 l.length none) (.pr 1 (l.map encByte)))
  | _ => False

def vcallv (E : En) (q : Bool) (f : AV) (args : List AV) (d : Option Nat) (st : St) (k : St → Prop) : Prop :=
  match f with
  | .p (.fn f a c) => vcall E q f (a.map .p ++ args ++ c.map .p) d st k
  | .fn f a c => vcall E q f (a ++ args ++ c) d st k
  | _ => False

/-- Any operation. 'q': it may write nothing that was there. -/
def vro (E : En) (q : Bool) (o : RO) (d : Option Nat) (st : St) (k : St → Prop) : Prop :=
  match o with
  | .alloc arr zero => k (newSt st d (.ptr st.heap.length zero.length 0 0) (bif arr then .pr zero.length [zero] else .mx (zero.map .p)))
  | .box arr x sz => force (ev st x) fun v => vbox arr sz d st v k
  | .bslice esz parts => vbsl E st (evL st parts) fun st rows => (∀ r ∈ rows, r.length = esz) ∧
      k (newSt st d (.sl st.heap.length esz 0 rows.length (some rows.length)) (.pr esz rows))
  | .mksl zero esz bytes l c => vmksl zero esz bytes d st (ev st l) (ev st c) k
  | .bytesOf x => vbytesOf d st (ev st x) k
  | .store a v sz => match q with
    | true => False
    | false => force (ev st a) fun a => force (ev st v) fun v => vstore E st a v sz fun st => k (st.put d .undef)
  | .app s x esz bytes => match q with
    | true => False
    | false => force (ev st s) fun s => force (ev st x) fun x => vapp E st s x esz bytes d k
  | .copy a s esz => match q with
    | true => False
    | false => force (ev st a) fun a => force (ev st s) fun s => vcopy st a s esz d k
  | .call f args => vcall E q f (evL st args) d st k
  | .callv f args => vcallv E q (ev st f) (evL st args) d st k
  | o => vval o st fun v => k (st.put d v)

def guarded (g : Option (Nat × Bool)) (d : Option Nat) (st : St) (k : St → Prop) (yes : St → Prop) : Prop :=
  match g with
  | none => yes st
  | some (s, want) => match lk st.tmps s with
    | .p (.b c) => bk c fun c => match c, want with
      | true, true | false, false => yes ⟨(s, .p (.b c)) :: st.tmps, st.heap⟩
      | _, _ => k ((⟨(s, .p (.b c)) :: st.tmps, st.heap⟩ : St).put d (.tup []))
    | .tup [] => k (st.put d (.tup []))
    | _ => False

def vops (E : En) : List It → St → (St → Prop) → Prop
  | [], st, k => k st
  | ⟨g, d, o⟩ :: r, st, k => guarded g d st (fun st => vops E r st k) fun st => vro E false o d st fun st => vops E r st k

def vdt (E : En) : DT → St → (St → Prop) → Prop
  | .done, st, k => k st
  | .take ⟨g, d, o⟩ r, st, k => guarded g d st (fun st => vdt E r st k) fun st => vval o st fun v => vdt E r (st.put d v) k
  | .alt ⟨g, d, o⟩ last r other, st, k =>
    (guarded g d st (fun st => vdt E r st k) fun st => vro E (!last) o d st fun st => vdt E r st k) ∧ vdt E other st k
  | .noalt, _, _ => True

def inBlk (id : Nat) (K : Ex → St → Prop) : Ex → St → Prop
  | .exit n, st => bif Nat.beq n id then K .normal st else K (.exit n) st
  | e, st => K e st

def thenK (n : St → Prop) (K : Ex → St → Prop) : Ex → St → Prop
  | .normal, st => n st
  | e, st => K e st

def condK (c : AV) (k : Bool → Prop) : Prop :=
  match c with
  | .p (.b c) => bk c k
  | _ => False

def setCond (c : Opd) (b : Bool) (st : St) : St :=
  match c with
  | .t s => ⟨(s, .p (.b b)) :: st.tmps, st.heap⟩
  | .c _ => st

def awp (E : En) : RC → (Ex → St → Prop) → St → Prop
  | .skip, K, st => K .normal st
  | .ops l, K, st => vops E l st (K .normal)
  | .draw t, K, st => vdt E t st (K .normal)
  | .seq a b, K, st => awp E a (thenK (awp E b K) K) st
  | .cond c a b, K, st => condK (ev st c) fun v => match v with
    | true => awp E a K (setCond c true st)
    | false => awp E b K (setCond c false st)
  | .block id a, K, st => awp E a (inBlk id K) st
  | .loop live a, K, st => ∃ (ms : List MatAt) (α : Type) (mk : α → St) (ok : α → Prop) (mu : α → Nat),
      (∃ x, ok x ∧ StLe E ((trim live st).mat ms) (mk x)) ∧
      ∀ x, ok x → awp E a (thenK (fun st => ∃ y, ok y ∧ mu y < mu x ∧ StLe E (trim live st) (mk y)) K) (mk x)
  | .exit id, K, st => K (.exit id) st
  | .ret, K, st => K .ret st

/-! ### A function's results -/

def vres1 (st : St) (r : RRes) (k : AV → Prop) : Prop :=
  match r with
  | .tmp t => force (lk st.tmps t) k
  | .cell t sz ag => vload st.heap (lk st.tmps t) sz ag k

def vres (st : St) : List RRes → (List AV → Prop) → Prop
  | [], k => k []
  | r :: rs, k => vres1 st r fun x => vres st rs fun xs => k (x :: xs)

def resV : List AV → AV
  | [x] => x
  | l => .tup l

def retK (E : En) (res : List RRes) (Post : AV → List Blk → Prop) : Ex → St → Prop
  | .exit _, _ => False
  | _, st => vres st res fun xs => ∃ r H', Post r H' ∧ (Nat.ble E.k H'.length = true ∧ fixOk E.fx H' E.k = true) ∧
      KLe st.heap (fun b => !liveB H' b) (fun b => liveB H' b) (resV xs) r ∧
      HLe st.heap (fun b => !liveB H' b) (fun b => liveB H' b) st.heap H'

def params : Nat → List AV → List (Nat × AV)
  | _, [] => []
  | n, x :: r => (n, x) :: params (n + 1) r

end Hk
