/- Texts of this claim, put together: Defs, Rel, Comp, Val, Val2, Val3, Val4, Val5, Mapv, Val6, Mem, Eff, Eff2. -/
import Derived.OrdersHeld
import Derived.Laws.Cells
import Derived.Lib.Hide
import GoSem.Core.View
import GoSem.Dispatch
import Derived.Laws.World
import Derived.Laws.Strings
import Derived.Laws.Slices
import Derived.Laws.BytesString
import Derived.Laws.BytesArg
import Derived.Laws.StructEq
import Derived.MapKept
import Derived.Laws.Entries
import Derived.Laws.CopyRow
namespace Hk
open Go
set_option linter.unusedVariables false
set_option linter.unusedSimpArgs false
inductive PV where
 | int (k : IntKind) (n : Int)
 | b (b : Bool)
 | str (l : List UInt8)
 | lit (v : Value)
 | isl (wd : Nat) (rows : List (List PV)) (cap : Option Nat)
 | irow (row : List PV) (j : Nat)
 | agg (cells : List PV)
 | fn (f : Nat) (first captured : List PV)
 | ifc (t : TypeId) (x : PV)
 deriving Inhabited
inductive AV where
 | p (x : PV)
 | agg (cells : List AV)
 | tup (vs : List AV)
 | fn (f : Nat) (first captured : List AV)
 | ifc (t : TypeId) (x : AV)
 | ptr (b wd i j : Nat)
 | sl (b wd i len : Nat) (cap : Option Nat)
 | csl (b wd i j esz len : Nat)
 | mpr (b : Nat)
 | undef
 deriving Inhabited
inductive Opd where
 | t (n : Nat)
 | c (x : PV)
inductive CK where
 | int (k : IntKind)
 | b
 | str
inductive Blk where
 | dead
 | mx (cells : List AV)
 | pr (wd : Nat) (rows : List (List PV))
 | mp (ag : Bool) (ks : List CK) (ents : List (PV × PV))
 | ax (n : Nat) (arr : List PV) (cells : List AV)
 | gh (l : Nat) (left : Option (List (List PV)))
 deriving Inhabited
structure St where
 tmps : List (Nat × AV)
 heap : List Blk
inductive RO where
 | mov (x : Opd)
 | pick (c a b : Opd)
 | bin (op : BinOp) (x y : Opd)
 | cmpa (neg : Bool) (ks : List CK) (x y : Opd)
 | cmpb (neg : Bool) (x y : Opd)
 | cmpp (neg : Bool) (x y : Opd)
 | snil (neg : Bool) (x : Opd)
 | un (op : UnOp) (x : Opd)
 | load (x : Opd) (sz : Nat) (ag : Bool)
 | nilchk (x : Opd)
 | idxA (x i : Opd) (len esz : Nat)
 | idxS (x i : Opd) (esz : Nat)
 | idxStr (x i : Opd)
 | idxArr (x i : Opd) (len esz : Nat) (ag : Bool)
 | fadr (x : Opd) (off : Nat)
 | fld (x : Opd) (off sz : Nat) (ag : Bool)
 | slcS (x : Opd) (lo hi mx : Option Opd) (esz : Nat)
 | slcA (x : Opd) (lo hi mx : Option Opd) (len esz : Nat)
 | slcStr (x : Opd) (lo hi : Option Opd)
 | len (x : Opd)
 | lenStr (x : Opd)
 | mm (isMax : Bool) (x y : Opd)
 | convI (k : IntKind) (x : Opd)
 | strOf (x : Opd)
 | strId (x : Opd)
 | ext (x : Opd) (i : Nat)
 | mkfn (f : Nat) (first captured : List Opd)
 | mkif (t : TypeId) (x : Opd)
 | build (zero : List PV) (parts : List (Nat × Nat × Opd))
 | buildx (n : Nat) (z : PV) (rest : List PV) (parts : List (Nat × Nat × Opd))
 | alloc (arr : Bool) (zero : List PV)
 | allocx (n : Nat) (z : PV) (rest : List PV)
 | box (arr : Bool) (x : Opd) (sz : Nat)
 | boxx (n : Nat) (x : Opd) (sz : Nat)
 | bslice (esz : Nat) (parts : List Opd)
 | mksl (zero : List PV) (esz bytes : Nat) (l c : Opd)
 | bytesOf (x : Opd)
 | store (x v : Opd) (sz : Nat)
 | app (s x : Opd) (esz bytes : Nat)
 | copy (d s : Opd) (esz : Nat)
 | clr (x : Opd) (zero : List PV) (esz : Nat)
 | call (f : Nat) (args : List Opd)
 | callv (f : Opd) (args : List Opd)
 | mkmap (ag : Bool) (ks : List CK)
 | mlook (ag : Bool) (ks : List CK) (zero : PV) (ok : Bool) (m x : Opd)
 | mlen (m : Opd)
 | mset (ag : Bool) (ks : List CK) (m x v : Opd)
 | ment (ag : Bool) (ks : List CK) (zero : PV) (m x : Opd)
 | estore (m s v : Opd)
structure It where
 g : Option (Nat × Bool)
 d : Option Nat
 o : RO
inductive DT where
 | done
 | take (it : It) (rest : DT)
 | alt (it : It) (last : Bool) (rest other : DT)
 | noalt
inductive RC where
 | skip
 | ops (l : List It)
 | draw (t : DT)
 | seq (a b : RC)
 | cond (c : Opd) (a b : RC)
 | block (id : Nat) (a : RC)
 | loop (live : List Nat) (a : RC)
 | rangef (live : List Nat) (f : Opd) (ps : List Nat) (asg a : RC)
 | exit (id : Nat)
 | ret
inductive RRes where
 | tmp (t : Nat)
 | cell (t sz : Nat) (ag : Bool)
structure RFn where
 np : Nat
 nt : Nat
 res : List RRes
 body : RC
inductive Ex where
 | normal | exit (id : Nat) | ret
def gDB : List PV := [.int .u8 0, .int .u8 1, .int .u8 56, .int .u8 2, .int .u8 57, .int .u8 49, .int .u8 28, .int .u8 3, .int .u8 61, .int .u8 58, .int .u8 42, .int .u8 50, .int .u8 38, .int .u8 29, .int .u8 17, .int .u8 4, .int .u8 62, .int .u8 47, .int .u8 59, .int .u8 36, .int .u8 45, .int .u8 43, .int .u8 51, .int .u8 22, .int .u8 53, .int .u8 39, .int .u8 33, .int .u8 30, .int .u8 24, .int .u8 18, .int .u8 12, .int .u8 5, .int .u8 63, .int .u8 55, .int .u8 48, .int .u8 27, .int .u8 60, .int .u8 41, .int .u8 37, .int .u8 16, .int .u8 46, .int .u8 35, .int .u8 44, .int .u8 21, .int .u8 52, .int .u8 32, .int .u8 23, .int .u8 11, .int .u8 54, .int .u8 26, .int .u8 40, .int .u8 15, .int .u8 34, .int .u8 20, .int .u8 31, .int .u8 10, .int .u8 25, .int .u8 14, .int .u8 19, .int .u8 9, .int .u8 13, .int .u8 8, .int .u8 7, .int .u8 6]
def glbs : List (Nat × List PV) := [(0, gDB)]
def glbRow : List (Nat × List PV) → Nat → Option (List PV)
 | [], _ => none
 | (g, r) :: l, n => bif Nat.beq g n then some r else glbRow l n
abbrev oneC : Value → Bool := Value.oneCell'
def lk : List (Nat × AV) → Nat → AV
 | [], _ => .undef
 | (k, v) :: r, n => bif Nat.beq k n then v else lk r n
def nth {α : Type} (d : α) : List α → Nat → α
 | [], _ => d
 | x :: _, 0 => x
 | _ :: r, n + 1 => nth d r n
def setNth {α : Type} : List α → Nat → α → List α
 | [], _, _ => []
 | _ :: r, 0, v => v :: r
 | x :: r, n + 1, v => x :: setNth r n v
def dropN {α : Type} : Nat → List α → List α
 | 0, l => l
 | n + 1, l => l.drop (n + 1)
def ev (st : St) : Opd → AV
 | .t n => lk st.tmps n
 | .c x => .p x
def St.put (st : St) (d : Option Nat) (v : AV) : St :=
 match d with
 | some d => ⟨(d, v) :: st.tmps, st.heap⟩
 | none => st
def forceP (x : PV) (k : PV → Prop) : Prop :=
 match x with
 | .int kk n => k (.int kk n)
 | .b n => k (.b n)
 | .str n => k (.str n)
 | .lit n => k (.lit n)
 | .isl w r c => k (.isl w r c)
 | .irow r j => k (.irow r j)
 | .agg r => k (.agg r)
 | .fn f a c => k (.fn f a c)
 | .ifc t x => k (.ifc t x)
def force (a : AV) (k : AV → Prop) : Prop :=
 match a with
 | .p x => forceP x fun x => k (.p x)
 | .agg l => k (.agg l)
 | .tup l => k (.tup l)
 | .fn f a c => k (.fn f a c)
 | .ifc t x => k (.ifc t x)
 | .ptr b w i j => k (.ptr b w i j)
 | .sl b w i l c => k (.sl b w i l c)
 | .csl b w i j e l => k (.csl b w i j e l)
 | .mpr b => k (.mpr b)
 | .undef => k .undef
inductive bk (b : Bool) (k : Bool → Prop) : Prop where
 | mk (h : k b) : bk b k
theorem bk_true {k : Bool → Prop} (h : k true) : bk true k := ⟨h⟩
theorem bk_false {k : Bool → Prop} (h : k false) : bk false k := ⟨h⟩
theorem bk_split {b : Bool} {k : Bool → Prop} (h1 : b = true → k true) (h2 : b = false → k false) : bk b k := by
 cases b
 ·exact ⟨h2 rfl⟩
 ·exact ⟨h1 rfl⟩
theorem bk_of {b : Bool} {k : Bool → Prop} (h : bk b k) : k b := h.1
def allP : List AV → Option (List PV)
 | [] => some []
 | .p x :: r => match allP r with
   | some l => some (x :: l)
   | none => none
 | _ :: _ => none
def mkAgg (l : List AV) : AV :=
 match allP l with
 | some ps => .p (.agg ps)
 | none => .agg l
def cellsOf : AV → List AV
 | .p (.agg l) => l.map .p
 | .agg l => l
 | x => [x]
def vok : AV → Bool
 | .undef => false
 | .tup _ => false
 | _ => true
mutual
def AV.kill (b : Nat) : AV → AV
 | .p x => .p x
 | .agg l => .agg (AV.killL b l)
 | .tup l => .tup (AV.killL b l)
 | .fn f a c => .fn f (AV.killL b a) (AV.killL b c)
 | .ifc t x => .ifc t (AV.kill b x)
 | .ptr b' w i j => bif Nat.beq b' b then .undef else .ptr b' w i j
 | .sl b' w i l c => bif Nat.beq b' b then .undef else .sl b' w i l c
 | .csl b' w i j e l => bif Nat.beq b' b then .undef else .csl b' w i j e l
 | .mpr b' => bif Nat.beq b' b then .undef else .mpr b'
 | .undef => .undef
def AV.killL (b : Nat) : List AV → List AV
 | [] => []
 | x :: r => AV.kill b x :: AV.killL b r
end
def killT (b : Nat) : List (Nat × AV) → List (Nat × AV)
 | [] => []
 | (s, x) :: r => (s, AV.kill b x) :: killT b r
def Blk.kill (b : Nat) : Blk → Blk
 | .dead => .dead
 | .mx cells => .mx (AV.killL b cells)
 | .pr wd rows => .pr wd rows
 | .mp ag ks e => .mp ag ks e
 | .gh l r => .gh l r
 | .ax n a c => .ax n a (AV.killL b c)
def killH (b : Nat) : List Blk → List Blk
 | [] => []
 | x :: r => Blk.kill b x :: killH b r
def St.kill (b : Nat) (st : St) : St := ⟨killT b st.tmps, killH b st.heap⟩
def intAr (op : BinOp) (k : IntKind) (a b : Int) : Int :=
 match op with
 | .add => k.wrap (a + b)
 | .sub => k.wrap (a - b)
 | .mul => k.wrap (a * b)
 | .and => k.wrap (BitVec.ofInt k.bits a &&& BitVec.ofInt k.bits b).toNat
 | .or => k.wrap (BitVec.ofInt k.bits a ||| BitVec.ofInt k.bits b).toNat
 | .xor => k.wrap (BitVec.ofInt k.bits a ^^^ BitVec.ofInt k.bits b).toNat
 | .andNot => k.wrap (BitVec.ofInt k.bits a &&& ~~~ BitVec.ofInt k.bits b).toNat
 | .quo => k.wrap (a.tdiv b)
 | .rem => a.tmod b
 | .shl => k.wrap (a * 2 ^ (min b.toNat k.bits))
 | .shr => a.fdiv (2 ^ (min b.toNat k.bits))
 | _ => 0
def intCm (op : BinOp) (a b : Int) : Bool :=
 match op with
 | .eql => a == b
 | .neq => a != b
 | .lss => a < b
 | .leq => a ≤ b
 | .gtr => a > b
 | .geq => a ≥ b
 | _ => false
def strCm (op : BinOp) (a b : List UInt8) : Bool :=
 match op with
 | .eql => a == b
 | .neq => !(a == b)
 | .lss => Op.bytesLess a b
 | .leq => Op.bytesLess a b || a == b
 | .gtr => !(Op.bytesLess a b || a == b)
 | .geq => !Op.bytesLess a b
 | _ => false
def sameK (a b : IntKind) (A : Prop) : Prop :=
 match a, b with
 | .i8, .i8 => A | .i16, .i16 => A | .i32, .i32 => A | .i64, .i64 => A
 | .u8, .u8 => A | .u16, .u16 => A | .u32, .u32 => A | .u64, .u64 => A
 | _, _ => False
def vbin (op : BinOp) (x y : AV) (k : AV → Prop) : Prop :=
 match x, y with
 | .p (.int kk a), .p (.int kb b) =>
   match op with
   | .add | .sub | .mul | .and | .or | .xor | .andNot => sameK kk kb (k (.p (.int kk (intAr op kk a b))))
   | .quo | .rem => sameK kk kb (b ≠ 0 ∧ k (.p (.int kk (intAr op kk a b))))
   | .shl | .shr => 0 ≤ b ∧ k (.p (.int kk (intAr op kk a b)))
   | .eql | .neq | .lss | .leq | .gtr | .geq => sameK kk kb (k (.p (.b (intCm op a b))))
 | .p (.str a), .p (.str b) =>
   match op with
   | .add => a.length + b.length ≤ 9223372036854775807 ∧ k (.p (.str (a ++ b)))
   | .eql | .neq | .lss | .leq | .gtr | .geq => k (.p (.b (strCm op a b)))
   | _ => False
 | _, _ => False
def cellEq : PV → PV → Bool
 | .int _ a, .int _ b => a == b
 | .b a, .b b => a == b
 | .str a, .str b => a == b
 | _, _ => false
def cellsEq : List PV → List PV → Bool
 | x :: r, y :: s => cellEq x y && cellsEq r s
 | _, _ => true
def plainCells : List CK → List PV → List PV → Prop
 | [], [], [] => True
 | .int k :: ks, .int k1 _ :: r, .int k2 _ :: s => sameK k k1 (sameK k k2 (plainCells ks r s))
 | .b :: ks, .b _ :: r, .b _ :: s => plainCells ks r s
 | .str :: ks, .str _ :: r, .str _ :: s => plainCells ks r s
 | _, _, _ => False
def vun (op : UnOp) (x : AV) (k : AV → Prop) : Prop :=
 match op, x with
 | .neg, .p (.int kk n) => k (.p (.int kk (intAr .sub kk 0 n)))
 | .xor, .p (.int kk n) => k (.p (.int kk (intAr .xor kk (if kk.signed then -1 else kk.max) n)))
 | .not, .p (.b b) => k (.p (.b (!b)))
 | _, _ => False
def vrow (row : List PV) (j sz : Nat) (ag : Bool) (k : AV → Prop) : Prop :=
 match ag with
 | true => ∃ cs, (dropN j row).take sz = cs ∧ cs.length = sz ∧ k (.p (.agg cs))
 | false => ∃ x, row[j]? = some x ∧ forceP x fun x => k (.p x)
def vcells (cells : List AV) (j sz : Nat) (ag : Bool) (k : AV → Prop) : Prop :=
 match ag with
 | true => (bif Nat.ble (j + sz) cells.length then k (mkAgg ((dropN j cells).take sz)) else False)
 | false => (bif Nat.blt j cells.length then force (nth .undef cells j) k else False)
def axAgg (arr : List PV) (cells : List AV) : AV :=
 match allP cells with
 | some ps => .p (.agg (arr ++ ps))
 | none => .agg (arr.map .p ++ cells)
def vaxl (n : Nat) (arr : List PV) (cells : List AV) (j sz : Nat) (ag : Bool) (k : AV → Prop) : Prop :=
 match ag with
 | false => (j < n ∧ ∃ x, arr[j]? = some x ∧ forceP x fun x => k (.p x)) ∨ (n ≤ j ∧ ∃ x, cells[j - n]? = some x ∧ force x k)
 | true => (bif Nat.ble n j then (bif Nat.ble (j - n + sz) cells.length then k (mkAgg ((dropN (j - n) cells).take sz)) else False)
  else bif Nat.beq j 0 then (bif Nat.beq sz n then k (.p (.agg arr)) else bif Nat.ble n sz && Nat.ble (sz - n) cells.length then k (axAgg arr (cells.take (sz - n))) else False) else False)
def vload (h : List Blk) (a : AV) (sz : Nat) (ag : Bool) (k : AV → Prop) : Prop :=
 match a with
 | .ptr b wd i j =>
   match nth .dead h b with
   | .mx cells => match i with
     | 0 => vcells cells j sz ag k
     | _ + 1 => False
   | .ax n arr cells => match i with
     | 0 => vaxl n arr cells j sz ag k
     | _ + 1 => False
   | .pr wd' rows => bif Nat.beq wd wd' then ∃ row, rows[i]? = some row ∧ vrow row j sz ag k else False
   | _ => False
 | .p (.irow row j) => vrow row j sz ag k
 | _ => False
def vidxA (x i : AV) (len esz : Nat) (k : AV → Prop) : Prop :=
 match i with
 | .p (.int _ n) =>
   (0 ≤ n ∧ n < (len : Int)) ∧
   match x with
   | .ptr b wd r j => k (.ptr b wd r (j + n.toNat * esz))
   | .p (.irow row j) => k (.p (.irow row (j + n.toNat * esz)))
   | _ => False
 | _ => False
def vidxS (x i : AV) (esz : Nat) (k : AV → Prop) : Prop :=
 match i with
 | .p (.int _ n) =>
   match x with
   | .p (.isl wd rows _) => (0 ≤ n ∧ n < (rows.length : Int)) ∧ ∃ row, rows[n.toNat]? = some row ∧ bif Nat.beq wd esz then k (.p (.irow row 0)) else False
   | .sl b wd r len _ => (0 ≤ n ∧ n < (len : Int)) ∧ bif Nat.beq wd esz then k (.ptr b wd (r + n.toNat) 0) else False
   | .csl b wd r j e len => (0 ≤ n ∧ n < (len : Int)) ∧ bif Nat.beq e esz then k (.ptr b wd r (j + n.toNat * esz)) else False
   | _ => False
 | _ => False
def vidxStr (x i : AV) (k : AV → Prop) : Prop :=
 match x, i with
 | .p (.str l), .p (.int _ n) => 0 ≤ n ∧ ∃ c, l[n.toNat]? = some c ∧ k (.p (.int .u8 c.toNat))
 | _, _ => False
def vidxArr (x i : AV) (len esz : Nat) (ag : Bool) (k : AV → Prop) : Prop :=
 match x, i with
 | .p (.agg cells), .p (.int _ n) => (0 ≤ n ∧ n < (len : Int)) ∧ vrow cells (n.toNat * esz) esz ag k
 | _, _ => False
def vfadr (x : AV) (off : Nat) (k : AV → Prop) : Prop :=
 match x with
 | .ptr b wd i j => k (.ptr b wd i (j + off))
 | .p (.irow row j) => k (.p (.irow row (j + off)))
 | _ => False
def vfld (x : AV) (off sz : Nat) (ag : Bool) (k : AV → Prop) : Prop :=
 match x with
 | .p (.agg cells) => vrow cells off sz ag k
 | .agg cells => vcells cells off sz ag k
 | _ => False
def vbnd (o : Option AV) (d : Int) (k : Int → Prop) : Prop :=
 match o with
 | none => k d
 | some (.p (.int _ n)) => k n
 | some _ => False
def vslcS (x : AV) (lo hi mx : Option AV) (esz : Nat) (k : AV → Prop) : Prop :=
 match x with
 | .p (.isl wd rows cap) =>
   match mx with
   | none => vbnd lo 0 fun l => vbnd hi rows.length fun h => (0 ≤ l ∧ l ≤ h ∧ h ≤ (rows.length : Int)) ∧
     bif Nat.beq wd esz || rows.isEmpty then ∃ rs, (dropN l.toNat rows).take (h.toNat - l.toNat) = rs ∧ rs.length = h.toNat - l.toNat ∧
      k (.p (.isl wd rs (cap.map (· - l.toNat)))) else False
   | some m => vbnd lo 0 fun l => vbnd hi rows.length fun h => vbnd (some m) 0 fun m => (0 ≤ l ∧ l ≤ h ∧ h ≤ m ∧ m ≤ (rows.length : Int)) ∧
     bif Nat.beq wd esz || rows.isEmpty then ∃ rs, (dropN l.toNat rows).take (h.toNat - l.toNat) = rs ∧ rs.length = h.toNat - l.toNat ∧
      k (.p (.isl wd rs (some (m.toNat - l.toNat)))) else False
 | .sl b wd i len cap =>
   match mx with
   | none => vbnd lo 0 fun l => vbnd hi len fun h => (0 ≤ l ∧ l ≤ h ∧ h ≤ (len : Int)) ∧
     bif Nat.beq wd esz then k (.sl b wd (i + l.toNat) (h.toNat - l.toNat) (cap.map (· - l.toNat))) else False
   | some m => vbnd lo 0 fun l => vbnd hi len fun h => vbnd (some m) 0 fun m => (0 ≤ l ∧ l ≤ h ∧ h ≤ m ∧ m ≤ (len : Int)) ∧
     bif Nat.beq wd esz then k (.sl b wd (i + l.toNat) (h.toNat - l.toNat) (some (m.toNat - l.toNat))) else False
 | _ => False
def vslcA (x : AV) (lo hi mx : Option AV) (len esz : Nat) (k : AV → Prop) : Prop :=
 match x with
 | .ptr b wd i j => vbnd lo 0 fun l => vbnd hi len fun h => vbnd mx len fun m => (0 ≤ l ∧ l ≤ h ∧ h ≤ m ∧ m ≤ (len : Int)) ∧
  k (.csl b wd i (j + l.toNat * esz) esz (h.toNat - l.toNat))
 | _ => False
def vslcStr (x : AV) (lo hi : Option AV) (k : AV → Prop) : Prop :=
 match x with
 | .p (.str s) => vbnd lo 0 fun l => vbnd hi s.length fun h => (0 ≤ l ∧ l ≤ h ∧ h ≤ (s.length : Int)) ∧
  k (.p (.str ((dropN l.toNat s).take (h.toNat - l.toNat))))
 | _ => False
def vlen (x : AV) (k : AV → Prop) : Prop :=
 match x with
 | .p (.isl _ r _) => k (.p (.int .i64 r.length))
 | .sl _ _ _ l _ => k (.p (.int .i64 l))
 | .csl _ _ _ _ _ l => k (.p (.int .i64 l))
 | _ => False
def vlenStr (x : AV) (k : AV → Prop) : Prop :=
 match x with
 | .p (.str l) => k (.p (.int .i64 l.length))
 | _ => False
def encByte (b : UInt8) : List PV := [.int .u8 b.toNat]
def vslices (h : List Blk) (x : AV) (esz : Nat) (k : List (List PV) → Prop) : Prop :=
 match x with
 | .p (.isl wd rows _) => (bif Nat.beq wd esz || rows.isEmpty then k rows else False)
 | .sl b wd i len _ => match nth .dead h b with
   | .pr wd' rows => bif Nat.beq wd wd' && Nat.beq wd esz then ∃ rs, (dropN i rows).take len = rs ∧ rs.length = len ∧ k rs else False
   | _ => False
 | .csl b wd i j e len => match nth .dead h b with
   | .pr wd' rows => bif Nat.beq wd wd' && Nat.beq e esz && Nat.beq e 1 then ∃ row rs, rows[i]? = some row ∧ ((dropN j row).take len).map (fun x => [x]) = rs ∧ rs.length = len ∧ k rs else False
   | _ => False
 | _ => False
def vrows (h : List Blk) (x : AV) (esz : Nat) (k : List (List PV) → Prop) : Prop :=
 match x with
 | .p (.str l) => (bif Nat.beq esz 1 then k (l.map encByte) else False)
 | x => vslices h x esz k
def vext (x : AV) (i : Nat) (k : AV → Prop) : Prop :=
 match x with
 | .tup l => (bif Nat.blt i l.length then force (nth .undef l i) k else False)
 | _ => False
def evL (st : St) : List Opd → List AV
 | [] => []
 | x :: r => ev st x :: evL st r
def fillA : List AV → List (Nat × Nat × AV) → Option (List AV)
 | cells, [] => some cells
 | cells, (off, size, v) :: r =>
   let cs := cellsOf v
   bif vok v && Nat.beq cs.length size && Nat.ble (off + size) cells.length then fillA (cells.take off ++ cs ++ cells.drop (off + size)) r else none
def evParts (st : St) : List (Nat × Nat × Opd) → List (Nat × Nat × AV)
 | [] => []
 | (o, s, x) :: r => (o, s, ev st x) :: evParts st r
abbrev FC := Nat → List AV → List Blk → List Nat → (AV → List Blk → Prop) → Prop
structure En where
 F : FC
 fx : Nat → Bool
 k : Nat
 G : Nat → List PV → Bool → List (List PV) → Prop
 en : Bool
def vpure (E : En) (st : St) (x : AV) (k : St → PV → Prop) : Prop :=
 match x with
 | .p x => forceP x fun x => k st x
 | .sl b wd i len _ => match nth .dead st.heap b with
   | .pr wd' rows => bif Nat.beq wd wd' && !E.fx b then ∃ rs, (dropN i rows).take len = rs ∧ rs.length = len ∧
    k ⟨killT b st.tmps, setNth (killH b st.heap) b .dead⟩ (.isl wd rs none) else False
   | _ => False
 | _ => False
def vpureL (E : En) (st : St) : List AV → (St → List PV → Prop) → Prop
 | [], k => k st []
 | x :: r, k => vpure E st x fun st y => vpureL E st r fun st ys => k st (y :: ys)
def vagg (E : En) (st : St) (x : AV) (k : St → List PV → Prop) : Prop :=
 match x with
 | .p (.agg l) => k st l
 | x => vpureL E st (cellsOf x) k
def vbsl (E : En) (st : St) : List AV → (St → List (List PV) → Prop) → Prop
 | [], k => k st []
 | x :: r, k => vagg E st x fun st row => vbsl E st r fun st rows => k st (row :: rows)
def valsOnly (it : RO) : Bool :=
 match it with
 | .alloc _ _ | .allocx _ _ _ | .box _ _ _ | .boxx _ _ _ | .bslice _ _ | .mksl _ _ _ _ _ | .bytesOf _ | .store _ _ _ | .app _ _ _ _ | .copy _ _ _ | .clr _ _ _ | .call _ _ | .callv _ _ | .mkmap _ _ | .mset _ _ _ _ _ | .ment _ _ _ _ _ | .estore _ _ _ => false
 | _ => true
def vcmpa (neg : Bool) (ks : List CK) (x y : AV) (k : AV → Prop) : Prop :=
 match x, y with
 | .p (.agg a), .p (.agg b) => plainCells ks a b ∧ k (.p (.b (bif neg then !cellsEq a b else cellsEq a b)))
 | _, _ => False
def vcmpb (neg : Bool) (x y : AV) (k : AV → Prop) : Prop :=
 match x, y with
 | .p (.b a), .p (.b b) => k (.p (.b (bif neg then !(a == b) else (a == b))))
 | _, _ => False
def vcmpp (neg : Bool) (x y : AV) (k : AV → Prop) : Prop :=
 match x, y with
 | .p (.lit (.pointer none)), .p (.lit (.pointer none)) => k (.p (.b (bif neg then false else true)))
 | .ptr _ _ _ _, .p (.lit (.pointer none)) => k (.p (.b (bif neg then true else false)))
 | .p (.irow _ _), .p (.lit (.pointer none)) => k (.p (.b (bif neg then true else false)))
 | _, _ => False
def vsnil (neg : Bool) (x : AV) (k : AV → Prop) : Prop :=
 match x with
 | .p (.isl _ rows _) => (rows = [] → k (.p (.b (!neg)))) ∧ k (.p (.b neg))
 | .sl _ _ _ l _ => (l = 0 → k (.p (.b (!neg)))) ∧ k (.p (.b neg))
 | _ => False
def vmm (isMax : Bool) (x y : AV) (k : AV → Prop) : Prop :=
 match x, y with
 | .p (.int kk a), .p (.int kb b) => sameK kk kb (k (.p (.int kk (bif isMax then max a b else min a b))))
 | _, _ => False
def vmkfn (f : Nat) (first cap : List AV) (k : AV → Prop) : Prop :=
 match allP first, allP cap with
 | some a, some c => k (.p (.fn f a c))
 | _, _ => k (.fn f first cap)
def vbuild (o : Option (List AV)) (k : AV → Prop) : Prop :=
 match o with
 | some l => k (mkAgg l)
 | none => False
def shiftP (n : Nat) : List (Nat × Nat × AV) → Option (List (Nat × Nat × AV))
 | [] => some []
 | (off, s, v) :: r => bif Nat.ble n off then (match shiftP n r with
   | some l => some ((off - n, s, v) :: l)
   | none => none) else none
def vbx (arr : List PV) (cells : List AV) (parts : Option (List (Nat × Nat × AV))) (k : AV → Prop) : Prop :=
 match parts with
 | some ps => match fillA cells ps with
   | some l => k (axAgg arr l)
   | none => False
 | none => False
def vbuildx (n : Nat) (z : PV) (rest : List PV) (parts : List (Nat × Nat × AV)) (k : AV → Prop) : Prop :=
 match parts with
 | (0, s, v) :: r => ∃ arr rest0, cellsOf v = arr.map .p ++ rest0 ∧ (vok v = true ∧ arr.length = n ∧ n + rest0.length = s ∧ rest0.length ≤ rest.length) ∧ vbx arr (rest0 ++ (rest.drop rest0.length).map .p) (shiftP n r) k
 | ps => vbx (List.replicate n z) (rest.map .p) (shiftP n ps) k
def vpick (c a b : AV) (k : AV → Prop) : Prop :=
 match c with
 | .p (.b c) => bk c fun c => match c with
   | true => force a k
   | false => force b k
 | _ => False
def vnil (x : AV) (k : AV → Prop) : Prop :=
 match x with
 | .ptr b wd i j => k (.ptr b wd i j)
 | .p (.irow row j) => k (.p (.irow row j))
 | .p (.fn f a c) => k (.p (.fn f a c))
 | .fn f a c => k (.fn f a c)
 | _ => False
def vconvI (kk : IntKind) (x : AV) (k : AV → Prop) : Prop :=
 match x with
 | .p (.int _ n) => k (.p (.int kk (kk.wrap n)))
 | _ => False
def vstrId (x : AV) (k : AV → Prop) : Prop :=
 match x with
 | .p (.str l) => k (.p (.str l))
 | _ => False
def vmkif (t : TypeId) (x : AV) (k : AV → Prop) : Prop :=
 match x with
 | .p x => k (.p (.ifc t x))
 | x => k (.ifc t x)
def ikEq : IntKind → IntKind → Bool
 | .i8, .i8 => true | .i16, .i16 => true | .i32, .i32 => true | .i64, .i64 => true
 | .u8, .u8 => true | .u16, .u16 => true | .u32, .u32 => true | .u64, .u64 => true
 | _, _ => false
def ckEq : CK → CK → Bool
 | .int a, .int b => ikEq a b
 | .b, .b => true
 | .str, .str => true
 | _, _ => false
def cksEq : List CK → List CK → Bool
 | [], [] => true
 | a :: r, c :: s => ckEq a c && cksEq r s
 | _, _ => false
def boolEq : Bool → Bool → Bool
 | true, b => b
 | false, b => !b
def cellK : CK → PV → Prop
 | .int k, .int k' _ => sameK k k' True
 | .b, .b _ => True
 | .str, .str _ => True
 | _, _ => False
def cellsK : List CK → List PV → Prop
 | [], [] => True
 | k :: ks, x :: r => cellK k x ∧ cellsK ks r
 | _, _ => False
def keyOk (ag : Bool) (ks : List CK) (x : PV) : Prop :=
 match ag, x with
 | true, .agg l => cellsK ks l
 | false, x => cellsK ks [x]
 | _, _ => False
def keyEq : PV → PV → Bool
 | .agg a, .agg b => cellsEq a b
 | x, y => cellEq x y
def mfind : List (PV × PV) → PV → Nat → Option (Nat × PV)
 | [], _, _ => none
 | (k, v) :: r, x, i => bif keyEq x k then some (i, v) else mfind r x (i + 1)
def mput : List (PV × PV) → PV → PV → List (PV × PV)
 | [], x, v => [(x, v)]
 | (k, u) :: r, x, v => bif keyEq x k then (x, v) :: r else (k, u) :: mput r x v
def setVal : List (PV × PV) → Nat → PV → List (PV × PV)
 | [], _, _ => []
 | (k, _) :: r, 0, v => (k, v) :: r
 | e :: r, n + 1, v => e :: setVal r n v
def mval (zero : PV) : Option (Nat × PV) → PV
 | some (_, v) => v
 | none => zero
@[reducible] def mgot {α : Type} : Option α → Bool
 | some _ => true
 | none => false
def mres (zero : PV) (ok : Bool) (o : Option (Nat × PV)) : AV :=
 match ok with
 | true => .tup [.p (mval zero o), .p (.b (mgot o))]
 | false => .p (mval zero o)
def pureV (x : AV) (k : PV → Prop) : Prop :=
 match x with
 | .p x => k x
 | _ => False
def vmap (h : List Blk) (m : AV) (ag : Bool) (ks : List CK) (k : Nat → List (PV × PV) → Prop) : Prop :=
 match m with
 | .mpr b => match nth .dead h b with
   | .mp ag' ks' ents => (bif boolEq ag ag' && cksEq ks ks' then k b ents else False)
   | _ => False
 | _ => False
def vmlook (h : List Blk) (ag : Bool) (ks : List CK) (zero : PV) (ok : Bool) (m x : AV) (k : AV → Prop) : Prop :=
 pureV x fun x => keyOk ag ks x ∧ vmap h m ag ks fun _ ents => ∃ o, mfind ents x 0 = o ∧ k (mres zero ok o)
def vmlen (h : List Blk) (m : AV) (k : AV → Prop) : Prop :=
 match m with
 | .mpr b => match nth .dead h b with
   | .mp _ _ ents => k (.p (.int .i64 ents.length))
   | _ => False
 | _ => False
def vval (o : RO) (st : St) (k : AV → Prop) : Prop :=
 match o with
 | .mov x => force (ev st x) k
 | .pick c a b => vpick (ev st c) (ev st a) (ev st b) k
 | .bin op x y => force (ev st x) fun x => force (ev st y) fun y => vbin op x y k
 | .cmpa neg ks x y => vcmpa neg ks (ev st x) (ev st y) k
 | .cmpb neg x y => vcmpb neg (ev st x) (ev st y) k
 | .cmpp neg x y => vcmpp neg (ev st x) (ev st y) k
 | .snil neg x => vsnil neg (ev st x) k
 | .un op x => vun op (ev st x) k
 | .load x sz ag => force (ev st x) fun a => vload st.heap a sz ag k
 | .nilchk x => vnil (ev st x) k
 | .idxA x i len esz => vidxA (ev st x) (ev st i) len esz k
 | .idxS x i esz => force (ev st x) fun x => vidxS x (ev st i) esz k
 | .idxStr x i => vidxStr (ev st x) (ev st i) k
 | .idxArr x i len esz ag => vidxArr (ev st x) (ev st i) len esz ag k
 | .fadr x off => vfadr (ev st x) off k
 | .fld x off sz ag => vfld (ev st x) off sz ag k
 | .slcS x lo hi mx esz => force (ev st x) fun x => vslcS x (lo.map (ev st)) (hi.map (ev st)) (mx.map (ev st)) esz k
 | .slcA x lo hi mx len esz => vslcA (ev st x) (lo.map (ev st)) (hi.map (ev st)) (mx.map (ev st)) len esz k
 | .slcStr x lo hi => vslcStr (ev st x) (lo.map (ev st)) (hi.map (ev st)) k
 | .len x => vlen (ev st x) k
 | .lenStr x => vlenStr (ev st x) k
 | .mm isMax x y => vmm isMax (ev st x) (ev st y) k
 | .convI kk x => vconvI kk (ev st x) k
 | .strOf x => force (ev st x) fun x => vslices st.heap x 1 fun rows => ∃ l : List UInt8, rows = l.map encByte ∧ k (.p (.str l))
 | .strId x => vstrId (ev st x) k
 | .ext x i => vext (ev st x) i k
 | .mkfn f first cap => vmkfn f (evL st first) (evL st cap) k
 | .mkif t x => force (ev st x) fun x => vmkif t x k
 | .build zero parts => vbuild (fillA (zero.map .p) (evParts st parts)) k
 | .buildx n z rest parts => vbuildx n z rest (evParts st parts) k
 | .mlook ag ks zero ok m x => force (ev st x) fun x => vmlook st.heap ag ks zero ok (ev st m) x k
 | .mlen m => vmlen st.heap (ev st m) k
 | _ => False
mutual
inductive PLe : PV → PV → Prop
 | refl (x : PV) : PLe x x
 | isl {wd : Nat} {rows rows' : List (List PV)} {cap cap' : Option Nat} : PLeR rows rows' → (cap' = none ∨ cap' = cap) → PLe (.isl wd rows cap) (.isl wd rows' cap')
 | nil {wd wd' : Nat} {cap cap' : Option Nat} : (cap' = none ∨ cap' = cap) → PLe (.isl wd [] cap) (.isl wd' [] cap')
 | agg {xs ys : List PV} : PLeL xs ys → PLe (.agg xs) (.agg ys)
inductive PLeL : List PV → List PV → Prop
 | refl (l : List PV) : PLeL l l
 | cons {x y : PV} {xs ys : List PV} : PLe x y → PLeL xs ys → PLeL (x :: xs) (y :: ys)
inductive PLeR : List (List PV) → List (List PV) → Prop
 | refl (l : List (List PV)) : PLeR l l
 | cons {x y : List PV} {xs ys : List (List PV)} : PLeL x y → PLeR xs ys → PLeR (x :: xs) (y :: ys)
end
mutual
inductive KLe (h : List Blk) (fz kp : Nat → Bool) : AV → AV → Prop
 | p {x y : PV} : PLe x y → KLe h fz kp (.p x) (.p y)
 | und (x : AV) : KLe h fz kp x .undef
 | ptr {b w i j : Nat} : kp b = true → KLe h fz kp (.ptr b w i j) (.ptr b w i j)
 | sl {b w i l : Nat} {cap cap' : Option Nat} : kp b = true → (cap' = none ∨ cap' = cap) → KLe h fz kp (.sl b w i l cap) (.sl b w i l cap')
 | csl {b w i j e l : Nat} : kp b = true → KLe h fz kp (.csl b w i j e l) (.csl b w i j e l)
 | mpr {b : Nat} : kp b = true → KLe h fz kp (.mpr b) (.mpr b)
 | fsl {b w i l : Nat} {cap : Option Nat} {rows rs : List (List PV)} {y : PV} : fz b = true → nth .dead h b = .pr w rows → (dropN i rows).take l = rs →
  rs.length = l → PLe (.isl w rs none) y → KLe h fz kp (.sl b w i l cap) (.p y)
 | fptr {b w i j : Nat} {rows : List (List PV)} {row : List PV} : fz b = true → nth .dead h b = .pr w rows → rows[i]? = some row → KLe h fz kp (.ptr b w i j) (.p (.irow row j))
 | fmx {b w j : Nat} {row : List PV} : fz b = true → nth .dead h b = .mx (row.map .p) → KLe h fz kp (.ptr b w 0 j) (.p (.irow row j))
 | fax {b w n j : Nat} {arr row : List PV} : fz b = true → nth .dead h b = .ax n arr (row.map .p) → KLe h fz kp (.ptr b w 0 j) (.p (.irow (arr ++ row) j))
 | agg {l l' : List AV} : KLeL h fz kp l l' → KLe h fz kp (.agg l) (.agg l')
 | aggp {l : List AV} {ys : List PV} : KLeL h fz kp l (ys.map .p) → KLe h fz kp (.agg l) (.p (.agg ys))
 | tup {l l' : List AV} : KLeL h fz kp l l' → KLe h fz kp (.tup l) (.tup l')
 | fn {f : Nat} {a a' c c' : List AV} : KLeL h fz kp a a' → KLeL h fz kp c c' → KLe h fz kp (.fn f a c) (.fn f a' c')
 | fnp {f : Nat} {a c : List AV} {a' c' : List PV} : KLeL h fz kp a (a'.map .p) → KLeL h fz kp c (c'.map .p) → KLe h fz kp (.fn f a c) (.p (.fn f a' c'))
 | ifc {t : TypeId} {x y : AV} : KLe h fz kp x y → KLe h fz kp (.ifc t x) (.ifc t y)
 | ifcp {t : TypeId} {x : AV} {y : PV} : KLe h fz kp x (.p y) → KLe h fz kp (.ifc t x) (.p (.ifc t y))
inductive KLeL (h : List Blk) (fz kp : Nat → Bool) : List AV → List AV → Prop
 | nil : KLeL h fz kp [] []
 | cons {x y : AV} {xs ys : List AV} : KLe h fz kp x y → KLeL h fz kp xs ys → KLeL h fz kp (x :: xs) (y :: ys)
end
inductive BLe (h : List Blk) (fz kp : Nat → Bool) : Blk → Blk → Prop
 | dead (x : Blk) : BLe h fz kp x .dead
 | mx {l l' : List AV} : KLeL h fz kp l l' → BLe h fz kp (.mx l) (.mx l')
 | pr {wd : Nat} {r r' : List (List PV)} : PLeR r r' → BLe h fz kp (.pr wd r) (.pr wd r')
 | mp {ag : Bool} {ks : List CK} {e : List (PV × PV)} : BLe h fz kp (.mp ag ks e) (.mp ag ks e)
 | ax {n : Nat} {a a' : List PV} {c c' : List AV} : PLeL a a' → KLeL h fz kp c c' → BLe h fz kp (.ax n a c) (.ax n a' c')
 | gh {l : Nat} {r : Option (List (List PV))} : BLe h fz kp (.gh l r) (.gh l r)
inductive HLe (h : List Blk) (fz kp : Nat → Bool) : List Blk → List Blk → Prop
 | nil (l : List Blk) : HLe h fz kp l []
 | cons {x y : Blk} {xs ys : List Blk} : BLe h fz kp x y → HLe h fz kp xs ys → HLe h fz kp (x :: xs) (y :: ys)
inductive TLe (h : List Blk) (fz kp : Nat → Bool) (t : List (Nat × AV)) : List (Nat × AV) → Prop
 | nil : TLe h fz kp t []
 | cons {s : Nat} {y : AV} {r : List (Nat × AV)} : KLe h fz kp (lk t s) y → TLe h fz kp t r → TLe h fz kp t ((s, y) :: r)
def fixOk (fx : Nat → Bool) (h : List Blk) : Nat → Bool
 | 0 => true
 | k + 1 => (!fx k || (match nth .dead h k with | .dead => false | _ => true)) && fixOk fx h k
def liveB (h : List Blk) (b : Nat) : Bool :=
 match nth .dead h b with
 | .dead => false
 | _ => true
def StLe (E : En) (st st' : St) : Prop :=
 (Nat.ble E.k st'.heap.length = true ∧ fixOk E.fx st'.heap E.k = true) ∧
 TLe st.heap (fun b => !liveB st'.heap b) (fun b => liveB st'.heap b) st.tmps st'.tmps ∧
 HLe st.heap (fun b => !liveB st'.heap b) (fun b => liveB st'.heap b) st.heap st'.heap
def trim (live : List Nat) (st : St) : St := ⟨live.map fun s => (s, lk st.tmps s), st.heap⟩
def matV (n wd : Nat) : AV → AV × List Blk
 | .p (.isl _ [] (some 0)) => (.sl n wd 0 0 none, [.pr wd []])
 | x => (x, [])
def setT : List (Nat × AV) → Nat → AV → List (Nat × AV)
 | [], _, _ => []
 | (k, v) :: r, n, x => bif Nat.beq k n then (k, x) :: r else (k, v) :: setT r n x
inductive MatAt where
 | slot (s wd : Nat)
 | cell (b j wd : Nat)
def St.mat1 (st : St) : MatAt → St
 | .slot s wd => match matV st.heap.length wd (lk st.tmps s) with
   | (x, bs) => ⟨setT st.tmps s x, st.heap ++ bs⟩
 | .cell b j wd => match nth .dead st.heap b with
   | .mx cells => match matV st.heap.length wd (nth .undef cells j) with
     | (x, bs) => ⟨st.tmps, setNth st.heap b (.mx (setNth cells j x)) ++ bs⟩
   | .ax n arr cells => bif Nat.ble n j then match matV st.heap.length wd (nth .undef cells (j - n)) with
     | (x, bs) => ⟨st.tmps, setNth st.heap b (.ax n arr (setNth cells (j - n) x)) ++ bs⟩
     else st
   | _ => st
def St.mat (st : St) : List MatAt → St
 | [] => st
 | m :: r => (st.mat1 m).mat r
mutual
def AV.ren (ids : List Nat) (n : Nat) : AV → AV
 | .p x => .p x
 | .agg l => .agg (AV.renL ids n l)
 | .tup l => .tup (AV.renL ids n l)
 | .fn f a c => .fn f (AV.renL ids n a) (AV.renL ids n c)
 | .ifc t x => .ifc t (AV.ren ids n x)
 | .ptr b w i j => .ptr (renB ids n b) w i j
 | .sl b w i l c => .sl (renB ids n b) w i l c
 | .csl b w i j e l => .csl (renB ids n b) w i j e l
 | .mpr b => .mpr (renB ids n b)
 | .undef => .undef
def AV.renL (ids : List Nat) (n : Nat) : List AV → List AV
 | [] => []
 | x :: r => AV.ren ids n x :: AV.renL ids n r
def renB : List Nat → Nat → Nat → Nat
 | [], n, b => n + b
 | x :: _, _, 0 => x
 | _ :: r, n, b + 1 => renB r n b
end
def Blk.ren (ids : List Nat) (n : Nat) : Blk → Blk
 | .dead => .dead
 | .mx cells => .mx (AV.renL ids n cells)
 | .pr wd rows => .pr wd rows
 | .mp ag ks e => .mp ag ks e
 | .gh l r => .gh l r
 | .ax m a c => .ax m a (AV.renL ids n c)
def renH (ids : List Nat) (n : Nat) : List Blk → List Blk
 | [] => []
 | x :: r => Blk.ren ids n x :: renH ids n r
def getIds (h : List Blk) : List Nat → List Blk
 | [] => []
 | i :: r => nth .dead h i :: getIds h r
def backH (h : List Blk) : List Nat → List Blk → List Blk
 | [], new => h ++ new
 | i :: r, x :: new => backH (setNth h i x) r new
 | _ :: _, [] => h
def killAll : List Nat → St → St
 | [], st => st
 | b :: r, st => killAll r (st.kill b)
def memN : List Nat → Nat → Bool
 | [], _ => false
 | x :: r, n => Nat.beq x n || memN r n
def distinctN : List Nat → Bool
 | [] => true
 | x :: r => !memN r x && distinctN r
def liveIds (h : List Blk) : List Nat → Bool
 | [] => true
 | i :: r => (match nth .dead h i with | .dead => false | .gh _ _ => false | _ => true) && liveIds h r
def nthIds (ids : List Nat) : List Nat → List Nat
 | [] => []
 | k :: r => nth 0 ids k :: nthIds ids r
def allFree (fx : Nat → Bool) : List Nat → Bool
 | [] => true
 | b :: r => !fx b && allFree fx r
def boundedN (n : Nat) : List Nat → Bool
 | [] => true
 | b :: r => Nat.blt b n && boundedN n r
mutual
def flatP : PV → Bool
 | .isl _ _ _ => false
 | .irow _ _ => false
 | .agg l => flatPL l
 | .fn _ a c => flatPL a && flatPL c
 | .ifc _ x => flatP x
 | _ => true
def flatPL : List PV → Bool
 | [] => true
 | x :: r => flatP x && flatPL r
end
mutual
def flatV : AV → Bool
 | .p x => flatP x
 | .tup l => flatVL l
 | _ => false
def flatVL : List AV → Bool
 | [] => true
 | x :: r => flatV x && flatVL r
end
def isNil {α : Type} : List α → Bool
 | [] => true
 | _ :: _ => false
def disjN (l : List Nat) : List Nat → Bool
 | [] => true
 | x :: r => !memN l x && disjN l r
def dropAll : List Nat → St → St
 | [], st => st
 | b :: r, st => dropAll r ⟨killT b st.tmps, setNth (killH b st.heap) b .dead⟩
def vcall0 (E : En) (q : Bool) (f : Nat) (args : List AV) (d : Option Nat) (st : St) (k : St → Prop) : Prop :=
 ∃ (ids : List Nat) (H : List Blk) (args' : List AV) (mv : List Nat) (Post : AV → List Blk → Prop) (fr : List Nat) (flat : Bool),
  E.F f args' H mv Post ∧
  ((bif q then isNil ids else true) = true ∧ (bif flat then isNil ids && isNil fr else true) = true ∧ allFree E.fx (nthIds ids mv) = true ∧ allFree E.fx fr = true ∧
    boundedN H.length mv = true ∧ boundedN st.heap.length fr = true ∧ ids.length = H.length ∧ distinctN ids = true ∧ disjN ids fr = true ∧ liveIds st.heap ids = true) ∧
  renH ids st.heap.length H = getIds st.heap ids ∧
  KLeL st.heap (fun b => flat || memN fr b) (memN ids) args (AV.renL ids st.heap.length args') ∧
  ∀ r H', Post r H' → H.length ≤ H'.length → (flat = true → flatV r = true ∧ H' = []) ∧
   k ((⟨(killAll (nthIds ids mv) (dropAll fr st)).tmps, backH (killAll (nthIds ids mv) (dropAll fr st)).heap ids (renH ids st.heap.length H')⟩ : St).put d (AV.ren ids st.heap.length r))
inductive vcall (E : En) (q : Bool) (f : Nat) (args : List AV) (d : Option Nat) (st : St) (k : St → Prop) : Prop where
 | mk (h : vcall0 E q f args d st k) : vcall E q f args d st k
def newSt (st : St) (d : Option Nat) (v : AV) (b : Blk) : St := (⟨st.tmps, st.heap ++ [b]⟩ : St).put d v
def forceN (n : Nat) (k : Nat → Prop) : Prop :=
 match n with
 | 0 => k 0
 | 1 => k 1
 | 2 => k 2
 | 3 => k 3
 | 4 => k 4
 | 5 => k 5
 | 6 => k 6
 | 7 => k 7
 | 8 => k 8
 | 9 => k 9
 | 10 => k 10
 | 11 => k 11
 | 12 => k 12
 | 13 => k 13
 | 14 => k 14
 | 15 => k 15
 | 16 => k 16
 | 17 => k 17
 | 18 => k 18
 | 19 => k 19
 | 20 => k 20
 | 21 => k 21
 | 22 => k 22
 | 23 => k 23
 | n => k n
theorem forceN_eq (n : Nat) (k : Nat → Prop) : forceN n k = k n := by unfold forceN; split <;> rfl
def forceA (x : AV) (k : AV → Prop) : Prop :=
 match x with
 | .p x => k (.p x)
 | .agg l => k (.agg l)
 | .tup l => k (.tup l)
 | .fn f a c => k (.fn f a c)
 | .ifc t x => k (.ifc t x)
 | .ptr b w i j => forceN b fun b => k (.ptr b w i j)
 | .sl b w i l c => forceN b fun b => k (.sl b w i l c)
 | .csl b w i j e l => forceN b fun b => k (.csl b w i j e l)
 | .mpr b => forceN b fun b => k (.mpr b)
 | .undef => k .undef
def forceT : List (Nat × AV) → (List (Nat × AV) → Prop) → Prop
 | [], k => k []
 | (s, x) :: r, k => forceA x fun x => forceT r fun r => k ((s, x) :: r)
def forceCs : List AV → (List AV → Prop) → Prop
 | [], k => k []
 | x :: r, k => forceA x fun x => forceCs r fun r => k (x :: r)
def forceB (x : Blk) (k : Blk → Prop) : Prop :=
 match x with
 | .dead => k .dead
 | .mx cells => forceCs cells fun c => k (.mx c)
 | .pr wd rows => k (.pr wd rows)
 | .mp ag ks e => k (.mp ag ks e)
 | .ax n a c => forceCs c fun c => k (.ax n a c)
 | .gh l r => k (.gh l r)
def forceH : List Blk → (List Blk → Prop) → Prop
 | [], k => k []
 | x :: r, k => forceB x fun x => forceH r fun r => k (x :: r)
def forceSt (st : St) (k : St → Prop) : Prop :=
 match st with
 | ⟨t, h⟩ => forceT t fun t => forceH h fun h => k ⟨t, h⟩
theorem forceA_eq (x : AV) (k : AV → Prop) : forceA x k = k x := by cases x <;> first | rfl | (rw [forceA, forceN_eq])
theorem forceT_eq : ∀ (t : List (Nat × AV)) (k : List (Nat × AV) → Prop), forceT t k = k t
 | [], k => rfl
 | (s, x) :: r, k => by rw [forceT, forceA_eq, forceT_eq r]
theorem forceCs_eq : ∀ (t : List AV) (k : List AV → Prop), forceCs t k = k t
 | [], k => rfl
 | x :: r, k => by rw [forceCs, forceA_eq, forceCs_eq r]
theorem forceB_eq (x : Blk) (k : Blk → Prop) : forceB x k = k x := by cases x <;> first | rfl | (rw [forceB, forceCs_eq])
theorem forceH_eq : ∀ (t : List Blk) (k : List Blk → Prop), forceH t k = k t
 | [], k => rfl
 | x :: r, k => by rw [forceH, forceB_eq, forceH_eq r]
theorem forceSt_eq (st : St) (k : St → Prop) : forceSt st k = k st := by obtain ⟨t, h⟩ := st; rw [forceSt, forceT_eq, forceH_eq]
def vstore0 (E : En) (st : St) (a v : AV) (sz : Nat) (k : St → Prop) : Prop :=
 match a with
 | .ptr b wd i j =>
   match nth .dead st.heap b with
   | .mx cells => match i with
     | 0 => (bif vok v && Nat.beq (cellsOf v).length sz && Nat.ble (j + sz) cells.length then
      forceSt ⟨st.tmps, setNth st.heap b (.mx (cells.take j ++ cellsOf v ++ cells.drop (j + sz)))⟩ k else False)
     | _ + 1 => False
   | .pr _ _ => bif vok v then vagg E st v fun st ys => (match nth .dead st.heap b with
     | .pr wd' rows => bif Nat.beq wd wd' then ∃ row, rows[i]? = some row ∧
      ys.length = sz ∧ j + sz ≤ row.length ∧ k ⟨st.tmps, setNth st.heap b (.pr wd (rows.set i (row.take j ++ ys ++ row.drop (j + sz))))⟩ else False
     | _ => False) else False
   | _ => False
 | _ => False
def vaxs (n : Nat) (arr : List PV) (cells : List AV) (j : Nat) (v : AV) (sz : Nat) (k : List PV → List AV → Prop) : Prop :=
 bif Nat.beq sz 1 then (j < n ∧ ∃ y, cellsOf v = [.p y] ∧ k (arr.set j y) cells) ∨
  (n ≤ j ∧ (bif vok v && Nat.beq (cellsOf v).length sz && Nat.ble (j - n + sz) cells.length then k arr (cells.take (j - n) ++ cellsOf v ++ cells.drop (j - n + sz)) else False))
 else bif Nat.ble n j then (bif vok v && Nat.beq (cellsOf v).length sz && Nat.ble (j - n + sz) cells.length then k arr (cells.take (j - n) ++ cellsOf v ++ cells.drop (j - n + sz)) else False)
 else ∃ arr' rest, cellsOf v = arr'.map .p ++ rest ∧ (vok v = true ∧ j = 0 ∧ arr'.length = n ∧ n + rest.length = sz ∧ rest.length ≤ cells.length) ∧ k arr' (rest ++ cells.drop rest.length)
def vstore (E : En) (st : St) (a v : AV) (sz : Nat) (k : St → Prop) : Prop :=
 match a with
 | .ptr b wd i j =>
   match nth .dead st.heap b with
   | .ax n arr cells => match i with
     | 0 => vaxs n arr cells j v sz fun arr cells => k ⟨st.tmps, setNth st.heap b (.ax n arr cells)⟩
     | _ + 1 => False
   | _ => vstore0 E st (.ptr b wd i j) v sz k
 | _ => False
def roomMost : Nat := 70368744177664
def vapp (E : En) (st : St) (s x : AV) (esz bytes : Nat) (d : Option Nat) (k : St → Prop) : Prop :=
 match s with
 | .p (.isl _ [] (some 0)) => vrows st.heap x esz fun xs => xs.length * bytes ≤ roomMost ∧
  k (newSt st d (.sl st.heap.length esz 0 xs.length none) (.pr esz xs))
 | .p (.isl wd rows (some c)) => vrows st.heap x esz fun xs => (c < rows.length + xs.length ∧ (rows.length + xs.length) * bytes ≤ roomMost) ∧
  (bif Nat.beq wd esz then k (newSt st d (.sl st.heap.length esz 0 (rows.length + xs.length) none) (.pr esz (rows ++ xs))) else False)
 | .p (.isl wd rows none) => vrows st.heap x esz fun xs => xs = [] ∧ k (st.put d (.p (.isl wd rows none)))
 | .sl b wd i len _ => match nth .dead st.heap b with
   | .pr wd' rows => bif Nat.beq wd wd' && Nat.beq wd esz && !E.fx b then vrows st.heap x esz fun xs =>
    i + len = rows.length ∧ (len + xs.length) * bytes ≤ roomMost ∧
    forceSt ⟨killT b st.tmps, setNth (killH b st.heap) b (.pr wd (dropN i rows ++ xs))⟩ fun st => k (st.put d (.sl b wd 0 (len + xs.length) none)) else False
   | _ => False
 | _ => False
def vcopy (st : St) (a s : AV) (esz : Nat) (d : Option Nat) (k : St → Prop) : Prop :=
 match a with
 | .sl b wd i len _ => match nth .dead st.heap b with
   | .pr wd' rows => bif Nat.beq wd wd' && Nat.beq wd esz then vrows st.heap s esz fun xs => i + len ≤ rows.length ∧
    k ((⟨st.tmps, setNth st.heap b (.pr wd (rows.take i ++ xs.take (min xs.length len) ++ rows.drop (i + min xs.length len)))⟩ : St).put d (.p (.int .i64 (min xs.length len : Nat)))) else False
   | _ => False
 | .csl b wd i j e len => match nth .dead st.heap b with
   | .pr wd' rows => bif Nat.beq wd wd' && Nat.beq e esz && Nat.beq e 1 then vrows st.heap s esz fun xs => ∃ row ys, rows[i]? = some row ∧ j + len ≤ row.length ∧
    xs.take (min xs.length len) = ys.map (fun x => [x]) ∧
    k ((⟨st.tmps, setNth st.heap b (.pr wd (rows.set i (row.take j ++ ys ++ row.drop (j + min xs.length len))))⟩ : St).put d (.p (.int .i64 (min xs.length len : Nat)))) else False
   | _ => False
 | _ => False
def vclr (st : St) (x : AV) (zero : List PV) (esz : Nat) (d : Option Nat) (k : St → Prop) : Prop :=
 match x with
 | .sl b wd i len _ => match nth .dead st.heap b with
   | .pr wd' rows => bif Nat.beq wd wd' && Nat.beq wd esz then i + len ≤ rows.length ∧
    k ((⟨st.tmps, setNth st.heap b (.pr wd (rows.take i ++ List.replicate len zero ++ rows.drop (i + len)))⟩ : St).put d (.tup [])) else False
   | _ => False
 | _ => False
def allPL (l : List AV) (k : List PV → Prop) : Prop :=
 match allP l with
 | some ps => k ps
 | none => False
def aggPL (x : AV) (k : List PV → Prop) : Prop :=
 match x with
 | .p (.agg l) => k l
 | x => allPL (cellsOf x) k
def vbox (arr : Bool) (sz : Nat) (d : Option Nat) (st : St) (v : AV) (k : St → Prop) : Prop :=
 match arr with
 | true => aggPL v fun ps => ps.length = sz ∧ k (newSt st d (.ptr st.heap.length sz 0 0) (.pr sz [ps]))
 | false => (bif vok v && Nat.beq (cellsOf v).length sz then k (newSt st d (.ptr st.heap.length sz 0 0) (.mx (cellsOf v))) else False)
def vboxx (n sz : Nat) (d : Option Nat) (st : St) (v : AV) (k : St → Prop) : Prop :=
 ∃ arr rest, cellsOf v = arr.map .p ++ rest ∧ (vok v = true ∧ arr.length = n ∧ n + rest.length = sz) ∧ k (newSt st d (.ptr st.heap.length sz 0 0) (.ax n arr rest))
def vmksl (zero : List PV) (esz bytes : Nat) (d : Option Nat) (st : St) (l c : AV) (k : St → Prop) : Prop :=
 match l, c with
 | .p (.int _ n), .p (.int _ m) => (0 ≤ n ∧ n ≤ m ∧ m * bytes ≤ roomMost ∧ m ≤ roomMost) ∧
  k (newSt st d (.sl st.heap.length esz 0 n.toNat (some m.toNat)) (.pr esz (List.replicate n.toNat zero)))
 | _, _ => False
def vbytesOf (d : Option Nat) (st : St) (x : AV) (k : St → Prop) : Prop :=
 match x with
 | .p (.str l) => k (newSt st d (.sl st.heap.length 1 0 l.length none) (.pr 1 (l.map encByte)))
 | _ => False
def vyield (en : Bool) (l : Nat) (args : List AV) (d : Option Nat) (st : St) (k : St → Prop) : Prop :=
 match st.heap with
 | .gh l' (some (y :: r)) :: h => l = l' ∧ allPL args fun ps => ps = y ∧
  ((bif en && isNil r then True else k ((⟨st.tmps, .gh l' (some r) :: h⟩ : St).put d (.p (.b true)))) ∧ k ((⟨st.tmps, .gh l' none :: h⟩ : St).put d (.p (.b false))))
 | _ => False
def vcallv (E : En) (q : Bool) (f : AV) (args : List AV) (d : Option Nat) (st : St) (k : St → Prop) : Prop :=
 match f with
 | .p (.fn f a c) => vcall E q f (a.map .p ++ args ++ c.map .p) d st k
 | .fn f a c => vcall E q f (a ++ args ++ c) d st k
 | .p (.lit (.func (.yield l) fi _)) => match q with
   | true => False
   | false => fi = #[] ∧ vyield E.en l args d st k
 | _ => False
def vmset (ag : Bool) (ks : List CK) (m x v : AV) (d : Option Nat) (st : St) (k : St → Prop) : Prop :=
 pureV x fun x => pureV v fun v => keyOk ag ks x ∧ vmap st.heap m ag ks fun b ents =>
  k ((⟨st.tmps, setNth st.heap b (.mp ag ks (mput ents x v))⟩ : St).put d .undef)
def vment (ag : Bool) (ks : List CK) (zero : PV) (m x : AV) (d : Option Nat) (st : St) (k : St → Prop) : Prop :=
 pureV x fun x => keyOk ag ks x ∧ vmap st.heap m ag ks fun b ents => ∃ o, mfind ents x 0 = o ∧
  match o with
  | some (i, v) => k (st.put d (.tup [.p v, .p (.int .i64 (i : Nat))]))
  | none => k ((⟨st.tmps, setNth st.heap b (.mp ag ks (ents ++ [(x, zero)]))⟩ : St).put d (.tup [.p zero, .p (.int .i64 ents.length)]))
def vestore (m s v : AV) (d : Option Nat) (st : St) (k : St → Prop) : Prop :=
 pureV v fun v => match m, s with
 | .mpr b, .p (.int _ n) => match nth .dead st.heap b with
   | .mp ag ks ents => (0 ≤ n ∧ n < (ents.length : Int)) ∧ k ((⟨st.tmps, setNth st.heap b (.mp ag ks (setVal ents n.toNat v))⟩ : St).put d .undef)
   | _ => False
 | _, _ => False
def vro (E : En) (q : Bool) (o : RO) (d : Option Nat) (st : St) (k : St → Prop) : Prop :=
 match o with
 | .alloc arr zero => k (newSt st d (.ptr st.heap.length zero.length 0 0) (bif arr then .pr zero.length [zero] else .mx (zero.map .p)))
 | .allocx n z rest => k (newSt st d (.ptr st.heap.length (n + rest.length) 0 0) (.ax n (List.replicate n z) (rest.map .p)))
 | .box arr x sz => force (ev st x) fun v => vbox arr sz d st v k
 | .boxx n x sz => vboxx n sz d st (ev st x) k
 | .bslice esz parts => vbsl E st (evL st parts) fun st rows => (∀ r ∈ rows, r.length = esz) ∧
  k (newSt st d (.sl st.heap.length esz 0 rows.length (some rows.length)) (.pr esz rows))
 | .mksl zero esz bytes l c => vmksl zero esz bytes d st (ev st l) (ev st c) k
 | .bytesOf x => vbytesOf d st (ev st x) k
 | .store a v sz => match q with
   | true => False
   | false => force (ev st a) fun a => force (ev st v) fun v => vstore E st a v sz fun st => k (st.put d .undef)
 | .app s x esz bytes => match q with
   | true => False
   | false => force (ev st s) fun s => force (ev st x) fun x => vapp E st s x esz bytes d k
 | .copy a s esz => match q with
   | true => False
   | false => force (ev st a) fun a => force (ev st s) fun s => vcopy st a s esz d k
 | .clr x zero esz => match q with
   | true => False
   | false => force (ev st x) fun x => vclr st x zero esz d k
 | .call f args => vcall E q f (evL st args) d st k
 | .callv f args => vcallv E q (ev st f) (evL st args) d st k
 | .mkmap ag ks => k (newSt st d (.mpr st.heap.length) (.mp ag ks []))
 | .mset ag ks m x v => match q with
   | true => False
   | false => force (ev st x) fun x => force (ev st v) fun v => vmset ag ks (ev st m) x v d st k
 | .ment ag ks zero m x => match q with
   | true => False
   | false => force (ev st x) fun x => vment ag ks zero (ev st m) x d st k
 | .estore m s v => match q with
   | true => False
   | false => force (ev st v) fun v => vestore (ev st m) (ev st s) v d st k
 | o => vval o st fun v => k (st.put d v)
def guarded (g : Option (Nat × Bool)) (d : Option Nat) (st : St) (k : St → Prop) (yes : St → Prop) : Prop :=
 match g with
 | none => yes st
 | some (s, want) => match lk st.tmps s with
   | .p (.b c) => bk c fun c => match c, want with
     | true, true | false, false => yes ⟨(s, .p (.b c)) :: st.tmps, st.heap⟩
     | _, _ => k ((⟨(s, .p (.b c)) :: st.tmps, st.heap⟩ : St).put d (.tup []))
   | .tup [] => k (st.put d (.tup []))
   | _ => False
def vops (E : En) : List It → St → (St → Prop) → Prop
 | [], st, k => k st
 | ⟨g, d, o⟩ :: r, st, k => guarded g d st (fun st => vops E r st k) fun st => vro E false o d st fun st => vops E r st k
def vdt (E : En) : DT → St → (St → Prop) → Prop
 | .done, st, k => k st
 | .take ⟨g, d, o⟩ r, st, k => guarded g d st (fun st => vdt E r st k) fun st => vval o st fun v => vdt E r (st.put d v) k
 | .alt ⟨g, d, o⟩ last r other, st, k =>
   (guarded g d st (fun st => vdt E r st k) fun st => vro E (!last) o d st fun st => vdt E r st k) ∧ vdt E other st k
 | .noalt, _, _ => True
def renT (ids : List Nat) (n : Nat) : List (Nat × AV) → List (Nat × AV)
 | [] => []
 | (s, x) :: r => (s, AV.ren ids n x) :: renT ids n r
def St.perm (st : St) (ids : List Nat) : St := ⟨renT ids ids.length st.tmps, getIds (renH ids ids.length st.heap) ids⟩
def permOk1 (fx : Nat → Bool) (ids : List Nat) : Nat → Bool
 | 0 => true
 | k + 1 => (Nat.beq (nth 0 ids (nth 0 ids k)) k && Nat.blt (nth 0 ids k) ids.length && (!(fx k || Nat.beq k 0) || Nat.beq (nth 0 ids k) k)) && permOk1 fx ids k
def permOk (fx : Nat → Bool) (n : Nat) (ids : List Nat) : Bool := Nat.beq ids.length n && permOk1 fx ids n
inductive joinK (E : En) (K : St → Prop) (st : St) : Prop
 | here (h : K st)
 | via (st' : St) (h : K st') (hle : StLe E st st')
 | perm (ids : List Nat) (st' : St) (h : K st') (hp : permOk E.fx st.heap.length ids = true) (hle : StLe E (st.perm ids) st')
def inBlk (id : Nat) (K : Ex → St → Prop) : Ex → St → Prop
 | .exit n, st => bif Nat.beq n id then K .normal st else K (.exit n) st
 | e, st => K e st
def thenK (n : St → Prop) (K : Ex → St → Prop) : Ex → St → Prop
 | .normal, st => n st
 | e, st => K e st
def condK (c : AV) (k : Bool → Prop) : Prop :=
 match c with
 | .p (.b c) => bk c k
 | _ => False
def setCond (c : Opd) (b : Bool) (st : St) : St :=
 match c with
 | .t s => ⟨(s, .p (.b b)) :: st.tmps, st.heap⟩
 | .c _ => st
def onIter (f : AV) (k : Nat → List PV → Prop) : Prop :=
 match f with
 | .p (.fn g [] caps) => k g caps
 | _ => False
def zipP : List Nat → List PV → List (Nat × AV) → List (Nat × AV)
 | p :: ps, y :: ys, t => (p, .p y) :: zipP ps ys t
 | _, _, t => t
def onlyN (n : St → Prop) : Ex → St → Prop
 | .normal, st => n st
 | _, _ => False
def roundK (live : List Nat) (K : Ex → St → Prop) (n : St → Prop) : Ex → St → Prop
 | .normal, st => n st
 | e, st => K e (trim live st)
def awp (E : En) : RC → (Ex → St → Prop) → St → Prop
 | .skip, K, st => K .normal st
 | .ops l, K, st => vops E l st (K .normal)
 | .draw t, K, st => vdt E t st (joinK E (K .normal))
 | .seq a b, K, st => awp E a (thenK (awp E b K) K) st
 | .cond c a b, K, st => condK (ev st c) fun v => match v with
   | true => awp E a K (setCond c true st)
   | false => awp E b K (setCond c false st)
 | .block id a, K, st => awp E a (inBlk id K) st
 | .loop live a, K, st => ∃ (ms : List MatAt) (α : Type) (mk : α → St) (ok : α → Prop) (mu : α → Nat),
  (∃ x, ok x ∧ StLe E ((trim live st).mat ms) (mk x)) ∧
  ∀ x, ok x → awp E a (thenK (fun st => ∃ y, ok y ∧ mu y < mu x ∧ StLe E (trim live st) (mk y)) K) (mk x)
 | .rangef live f ps asg a, K, st => onIter (ev st f) fun g caps => ∃ (en : Bool) (ys : List (List PV)) (ms : List MatAt) (α : Type) (mk : α → St) (ok : List (List PV) → α → Prop),
  E.G g caps en ys ∧ (en = true → ∀ x, ¬ ok [] x) ∧ (∀ y ∈ ys, y.length = ps.length) ∧
  (∃ x, ok ys x ∧ StLe E ((trim live st).mat ms) (mk x)) ∧
  (∀ y r x, ok (y :: r) x → awp E asg (onlyN fun st => awp E a (roundK live K fun st => ∃ x, ok r x ∧ StLe E (trim live st) (mk x)) st) ⟨zipP ps y (mk x).tmps, (mk x).heap⟩) ∧
  ∀ x, ok [] x → K .normal (mk x)
 | .exit id, K, st => K (.exit id) st
 | .ret, K, st => K .ret st
def vres1 (st : St) (r : RRes) (k : AV → Prop) : Prop :=
 match r with
 | .tmp t => force (lk st.tmps t) k
 | .cell t sz ag => vload st.heap (lk st.tmps t) sz ag k
def vres (st : St) : List RRes → (List AV → Prop) → Prop
 | [], k => k []
 | r :: rs, k => vres1 st r fun x => vres st rs fun xs => k (x :: xs)
def resV : List AV → AV
 | [x] => x
 | l => .tup l
def retK (E : En) (res : List RRes) (Post : AV → List Blk → Prop) : Ex → St → Prop
 | .exit _, _ => False
 | _, st => vres st res fun xs => ∃ r H', Post r H' ∧ (Nat.ble E.k H'.length = true ∧ fixOk E.fx H' E.k = true) ∧
  KLe st.heap (fun b => !liveB H' b) (fun b => liveB H' b) (resV xs) r ∧
  HLe st.heap (fun b => !liveB H' b) (fun b => liveB H' b) st.heap H'
def params : Nat → List AV → List (Nat × AV)
 | _, [] => []
 | n, x :: r => (n, x) :: params (n + 1) r
end Hk
namespace Hk
open Go
set_option linter.unusedVariables false
set_option linter.unusedSimpArgs false
theorem beqF {a b : Nat} (h : a ≠ b) : Nat.beq a b = false := by
 cases hb : Nat.beq a b
 ·rfl
 ·exact absurd (Nat.eq_of_beq_eq_true hb) h
structure Inj where
 m : Nat → Option (Nat × Nat × Nat)
 X : Nat → Prop
 S : Nat → Prop
 D : List Nat
 G : Prop
instance : CoeFun Inj (fun _ => Nat → Option (Nat × Nat × Nat)) := ⟨Inj.m⟩
def Inj.I (ι : Inj) (c : Nat) : Prop := ∃ b o s, ι b = some (c, o, s)
def Inj.M (ι : Inj) (c : Nat) : Prop := ι.I c ∨ ι.X c
def PV.one : PV → Bool
 | .agg _ => false
 | _ => true
inductive RP (w : World) (M : Nat → Prop) : PV → Value → Prop
 | int (k : IntKind) (n : Int) : RP w M (.int k n) (.int k n)
 | b (x : Bool) : RP w M (.b x) (.bool x)
 | str (l : List UInt8) : RP w M (.str l) (.string ⟨⟨l⟩⟩)
 | lit (v : Value) (h : oneC v = true) : RP w M (.lit v) v
 | nil {wd : Nat} {cap : Option Nat} {a : Option Addr} {c : Nat} (h : ∀ k, cap = some k → c = k) : RP w M (.isl wd [] cap) (.slice a 0 c)
 | isl {wd : Nat} {rows : List (List PV)} {cap : Option Nat} {a : Addr} {c : Nat} {cv : Nat → Nat → Value} (hs : a.spot = none) (hM : ¬ M a.block)
  (hb : a.block < w.heap.size) (hc : rows.length ≤ c) (hcap : ∀ k, cap = some k → c = k)
  (hrow : ∀ (i : Nat) (row : List PV), rows[i]? = some row → row.length = wd)
  (hone : ∀ (i : Nat) (row : List PV) (j : Nat) (x : PV), rows[i]? = some row → row[j]? = some x → PV.one x = true)
  (hcell : ∀ (i : Nat) (row : List PV) (j : Nat) (x : PV), rows[i]? = some row → row[j]? = some x → w.cell? ⟨a.block, a.off + (i * wd + j), none⟩ = some (cv i j))
  (hrp : ∀ (i : Nat) (row : List PV) (j : Nat) (x : PV), rows[i]? = some row → row[j]? = some x → RP w M x (cv i j)) : RP w M (.isl wd rows cap) (.slice (some a) rows.length c)
 | irow {row : List PV} {j : Nat} {a : Addr} {cv : Nat → Value} (hs : a.spot = none) (hM : ¬ M a.block) (hb : a.block < w.heap.size)
  (hone : ∀ (i : Nat) x, row[i]? = some x → PV.one x = true)
  (hcell : ∀ (i : Nat) x, row[i]? = some x → w.cell? ⟨a.block, a.off + i, none⟩ = some (cv i))
  (hrp : ∀ (i : Nat) x, row[i]? = some x → RP w M x (cv i)) : RP w M (.irow row j) (.pointer (some ⟨a.block, a.off + j, none⟩))
 | agg {cells : List PV} {cs : Array Value} (hl : cs.size = cells.length) (hone : ∀ (i : Nat) x, cells[i]? = some x → PV.one x = true)
  (h : ∀ (i : Nat) x, cells[i]? = some x → RP w M x (cs.getD i undef)) : RP w M (.agg cells) (.agg cs)
 | fn {f : Nat} {first cap : List PV} {fa ca : Array Value} (h1 : fa.size = first.length) (h2 : ca.size = cap.length)
  (h3 : ∀ (i : Nat) x, first[i]? = some x → RP w M x (fa.getD i undef)) (h4 : ∀ (i : Nat) x, cap[i]? = some x → RP w M x (ca.getD i undef)) :
  RP w M (.fn f first cap) (.func (.func f) fa ca)
 | ifc {t : TypeId} {x : PV} {v : Value} (h : RP w M x v) : RP w M (.ifc t x) (.iface t v)
theorem RP.oneCell {w : World} {M : Nat → Prop} {x : PV} {v : Value} (h : RP w M x v) (h1 : x.one = true) : oneC v = true := by
 cases h <;> first | rfl | assumption | (simp [PV.one] at h1)
structure Later (M : Nat → Prop) (w w' : World) (M' : Nat → Prop) : Prop where
 keep : ∀ (c : Nat) (o : Obj), ¬ M c → w.heap[c]? = some o → w'.heap[c]? = some o
 new : ∀ c, M' c → M c ∨ w.heap.size ≤ c
 grow : w.heap.size ≤ w'.heap.size
theorem Later.cell {M M' : Nat → Prop} {w w' : World} (h : Later M w w' M') {a : Addr} {v : Value} (hM : ¬ M a.block) (hc : w.cell? a = some v) :
 w'.cell? a = some v := by
 unfold World.cell? at *
 cases ho : w.heap[a.block]? with
 | none => simp [ho] at hc
 | some o => rw [h.keep _ _ hM ho]; rw [ho] at hc; exact hc
theorem Later.refl (M : Nat → Prop) (w : World) : Later M w w M := ⟨fun _ _ _ h => h, fun _ h => .inl h, Nat.le_refl _⟩
theorem RP.later {w w' : World} {M M' : Nat → Prop} (hL : Later M w w' M') {x : PV} {v : Value} (h : RP w M x v) : RP w' M' x v := by
 induction h with
 | int k n => exact .int k n
 | b x => exact .b x
 | str l => exact .str l
 | lit v h => exact .lit v h
 | nil h => exact .nil h
 | isl hs hM hb hc hcap hrow hone hcell hrp ih =>
   refine .isl hs (fun h' => ?_) (Nat.lt_of_lt_of_le hb hL.grow) hc hcap hrow hone (fun i row j x h1 h2 => hL.cell hM (hcell i row j x h1 h2)) ih
   rcases hL.new _ h' with h' | h'
   ·exact hM h'
   ·omega
 | irow hs hM hb hone hcell hrp ih =>
   refine .irow hs (fun h' => ?_) (Nat.lt_of_lt_of_le hb hL.grow) hone (fun i x h1 => hL.cell hM (hcell i x h1)) ih
   rcases hL.new _ h' with h' | h'
   ·exact hM h'
   ·omega
 | agg hl hone h ih => exact .agg hl hone ih
 | fn h1 h2 h3 h4 ih3 ih4 => exact .fn h1 h2 ih3 ih4
 | ifc h ih => exact .ifc ih
inductive RA (w : World) (ι : Inj) : AV → Value → Prop
 | p {x : PV} {v : Value} (h : RP w ι.M x v) : RA w ι (.p x) v
 | und (v : Value) : RA w ι .undef v
 | ptr {b wd i j c o s : Nat} (h : ι b = some (c, o, s)) : RA w ι (.ptr b wd i j) (.pointer (some ⟨c, o + (i * wd + j), none⟩))
 | sl {b wd i len c o s cc : Nat} {cap : Option Nat} (h : ι b = some (c, o, s)) (hl : len ≤ cc) (hcap : ∀ k, cap = some k → cc = k)
  (hs : o + (i + cc) * wd ≤ s) : RA w ι (.sl b wd i len cap) (.slice (some ⟨c, o + i * wd, none⟩) len cc)
 | slz {b wd i : Nat} {cap : Option Nat} {oa : Option Addr} (hcap : ∀ k, cap = some k → k = 0) : RA w ι (.sl b wd i 0 cap) (.slice oa 0 0)
 | csl {b wd i j esz len c o s cc : Nat} (h : ι b = some (c, o, s)) (hl : len ≤ cc) :
  RA w ι (.csl b wd i j esz len) (.slice (some ⟨c, o + (i * wd + j), none⟩) len cc)
 | cslz {b wd i j esz cc : Nat} {oa : Option Addr} : RA w ι (.csl b wd i j esz 0) (.slice oa 0 cc)
 | mpr {b c o s : Nat} (h : ι b = some (c, o, s)) : RA w ι (.mpr b) (.map (some c))
 | agg {cells : List AV} {cs : Array Value} (hl : cs.size = cells.length) (hone : ∀ (i : Nat) x, cells[i]? = some x → oneC (cs.getD i undef) = true)
  (h : ∀ (i : Nat) x, cells[i]? = some x → RA w ι x (cs.getD i undef)) : RA w ι (.agg cells) (.agg cs)
 | tup {vs : List AV} {cs : Array Value} (hl : cs.size = vs.length) (h : ∀ (i : Nat) x, vs[i]? = some x → RA w ι x (cs.getD i undef)) : RA w ι (.tup vs) (.tuple cs)
 | fn {f : Nat} {first cap : List AV} {fa ca : Array Value} (h1 : fa.size = first.length) (h2 : ca.size = cap.length)
  (h3 : ∀ (i : Nat) x, first[i]? = some x → RA w ι x (fa.getD i undef)) (h4 : ∀ (i : Nat) x, cap[i]? = some x → RA w ι x (ca.getD i undef)) :
  RA w ι (.fn f first cap) (.func (.func f) fa ca)
 | ifc {t : TypeId} {x : AV} {v : Value} (h : RA w ι x v) : RA w ι (.ifc t x) (.iface t v)
theorem RA.later {w w' : World} {ι ι' : Inj} (hL : Later ι.M w w' ι'.M) (hι : ∀ b p, ι b = some p → ι' b = some p) {x : AV} {v : Value} (h : RA w ι x v) : RA w' ι' x v := by
 induction h with
 | p h => exact .p (h.later hL)
 | und v => exact .und v
 | ptr h => exact .ptr (hι _ _ h)
 | sl h hl hcap hs => exact .sl (hι _ _ h) hl hcap hs
 | slz hcap => exact .slz hcap
 | csl h hl => exact .csl (hι _ _ h) hl
 | cslz => exact .cslz
 | mpr h => exact .mpr (hι _ _ h)
 | agg hl hone h ih => exact .agg hl hone ih
 | tup hl h ih => exact .tup hl ih
 | fn h1 h2 h3 h4 ih3 ih4 => exact .fn h1 h2 ih3 ih4
 | ifc h ih => exact .ifc ih
theorem killL_get (b : Nat) (l : List AV) (i : Nat) : (AV.killL b l)[i]? = (l[i]?).map (AV.kill b) := by
 induction l generalizing i with
 | nil => simp [AV.killL]
 | cons x r ih => cases i <;> simp [AV.killL, ih]
theorem killL_len (b : Nat) (l : List AV) : (AV.killL b l).length = l.length := by
 induction l with
 | nil => rfl
 | cons x r ih => simp [AV.killL, ih]
theorem RA.kill {w w' : World} {ι ι' : Inj} {b : Nat} (hL : Later ι.M w w' ι'.M) (hι : ∀ b', b' ≠ b → ∀ p, ι b' = some p → ι' b' = some p) {x : AV} {v : Value} (h : RA w ι x v) :
 RA w' ι' (x.kill b) v := by
 induction h with
 | p h => exact .p (h.later hL)
 | und v => exact .und v
 | ptr h =>
   rename_i b' wd i j c o s
   unfold AV.kill
   by_cases e : b' = b
   ·subst e; simp; exact .und _
   ·rw [beqF e]; exact .ptr (hι _ e _ h)
 | sl h hl hcap hs =>
   rename_i b' wd i len c o s cc cap
   unfold AV.kill
   by_cases e : b' = b
   ·subst e; simp; exact .und _
   ·rw [beqF e]; exact .sl (hι _ e _ h) hl hcap hs
 | slz hcap =>
   rename_i b' wd i cap oa
   unfold AV.kill
   by_cases e : b' = b
   ·subst e; simp; exact .und _
   ·rw [beqF e]; exact .slz hcap
 | csl h hl =>
   rename_i b' wd i j esz len c o s cc
   unfold AV.kill
   by_cases e : b' = b
   ·subst e; simp; exact .und _
   ·rw [beqF e]; exact .csl (hι _ e _ h) hl
 | cslz =>
   rename_i b' wd i j esz cc oa
   unfold AV.kill
   by_cases e : b' = b
   ·subst e; simp; exact .und _
   ·rw [beqF e]; exact .cslz
 | mpr h =>
   rename_i b' c o s
   unfold AV.kill
   by_cases e : b' = b
   ·subst e; simp; exact .und _
   ·rw [beqF e]; exact .mpr (hι _ e _ h)
 | agg hl hone h ih =>
   rw [AV.kill]
   refine .agg (by rw [killL_len]; exact hl) (fun i x hx => ?_) (fun i x hx => ?_)
   all_goals rw [killL_get] at hx; obtain ⟨y, hy, rfl⟩ := Option.map_eq_some_iff.1 hx
   ·exact hone i y hy
   ·exact ih i y hy
 | tup hl h ih =>
   rw [AV.kill]
   refine .tup (by rw [killL_len]; exact hl) (fun i x hx => ?_)
   rw [killL_get] at hx; obtain ⟨y, hy, rfl⟩ := Option.map_eq_some_iff.1 hx
   exact ih i y hy
 | fn h1 h2 h3 h4 ih3 ih4 =>
   rw [AV.kill]
   refine .fn (by rw [killL_len]; exact h1) (by rw [killL_len]; exact h2) (fun i x hx => ?_) (fun i x hx => ?_)
   all_goals rw [killL_get] at hx; obtain ⟨y, hy, rfl⟩ := Option.map_eq_some_iff.1 hx
   ·exact ih3 i y hy
   ·exact ih4 i y hy
 | ifc h ih => rw [AV.kill]; exact .ifc ih
def Thaw (n : Nat) (fz : Nat × Nat) : Prop := ∀ o, o < n → ¬ (fz.1 ≤ o ∧ o < fz.2)
def MapAt (w : World) (ι : Inj) (c : Nat) (ag : Bool) (ks : List CK) (ents : List (PV × PV)) : Prop :=
 ∃ es, w.heap[c]? = some (.map es ents.length) ∧ es.size = ents.length ∧
  ∀ (i : Nat) k v, ents[i]? = some (k, v) → keyOk ag ks k ∧ ∃ e, es[i]? = some e ∧ e.born = i ∧ RP w ι.M k e.key ∧ RP w ι.M v e.val
def RB (w : World) (ι : Inj) (p : Option (Nat × Nat × Nat)) : Blk → Prop
 | .dead => p = none
 | .mx cells => ∃ c o s cs ty fz, p = some (c, o, s) ∧ w.heap[c]? = some (.cells cs ty fz) ∧ Thaw cs.size fz ∧ cs.size = s ∧ o + cells.length ≤ s ∧
  ∀ (j : Nat) x, cells[j]? = some x → ∃ v, cs[o + j]? = some v ∧ oneC v = true ∧ RA w ι x v
 | .pr wd rows => (p = none ∧ rows = []) ∨ ∃ c o s cs ty fz, p = some (c, o, s) ∧ w.heap[c]? = some (.cells cs ty fz) ∧ Thaw cs.size fz ∧ cs.size = s ∧ o + rows.length * wd ≤ s ∧
  (∀ (i : Nat) (row : List PV), rows[i]? = some row → row.length = wd) ∧
  ∀ (i : Nat) (row : List PV) (j : Nat) (x : PV), rows[i]? = some row → row[j]? = some x → x.one = true ∧ ∃ v, cs[o + (i * wd + j)]? = some v ∧ RP w ι.M x v
 | .mp ag ks ents => ∃ c o s, p = some (c, o, s) ∧ MapAt w ι c ag ks ents
 | .gh _ _ => p = none ∧ ι.G
 | .ax n arr cells => arr.length = n ∧ ∃ c o s cs ty fz, p = some (c, o, s) ∧ w.heap[c]? = some (.cells cs ty fz) ∧ Thaw cs.size fz ∧ cs.size = s ∧ o + (arr.map AV.p ++ cells).length ≤ s ∧
  ∀ (j : Nat) x, (arr.map AV.p ++ cells)[j]? = some x → ∃ v, cs[o + j]? = some v ∧ oneC v = true ∧ RA w ι x v
def Glb (w : World) (M : Nat → Prop) : Prop :=
 ∀ g row, (g, row) ∈ glbs → ¬ M g ∧ g < w.heap.size ∧ ∀ (i : Nat) x, row[i]? = some x → PV.one x = true ∧ ∃ v, w.cell? ⟨g, i, none⟩ = some v ∧ RP w M x v
theorem Glb.later {w w' : World} {M M' : Nat → Prop} (h : Glb w M) (hL : Later M w w' M') : Glb w' M' := fun g row hg => by
 obtain ⟨h1, h2, h3⟩ := h g row hg
 refine ⟨fun h' => ?_, Nat.lt_of_lt_of_le h2 hL.grow, fun i x hx => ?_⟩
 ·rcases hL.new _ h' with h' | h'
  ·exact h1 h'
  ·omega
 ·obtain ⟨ho, v, hv, hr⟩ := h3 i x hx
  exact ⟨ho, v, hL.cell h1 hv, hr.later hL⟩
structure HRel (ι : Inj) (h : List Blk) (w : World) : Prop where
 gl : Glb w ι.M
 blk : ∀ b, RB w ι (ι b) (nth .dead h b)
 inj : ∀ b b' c o s o' s', ι b = some (c, o, s) → ι b' = some (c, o', s') → b = b'
 dis : ∀ b c o s, ι b = some (c, o, s) → ¬ ι.X c
theorem HRel.size {ι : Inj} {h : List Blk} {w : World} (hr : HRel ι h w) {b c o s : Nat} (hb : ι b = some (c, o, s)) :
 ∃ ob, w.heap[c]? = some ob ∧ nth .dead h b ≠ .dead := by
 have := hr.blk b
 cases hk : nth .dead h b with
 | dead => rw [hk, RB, hb] at this; cases this
 | mx cells =>
   rw [hk, RB, hb] at this
   obtain ⟨c', o', s', cs, ty, fz, he, h1, hf, h2, _⟩ := this
   cases he
   exact ⟨_, h1, by simp⟩
 | pr wd rows =>
   rw [hk, RB, hb] at this
   rcases this with ⟨h0, _⟩ | ⟨c', o', s', cs, ty, fz, he, h1, hf, h2, _⟩
   ·cases h0
   ·cases he
    exact ⟨_, h1, by simp⟩
 | mp ag ks ents =>
   rw [hk, RB, hb] at this
   obtain ⟨c', o', s', he, es, h1, _⟩ := this
   cases he
   exact ⟨_, h1, by simp⟩
 | gh l r =>
   rw [hk, RB, hb] at this
   cases this.1
 | ax n arr cells =>
   rw [hk, RB, hb] at this
   obtain ⟨_, c', o', s', cs, ty, fz, he, h1, hf, h2, _⟩ := this
   cases he
   exact ⟨_, h1, by simp⟩
theorem HRel.lt {ι : Inj} {h : List Blk} {w : World} (hr : HRel ι h w) {c : Nat} (hc : ι.I c) : c < w.heap.size := by
 obtain ⟨b, o, s, hb⟩ := hc
 obtain ⟨ob, h1, _⟩ := hr.size hb
 exact (Array.getElem?_eq_some_iff.1 h1).1
theorem nth_lt {α : Type} (d : α) (l : List α) (n : Nat) (h : l.length ≤ n) : nth d l n = d := by
 induction l generalizing n with
 | nil => rfl
 | cons x r ih => cases n with
   | zero => simp at h
   | succ n => simp [nth]; exact ih n (by simpa using h)
theorem nth_eq {α : Type} (d : α) (l : List α) (n : Nat) : nth d l n = (l[n]?).getD d := by
 induction l generalizing n with
 | nil => simp [nth]
 | cons x r ih => cases n with
   | zero => simp [nth]
   | succ n => simp [nth, ih]
theorem setNth_eq {α : Type} (l : List α) (n : Nat) (v : α) : setNth l n v = l.set n v := by
 induction l generalizing n with
 | nil => rfl
 | cons x r ih => cases n with
   | zero => rfl
   | succ n => simp [setNth, ih]
theorem dropN_eq {α : Type} (n : Nat) (l : List α) : dropN n l = l.drop n := by cases n <;> rfl
theorem nth_append_new {α : Type} (d : α) (l : List α) (x : α) (n : Nat) : nth d (l ++ [x]) n = if n = l.length then x else nth d l n := by
 rw [nth_eq, nth_eq, List.getElem?_append]
 by_cases h : n < l.length
 ·simp [h, Nat.ne_of_lt h]
 ·by_cases e : n = l.length
  ·subst e; simp
  ·have h1 : l[n]? = none := List.getElem?_eq_none (by omega)
   have h2 : ([x] : List α)[n - l.length]? = none := List.getElem?_eq_none (by simp; omega)
   simp [h, e, h2]
theorem nth_setNth {α : Type} (d : α) (l : List α) (n m : Nat) (v : α) (h : n < l.length) : nth d (setNth l n v) m = if m = n then v else nth d l m := by
 rw [setNth_eq, nth_eq, nth_eq, List.getElem?_set]
 by_cases e : n = m
 ·subst e; simp [h]
 ·simp [e, Ne.symm e]
theorem HRel.blen {ι : Inj} {h : List Blk} {w : World} (hr : HRel ι h w) {b : Nat} (hb : nth .dead h b ≠ .dead) : b < h.length := by
 rcases Nat.lt_or_ge b h.length with h' | h'
 ·exact h'
 ·exact absurd (nth_lt _ _ _ h') hb
theorem MapAt.later {w w' : World} {ι ι' : Inj} {c : Nat} {ag : Bool} {ks : List CK} {ents : List (PV × PV)} (hL : Later ι.M w w' ι'.M) (hk : w'.heap[c]? = w.heap[c]?) (h : MapAt w ι c ag ks ents) : MapAt w' ι' c ag ks ents := by
 obtain ⟨es, h1, h2, h3⟩ := h
 refine ⟨es, by rw [hk]; exact h1, h2, fun i k v hi => ?_⟩
 obtain ⟨g0, e, g1, g2, g3, g4⟩ := h3 i k v hi
 exact ⟨g0, e, g1, g2, g3.later hL, g4.later hL⟩
theorem RB.later {w w' : World} {ι ι' : Inj} {p : Option (Nat × Nat × Nat)} (hL : Later ι.M w w' ι'.M) (hG : ι.G → ι'.G) (hι : ∀ b p, ι b = some p → ι' b = some p)
 (hk : ∀ c o s, p = some (c, o, s) → w'.heap[c]? = w.heap[c]?) {x : Blk} (h : RB w ι p x) : RB w' ι' p x := by
 cases x with
 | dead => exact h
 | mx cells =>
   obtain ⟨c, o, s, cs, ty, fz, hp, h1, hf, h2, h3, h4⟩ := h
   refine ⟨c, o, s, cs, ty, fz, hp, by rw [hk _ _ _ hp, h1], hf, h2, h3, fun j x hx => ?_⟩
   obtain ⟨v, hv, ho, hr⟩ := h4 j x hx
   exact ⟨v, hv, ho, hr.later hL hι⟩
 | pr wd rows =>
   rcases h with h | ⟨c, o, s, cs, ty, fz, hp, h1, hf, h2, h3, h4, h5⟩
   ·exact .inl h
   ·refine .inr ⟨c, o, s, cs, ty, fz, hp, by rw [hk _ _ _ hp, h1], hf, h2, h3, h4, fun i row j x hi hx => ?_⟩
    obtain ⟨ho, v, hv, hr⟩ := h5 i row j x hi hx
    exact ⟨ho, v, hv, hr.later hL⟩
 | mp ag ks ents =>
   obtain ⟨c, o, s, hp, h1⟩ := h
   exact ⟨c, o, s, hp, h1.later hL (hk _ _ _ hp)⟩
 | gh l r => exact ⟨h.1, hG h.2⟩
 | ax n arr cells =>
   obtain ⟨hn, c, o, s, cs, ty, fz, hp, h1, hf, h2, h3, h4⟩ := h
   refine ⟨hn, c, o, s, cs, ty, fz, hp, by rw [hk _ _ _ hp, h1], hf, h2, h3, fun j x hx => ?_⟩
   obtain ⟨v, hv, ho, hr⟩ := h4 j x hx
   exact ⟨v, hv, ho, hr.later hL hι⟩
theorem killL_ps (b : Nat) (l : List PV) : AV.killL b (l.map .p) = l.map .p := by
 induction l with
 | nil => rfl
 | cons x r ih => simp [AV.killL, AV.kill, ih]
theorem killL_app (b : Nat) (l m : List AV) : AV.killL b (l ++ m) = AV.killL b l ++ AV.killL b m := by
 induction l with
 | nil => rfl
 | cons x r ih => simp [AV.killL, ih]
theorem RB.kill {w w' : World} {ι ι' : Inj} {b : Nat} {p : Option (Nat × Nat × Nat)} (hL : Later ι.M w w' ι'.M) (hG : ι.G → ι'.G) (hι : ∀ b', b' ≠ b → ∀ p, ι b' = some p → ι' b' = some p)
 (hk : ∀ c o s, p = some (c, o, s) → w'.heap[c]? = w.heap[c]?) {x : Blk} (h : RB w ι p x) :
 RB w' ι' p (x.kill b) := by
 cases x with
 | dead => exact h
 | mx cells =>
   obtain ⟨c, o, s, cs, ty, fz, hp, h1, hf, h2, h3, h4⟩ := h
   refine ⟨c, o, s, cs, ty, fz, hp, by rw [hk _ _ _ hp, h1], hf, h2, by rw [killL_len]; exact h3, fun j x hx => ?_⟩
   rw [killL_get] at hx; obtain ⟨y, hy, rfl⟩ := Option.map_eq_some_iff.1 hx
   obtain ⟨v, hv, ho, hr⟩ := h4 j y hy
   exact ⟨v, hv, ho, hr.kill hL hι⟩
 | pr wd rows =>
   rcases h with h | ⟨c, o, s, cs, ty, fz, hp, h1, hf, h2, h3, h4, h5⟩
   ·exact .inl h
   ·refine .inr ⟨c, o, s, cs, ty, fz, hp, by rw [hk _ _ _ hp, h1], hf, h2, h3, h4, fun i row j x hi hx => ?_⟩
    obtain ⟨ho, v, hv, hr⟩ := h5 i row j x hi hx
    exact ⟨ho, v, hv, hr.later hL⟩
 | mp ag ks ents =>
   obtain ⟨c, o, s, hp, h1⟩ := h
   exact ⟨c, o, s, hp, h1.later hL (hk _ _ _ hp)⟩
 | gh l r => exact ⟨h.1, hG h.2⟩
 | ax n arr cells =>
   obtain ⟨hn, c, o, s, cs, ty, fz, hp, h1, hf, h2, h3, h4⟩ := h
   have e : arr.map AV.p ++ AV.killL b cells = AV.killL b (arr.map AV.p ++ cells) := by rw [killL_app, killL_ps]
   refine ⟨hn, c, o, s, cs, ty, fz, hp, by rw [hk _ _ _ hp, h1], hf, h2, by rw [e, killL_len]; exact h3, fun j x hx => ?_⟩
   rw [e, killL_get] at hx; obtain ⟨y, hy, rfl⟩ := Option.map_eq_some_iff.1 hx
   obtain ⟨v, hv, ho, hr⟩ := h4 j y hy
   exact ⟨v, hv, ho, hr.kill hL hι⟩
theorem killH_nth (b : Nat) (h : List Blk) (n : Nat) : nth .dead (killH b h) n = (nth .dead h n).kill b := by
 induction h generalizing n with
 | nil => rfl
 | cons x r ih => cases n with
   | zero => rfl
   | succ n => simp [killH, nth, ih]
theorem killH_len (b : Nat) (h : List Blk) : (killH b h).length = h.length := by
 induction h with
 | nil => rfl
 | cons x r ih => simp [killH, ih]
theorem lk_kill (b : Nat) (t : List (Nat × AV)) (s : Nat) : lk (killT b t) s = (lk t s).kill b := by
 induction t with
 | nil => rfl
 | cons x r ih =>
   obtain ⟨k, v⟩ := x
   simp only [killT, lk, ih]
   cases Nat.beq k s <;> rfl
abbrev Jn := Option (List (List PV)) → World → (Nat → Prop) → (Nat → Prop) → Prop
def Jn.stable (J : Jn) : Prop := ∀ l (w w' : World) (T T' S : Nat → Prop), J l w T S → (∀ (c : Nat) (o : Obj), ¬ T c → w.heap[c]? = some o → w'.heap[c]? = some o) →
 (∀ c, T' c → T c ∨ w.heap.size ≤ c) → (∀ c, T' c → c < w'.heap.size) → w.heap.size ≤ w'.heap.size → (w'.os = w.os ∧ w'.output = w.output) → J l w' T' S
structure Chg (S : Nat → Prop) (w w' : World) (S' : Nat → Prop) : Prop where
 up : ∀ c, S c → S' c
 new : ∀ c, S' c → S c ∨ w.heap.size ≤ c
 lt : ∀ c, S' c → c < w'.heap.size
 keep : ∀ (c : Nat) (o : Obj), ¬ S c → w.heap[c]? = some o → w'.heap[c]? = some o
 grow : w.heap.size ≤ w'.heap.size
 os : w'.os = w.os ∧ w'.output = w.output
structure Cx where
 P : Program
 w0 : World
 own : Nat → Prop
 n : Nat
 okb : Nat → Bool
 E : En
 ι0 : Inj
 J : Jn
 yl : Nat
 dlo : Nat
 nod : Bool
 a0 : Nat → Value
 fk : ∀ b, E.fx b = true → b < E.k
 okn : ∀ t, okb t = true → t < n
 js : J.stable
 je : E.en = true → ∀ w T S, ¬ J (some []) w T S
structure Mem (cx : Cx) (ι : Inj) (h : List Blk) (w : World) : Prop where
 hr : HRel ι h w
 xl : ∀ c, ι.X c → c < w.heap.size
 xs : ∀ c, ι.S c → ι.X c
 xe : ∀ c, cx.ι0.X c → ι.X c
 se : ∀ c, ι.S c → cx.ι0.S c ∨ cx.w0.heap.size ≤ c
 ge : ι.G = cx.ι0.G
 ow : ∀ c, ι.I c → cx.own c ∨ cx.w0.heap.size ≤ c
 fr : ∀ (c : Nat), ¬ cx.own c → ¬ cx.ι0.S c → c < cx.w0.heap.size → w.heap[c]? = cx.w0.heap[c]?
 gr : cx.w0.heap.size ≤ w.heap.size
 os : w.os = cx.w0.os ∧ w.output = cx.w0.output
 fx : ∀ b, cx.E.fx b = true → ι b = cx.ι0 b
 kl : cx.E.k ≤ h.length
 dm : ∀ d ∈ ι.D, ι.X d ∧ ¬ ι.S d ∧ cx.dlo ≤ d ∧ w.heap[d]? = some (.deferred (some []))
 dn : ι.D.Nodup
 jt : ∀ l r, nth .dead h 0 = .gh l r → l = cx.yl ∧ cx.J r w ι.I ι.S
 su : ι.G → ∀ c, cx.ι0.S c → ι.S c
 dz : cx.nod = true → ι.D = []
def markOf (d : Nat) : Deferred := { target := .collected d, args := #[] }
structure Rel (cx : Cx) (ι : Inj) (st : St) (a : Act) (w : World) : Prop where
 mem : Mem cx ι st.heap w
 tm : ∀ s, RA w ι (lk st.tmps s) (a.tmps.getD s undef)
 sz : a.tmps.size = cx.n ∧ ∀ s, cx.okb s = false → a.tmps.getD s undef = cx.a0 s
 df : a.defers = ι.D.map markOf
def Kc (cx : Cx) (K : St → Prop) (a : Act) (w : World) : Prop := ∃ ι st, Rel cx ι st a w ∧ K st
def Ext (w w' : World) : Prop := ∀ (c : Nat) (o : Obj), w.heap[c]? = some o → w'.heap[c]? = some o
theorem Ext.refl (w : World) : Ext w w := fun _ _ h => h
theorem Ext.trans {w w' w'' : World} (h : Ext w w') (h' : Ext w' w'') : Ext w w'' := fun c o hc => h' c o (h c o hc)
theorem Ext.cell {w w' : World} (h : Ext w w') {a : Addr} {v : Value} (hc : w.cell? a = some v) : w'.cell? a = some v := by
 unfold World.cell? at *
 cases ho : w.heap[a.block]? with
 | none => simp [ho] at hc
 | some o => rw [h _ _ ho]; rw [ho] at hc; exact hc
theorem Ext.size {w w' : World} (h : Ext w w') : w.heap.size ≤ w'.heap.size := by
 rcases Nat.lt_or_ge w'.heap.size w.heap.size with hlt | hge
 ·have h1 : w.heap[w'.heap.size]? = some w.heap[w'.heap.size] := Array.getElem?_eq_getElem hlt
  have h2 := h _ _ h1
  simp at h2
 ·exact hge
theorem Act.put_size (a : Act) (d : Option Tmp) (v : Value) : (a.put d v).tmps.size = a.tmps.size := by cases d <;> simp [Act.put]
theorem Act.put_df (a : Act) (d : Option Tmp) (v : Value) : (a.put d v).defers = a.defers := by cases d <;> rfl
theorem tm_put {w : World} {ι : Inj} {st : St} {a : Act} {n : Nat} (h : ∀ s, RA w ι (lk st.tmps s) (a.tmps.getD s undef)) (hsz : a.tmps.size = n) {d : Option Nat}
 (hd : ∀ t, d = some t → t < n) {x : AV} {v : Value} (hx : RA w ι x v) : ∀ s, RA w ι (lk (st.put d x).tmps s) ((a.put d v).tmps.getD s undef) := by
 intro s
 cases d with
 | none => exact h s
 | some d =>
   simp only [St.put, lk, Act.put]
   have hlt := hd d rfl
   by_cases e : d = s
   ·subst e
    rw [show Nat.beq d d = true from by simp]
    simp [hsz, hlt, hx]
   ·rw [beqF e]
    have := h s
    simpa [Array.getElem?_setIfInBounds_ne e] using this
theorem put_heap (st : St) (d : Option Nat) (x : AV) : (st.put d x).heap = st.heap := by cases d <;> rfl
def Sz (cx : Cx) (a : Act) : Prop := a.tmps.size = cx.n ∧ ∀ s, cx.okb s = false → a.tmps.getD s undef = cx.a0 s
theorem Sz.put {cx : Cx} {a : Act} (h : Sz cx a) {d : Option Nat} (hd : ∀ t, d = some t → cx.okb t = true) (v : Value) : Sz cx (a.put d v) := by
 refine ⟨by rw [Act.put_size]; exact h.1, fun s hs => ?_⟩
 rw [← h.2 s hs]
 cases d with
 | none => rfl
 | some d =>
   have e : d ≠ s := fun e => by subst e; rw [hd d rfl] at hs; cases hs
   simp [Act.put, Array.getElem?_setIfInBounds_ne e]
theorem Rel.put {cx : Cx} {ι : Inj} {st : St} {a : Act} {w : World} (h : Rel cx ι st a w) {d : Option Nat} (hd : ∀ t, d = some t → cx.okb t = true) {x : AV} {v : Value}
 (hx : RA w ι x v) : Rel cx ι (st.put d x) (a.put d v) w :=
 ⟨by rw [put_heap]; exact h.mem, tm_put h.tm h.sz.1 (fun t ht => cx.okn t (hd t ht)) hx, Sz.put h.sz hd v, by rw [Act.put_df]; exact h.df⟩
end Hk
namespace Hk
open Go
set_option linter.unusedVariables false
set_option linter.unusedSimpArgs false
def pv1 : Value → Option PV
 | .int k n => some (.int k n)
 | .bool x => some (.b x)
 | .string s => some (.str s.data.toList)
 | .float k b => some (.lit (.float k b))
 | .pointer none => some (.lit (.pointer none))
 | .slice none 0 0 => some (.isl 0 [] (some 0))
 | .map none => some (.lit (.map none))
 | .nilFunc => some (.lit .nilFunc)
 | .nilIface => some (.lit .nilIface)
 | _ => none
def pvL : List Value → Option (List PV)
 | [] => some []
 | v :: r => match pv1 v, pvL r with
   | some x, some l => some (x :: l)
   | _, _ => none
def pvOf : Value → Option PV
 | .agg cs => (pvL cs.toList).map .agg
 | v => pv1 v
def cOpd : Operand → Option Opd
 | .tmp t => some (.t t)
 | .const v => (pvOf v).map .c
 | .func f => some (.c (.fn f [] []))
 | .global g => (glbRow glbs g).map fun r => .c (.irow r 0)
def cOpds : List Operand → Option (List Opd)
 | [] => some []
 | x :: r => match cOpd x, cOpds r with
   | some y, some l => some (y :: l)
   | _, _ => none
def cOpdO : Option Operand → Option (Option Opd)
 | none => some none
 | some x => (cOpd x).map some
def aggT (P : Program) (t : TypeId) : Option Bool :=
 match P.underlying t with
 | some (.struct _) | some (.array _ _) => some true
 | some _ => some false
 | none => none
def szT (P : Program) (t : TypeId) : Option Nat := (P.info? t).map (·.size)
def bytesT (P : Program) (t : TypeId) : Option Nat := (P.info? t).map (·.bytes)
def zeroT (P : Program) (t : TypeId) : Option (List PV) :=
 match (P.info? t).bind (·.zero) with
 | some v => pvL v.cells.toList
 | none => none
def isArrT (P : Program) (t : TypeId) : Bool :=
 match P.underlying t with
 | some (.array _ _) => true
 | _ => false
def plainF (sz : TypeId → Option (List CK)) : Nat → List Field → Option (List CK)
 | _, [] => some []
 | off, f :: r => if f.name = "_" ∨ f.offset ≠ off then none else match sz f.type with
   | some ks => if ks.length = 0 then none else match plainF sz (off + ks.length) r with
     | some ls => some (ks ++ ls)
     | none => none
   | none => none
def plainK (P : Program) : Nat → TypeId → Option (List CK)
 | 0, _ => none
 | d + 1, t => match P.underlying t with
   | some .bool => if szT P t = some 1 then some [.b] else none
   | some (.int k) => if szT P t = some 1 then some [.int k] else none
   | some .string => if szT P t = some 1 then some [.str] else none
   | some (.array len e) => match plainK P d e with
     | some ks => if ks.length ≠ 0 ∧ szT P e = some ks.length ∧ szT P t = some (len * ks.length) then some (List.replicate len ks).flatten else none
     | none => none
   | some (.struct fs) => if P.stoodInHeld t then none else match plainF (plainK P d) 0 fs.toList with
     | some ks => if szT P t = some ks.length then some ks else none
     | none => none
   | _ => none
def keyK (P : Program) (t : TypeId) : Option (Bool × List CK) :=
 match plainK P 20 t, aggT P t with
 | some ks, some ag => some (ag, ks)
 | _, _ => none
def zeroV (P : Program) (t : TypeId) : Option PV := ((P.info? t).bind (·.zero)).bind pvOf
def axT (P : Program) : Nat → TypeId → Nat
 | 0, _ => 0
 | d + 1, t => match P.underlying t with
   | some (.array n e) => if 16 ≤ n ∧ szT P e = some 1 then n else 0
   | some (.struct fs) => match fs.toList with
     | f :: _ => if f.offset = 0 then axT P d f.type else 0
     | [] => 0
   | _ => 0
def isStT (P : Program) (t : TypeId) : Bool :=
 match P.underlying t with
 | some (.struct _) => true
 | _ => false
def eqPV : PV → PV → Bool
 | .int k a, .int l b => decide (k = l) && decide (a = b)
 | .b a, .b b => a == b
 | _, _ => false
def cAlloc (P : Program) (t : TypeId) (z : List PV) : RO :=
 let n := axT P 10 t
 match z with
 | [] => .alloc (isArrT P t) z
 | z0 :: _ => if isStT P t = true ∧ 0 < n ∧ n ≤ z.length ∧ (z.take n).all (eqPV z0) = true then .allocx n z0 (z.drop n) else .alloc (isArrT P t) z
def cBox (P : Program) (t : TypeId) (x : Opd) (s : Nat) : RO :=
 let n := axT P 10 t
 if isStT P t = true ∧ 0 < n ∧ n ≤ s then .boxx n x s else .box (isArrT P t) x s
def cBuild (P : Program) (t : TypeId) (z : List PV) (parts : List (Nat × Nat × Opd)) : RO :=
 let n := axT P 10 t
 match z with
 | [] => .build z parts
 | z0 :: _ => if 0 < n ∧ n ≤ z.length ∧ (z.take n).all (eqPV z0) = true then .buildx n z0 (z.drop n) parts else .build z parts
theorem cBuild_cases (P : Program) (t : TypeId) (z : List PV) (ps : List (Nat × Nat × Opd)) : cBuild P t z ps = .build z ps ∨
 ∃ n z0 rest, cBuild P t z ps = .buildx n z0 rest ps ∧ n ≤ z.length ∧ (z.take n).all (eqPV z0) = true ∧ z.drop n = rest := by
 unfold cBuild
 cases z with
 | nil => exact .inl rfl
 | cons z0 r =>
   simp only
   split
   ·rename_i h; exact .inr ⟨_, _, _, rfl, h.2.1, h.2.2, rfl⟩
   ·exact .inl rfl
theorem cAlloc_cases (P : Program) (t : TypeId) (z : List PV) : cAlloc P t z = .alloc (isArrT P t) z ∨
 ∃ n z0 rest, cAlloc P t z = .allocx n z0 rest ∧ n ≤ z.length ∧ (z.take n).all (eqPV z0) = true ∧ z.drop n = rest := by
 unfold cAlloc
 cases z with
 | nil => exact .inl rfl
 | cons z0 r =>
   simp only
   split
   ·rename_i h; exact .inr ⟨_, _, _, rfl, h.2.2.1, h.2.2.2, rfl⟩
   ·exact .inl rfl
theorem cBox_cases (P : Program) (t : TypeId) (x : Opd) (s : Nat) : cBox P t x s = .box (isArrT P t) x s ∨ ∃ n, cBox P t x s = .boxx n x s := by
 unfold cBox
 simp only
 split
 ·exact .inr ⟨_, rfl⟩
 ·exact .inl rfl
def cParts (places : Nat → Option (Nat × Nat)) : List (Nat × Operand) → Option (List (Nat × Nat × Opd))
 | [] => some []
 | (i, x) :: r => match places i, cOpd x, cParts places r with
   | some (o, s), some y, some l => some ((o, s, y) :: l)
   | _, _, _ => none
def cDense (n : Nat) : List (Nat × Operand) → Option (List Opd)
 | [] => some []
 | (i, x) :: r => if i = n then match cOpd x, cDense (n + 1) r with
   | some y, some l => some (y :: l)
   | _, _ => none else none
def cBin (P : Program) (op : BinOp) (t : TypeId) (x y : Opd) : Option RO :=
 match P.underlying t with
 | some (.int _) | some .string => some (.bin op x y)
 | some .bool => match op with
   | .eql => some (.cmpb false x y)
   | .neq => some (.cmpb true x y)
   | _ => none
 | some (.slice _) => match y, op with
   | .c (.isl 0 [] (some 0)), .eql => some (.snil false x)
   | .c (.isl 0 [] (some 0)), .neq => some (.snil true x)
   | _, _ => none
 | some (.pointer e) => if (szT P e).getD 0 = 0 then none else match op with
   | .eql => some (.cmpp false x y)
   | .neq => some (.cmpp true x y)
   | _ => none
 | some (.struct _) | some (.array _ _) => match plainK P 20 t with
   | some ks => if P.eqGuardType P.depth t = false then match op with
     | .eql => some (.cmpa false ks x y)
     | .neq => some (.cmpa true ks x y)
     | _ => none else none
   | none => none
 | _ => none
def cop (P : Program) (o : Oper) : Option RO :=
 match o.op with
 | .move x | .assign x => (cOpd x).map .mov
 | .pick c a b => match cOpd c, cOpd a, cOpd b with
   | some c, some a, some b => some (.pick c a b)
   | _, _, _ => none
 | .binOp op t x y _ => match cOpd x, cOpd y with
   | some x, some y => cBin P op t x y
   | _, _ => none
 | .unOp op _ x => (cOpd x).map (.un op)
 | .alloc e => (zeroT P e).map (cAlloc P e)
 | .box e x => match cOpd x, szT P e with
   | some x, some s => some (cBox P e x s)
   | _, _ => none
 | .build t parts => match P.underlying t, zeroT P t with
   | some (.struct fs), some z => if fs.toList.all (fun f => (szT P f.type).isSome) then
    (cParts (fun i => (fs.map fun f => (f.offset, (szT P f.type).getD 0))[i]?) parts.toList).map (cBuild P t z) else none
   | some (.array _ e), some z => match szT P e with
     | some s => (cParts (fun i => some (i * s, s)) parts.toList).map (.build z)
     | none => none
   | _, _ => none
 | .buildSlice t len parts => match P.underlying t with
   | some (.slice e) => match szT P e, cDense 0 parts.toList with
     | some s, some l => if l.length = len ∧ len * s ≤ 2 ^ 24 ∧ 0 < s ∧ (zeroT P e).isSome then some (.bslice s l) else none
     | _, _ => none
   | _ => none
 | .load t x => match cOpd x, szT P t, aggT P t with
   | some x, some s, some g => some (.load x s g)
   | _, _, _ => none
 | .store t x v => match cOpd x, cOpd v, szT P t with
   | some x, some v, some s => some (.store x v s)
   | _, _, _ => none
 | .nilCheck x => (cOpd x).map .nilchk
 | .fieldAddr t x f => match P.underlying t, cOpd x with
   | some (.struct fs), some x => match fs[f]? with
     | some fd => match szT P fd.type with
       | some (_ + 1) => some (.fadr x fd.offset)
       | _ => none
     | none => none
   | _, _ => none
 | .field t x f => match P.underlying t, cOpd x with
   | some (.struct fs), some x => match fs[f]? with
     | some fd => match szT P fd.type, aggT P fd.type with
       | some s, some g => some (.fld x fd.offset s g)
       | _, _ => none
     | none => none
   | _, _ => none
 | .indexAddr t x i => match P.underlying t, cOpd x, cOpd i with
   | some (.array n e), some x, some i => (szT P e).map (.idxA x i n)
   | some (.slice e), some x, some i => (szT P e).map (.idxS x i)
   | _, _, _ => none
 | .index t x i => match P.underlying t, cOpd x, cOpd i with
   | some (.array n e), some x, some i => match szT P e, aggT P e with
     | some s, some g => some (.idxArr x i n s g)
     | _, _ => none
   | some .string, some x, some i => some (.idxStr x i)
   | _, _, _ => none
 | .slice t x lo hi mx => match P.underlying t, cOpd x, cOpdO lo, cOpdO hi, cOpdO mx with
   | some (.array n e), some x, some lo, some hi, some mx => (szT P e).bind fun s => if mx.isSome && hi.isNone then none else some (.slcA x lo hi mx n s)
   | some (.slice e), some x, some lo, some hi, some mx => (szT P e).bind fun s => if mx.isSome && hi.isNone then none else some (.slcS x lo hi mx s)
   | some .string, some x, some lo, some hi, some none => some (.slcStr x lo hi)
   | _, _, _, _, _ => none
 | .convert s d x => match P.underlying s, P.underlying d, cOpd x with
   | some (.int _), some (.int k), some x => some (.convI k x)
   | some .string, some .string, some x => some (.strId x)
   | some (.slice e), some .string, some x => match P.underlying e with
     | some (.int .u8) => some (.strOf x)
     | _ => none
   | some .string, some (.slice e), some x => match P.underlying e with
     | some (.int .u8) => some (.bytesOf x)
     | _ => none
   | _, _, _ => none
 | .makeInterface t x => match P.underlying t, cOpd x with
   | some (.interface _), _ => none
   | some _, some x => some (.mkif t x)
   | _, _ => none
 | .makeFunc (.func f) first cap => match cOpds first.toList, cOpds cap.toList with
   | some a, some c => some (.mkfn f a c)
   | _, _ => none
 | .makeSlice t l c => match P.underlying t, cOpd l, cOpd c with
   | some (.slice e), some l, some c => match zeroT P e, szT P e, bytesT P e with
     | some z, some s, some b => if z.length = s ∧ 0 < s ∧ 0 < b then some (.mksl z s b l c) else none
     | _, _, _ => none
   | _, _, _ => none
 | .extract x i => (cOpd x).map fun x => .ext x i
 | .call c => match c.callee with
   | .value (.func f) => (cOpds c.args.toList).map (.call f)
   | .value x => match cOpd x, cOpds c.args.toList with
     | some x, some l => some (.callv x l)
     | _, _ => none
   | .builtin .len => match c.args.toList, c.argTypes.toList with
     | [x], [t] => match P.underlying t, cOpd x with
       | some .string, some x => some (.lenStr x)
       | some (.slice _), some x => some (.len x)
       | some (.map _ _), some x => some (.mlen x)
       | _, _ => none
     | _, _ => none
   | .builtin .append => match c.args.toList, c.argTypes.toList with
     | [s, x], [t, u] => match P.underlying t, P.underlying u, cOpd s, cOpd x with
       | some (.slice e), some (.slice _), some s, some x | some (.slice e), some .string, some s, some x => match zeroT P e, szT P e, bytesT P e with
         | some z, some n, some b => if z.length = n ∧ 0 < n ∧ 0 < b then some (.app s x n b) else none
         | _, _, _ => none
       | _, _, _, _ => none
     | _, _ => none
   | .builtin .copy => match c.args.toList, c.argTypes.toList with
     | [a, s], [t, _] => match P.underlying t, cOpd a, cOpd s with
       | some (.slice e), some a, some s => (szT P e).map fun n => .copy a s n
       | _, _, _ => none
     | _, _ => none
   | .builtin .max => match c.args.toList with
     | [x, y] => match cOpd x, cOpd y with
       | some x, some y => some (.mm true x y)
       | _, _ => none
     | _ => none
   | .builtin .min => match c.args.toList with
     | [x, y] => match cOpd x, cOpd y with
       | some x, some y => some (.mm false x y)
       | _, _ => none
     | _ => none
   | .builtin .clear => match c.args.toList, c.argTypes.toList with
     | [x], [t] => match P.underlying t, cOpd x with
       | some (.slice e), some x => match zeroT P e, szT P e with
         | some z, some n => if z.length = n ∧ 0 < n then some (.clr x z n) else none
         | _, _ => none
       | _, _ => none
     | _, _ => none
   | _ => none
 | .makeMap t none => match P.underlying t with
   | some (.map k _) => (keyK P k).map fun (ag, ks) => .mkmap ag ks
   | _ => none
 | .lookup t m x ok => match P.underlying t with
   | some (.map k e) => match keyK P k, zeroV P e, cOpd m, cOpd x with
     | some (ag, ks), some z, some m, some x => some (.mlook ag ks z ok m x)
     | _, _, _, _ => none
   | _ => none
 | .mapUpdate t m x v | .insert t m x v => match P.underlying t with
   | some (.map k _) => match keyK P k, cOpd m, cOpd x, cOpd v with
     | some (ag, ks), some m, some x, some v => some (.mset ag ks m x v)
     | _, _, _, _ => none
   | _ => none
 | .mapEntry t m x => match P.underlying t with
   | some (.map k e) => match keyK P k, zeroV P e, cOpd m, cOpd x with
     | some (ag, ks), some z, some m, some x => some (.ment ag ks z m x)
     | _, _, _, _ => none
   | _ => none
 | .entryStore _ m s v => match cOpd m, cOpd s, cOpd v with
   | some m, some s, some v => some (.estore m s v)
   | _, _, _ => none
 | _ => none
end Hk
namespace Hk
open Go
set_option linter.unusedVariables false
set_option linter.unusedSimpArgs false
theorem force_of {v : AV} {k : AV → Prop} (h : force v k) : k v := by
 cases v with
 | p x => cases x <;> exact h
 | _ => exact h
theorem forceP_of {v : PV} {k : PV → Prop} (h : forceP v k) : k v := by cases v <;> exact h
theorem sameK_of {a b : IntKind} {A : Prop} (h : sameK a b A) : a = b ∧ A := by
 cases a <;> cases b <;> first | exact ⟨rfl, h⟩ | exact h.elim
theorem add_none (c x n : Nat) : (⟨c, x, none⟩ : Addr).add n = ⟨c, x + n, none⟩ := by
 unfold Addr.add
 by_cases h : n = 0 <;> simp [h]
theorem add_spot {a : Addr} (h : a.spot = none) (n : Nat) : a.add n = ⟨a.block, a.off + n, none⟩ := by
 obtain ⟨b, o, s⟩ := a
 simp at h; subst h
 exact add_none b o n
theorem pv1_sound {w : World} {M : Nat → Prop} {v : Value} {x : PV} (h : pv1 v = some x) : RP w M x v ∧ x.one = true := by
 unfold pv1 at h
 split at h <;> first
  | (cases h; exact ⟨.int _ _, rfl⟩)
  | (cases h; exact ⟨.b _, rfl⟩)
  | (cases h; exact ⟨.str _, rfl⟩)
  | (cases h; exact ⟨.lit _ rfl, rfl⟩)
  | (cases h; exact ⟨.nil (by simp), rfl⟩)
  | cases h
theorem pvL_sound {w : World} {M : Nat → Prop} {l : List Value} {xs : List PV} (h : pvL l = some xs) :
 xs.length = l.length ∧ ∀ (i : Nat) x, xs[i]? = some x → x.one = true ∧ ∃ v, l[i]? = some v ∧ RP w M x v := by
 induction l generalizing xs with
 | nil => simp [pvL] at h; subst h; simp
 | cons v r ih =>
   unfold pvL at h
   split at h
   ·rename_i x l h1 h2
    cases h
    obtain ⟨hl, hi⟩ := ih h2
    refine ⟨by simp [hl], fun i y hy => ?_⟩
    cases i with
    | zero => simp at hy; subst hy; exact ⟨(pv1_sound (w := w) (M := M) h1).2, v, by simp, (pv1_sound h1).1⟩
    | succ i => simp at hy; simpa using hi i y hy
   ·cases h
theorem pvOf_sound {w : World} {M : Nat → Prop} {v : Value} {x : PV} (h : pvOf v = some x) : RP w M x v := by
 unfold pvOf at h
 split at h
 ·rename_i cs
  obtain ⟨xs, h1, rfl⟩ := Option.map_eq_some_iff.1 h
  obtain ⟨hl, hi⟩ := pvL_sound (w := w) (M := M) h1
  refine .agg (by rw [hl]; simp) (fun i x hx => (hi i x hx).1) (fun i x hx => ?_)
  obtain ⟨_, v, hv, hr⟩ := hi i x hx
  have : cs.getD i undef = v := by
   simp only [Array.getD_eq_getD_getElem?]
   rw [← Array.getElem?_toList, hv]; rfl
  rw [this]; exact hr
 ·exact (pv1_sound h).1
theorem RA_int {w : World} {ι : Inj} {k : IntKind} {n : Int} {v : Value} (h : RA w ι (.p (.int k n)) v) : v = .int k n := by
 obtain ⟨⟨⟩⟩ | _ := h; rfl
theorem RA_b {w : World} {ι : Inj} {x : Bool} {v : Value} (h : RA w ι (.p (.b x)) v) : v = .bool x := by
 obtain ⟨⟨⟩⟩ | _ := h; rfl
theorem RA_str {w : World} {ι : Inj} {l : List UInt8} {v : Value} (h : RA w ι (.p (.str l)) v) : v = .string ⟨⟨l⟩⟩ := by
 obtain ⟨⟨⟩⟩ | _ := h; rfl
theorem RA_lit {w : World} {ι : Inj} {u v : Value} (h : RA w ι (.p (.lit u)) v) : v = u := by
 obtain ⟨⟨⟩⟩ | _ := h; rfl
section
variable {cx : Cx} {ι : Inj} {st : St} {a : Act} {w : World}
theorem glbRow_mem {l : List (Nat × List PV)} {g : Nat} {r : List PV} (h : glbRow l g = some r) : (g, r) ∈ l := by
 induction l with
 | nil => cases h
 | cons x s ih =>
   obtain ⟨n, q⟩ := x
   unfold glbRow at h
   by_cases e : n = g
   ·subst e; simp at h; subst h; simp
   ·rw [beqF e] at h; exact List.mem_cons_of_mem _ (ih h)
theorem glb_sound (gl : Glb w ι.M) {g : Nat} {r : List PV} (h : glbRow glbs g = some r) : RA w ι (.p (.irow r 0)) (a.eval (.global g)) := by
 obtain ⟨h1, h2, h3⟩ := gl g r (glbRow_mem h)
 let cv : Nat → Value := fun i => (w.cell? ⟨g, i, none⟩).getD undef
 have hcv : ∀ (i : Nat) x, r[i]? = some x → w.cell? ⟨g, i, none⟩ = some (cv i) ∧ RP w ι.M x (cv i) := fun i x hx => by
  obtain ⟨_, v, hv, hr⟩ := h3 i x hx
  have e : cv i = v := by show (w.cell? _).getD undef = v; rw [hv]; rfl
  rw [e]; exact ⟨hv, hr⟩
 exact .p (.irow (a := ⟨g, 0, none⟩) (cv := cv) rfl h1 h2 (fun i x hx => (h3 i x hx).1) (fun i x hx => by simpa using (hcv i x hx).1) (fun i x hx => (hcv i x hx).2))
theorem ev_sound (gl : Glb w ι.M) (tm : ∀ s, RA w ι (lk st.tmps s) (a.tmps.getD s undef)) {o : Operand} {o' : Opd} (h : cOpd o = some o') : RA w ι (ev st o') (a.eval o) := by
 unfold cOpd at h
 split at h
 ·cases h; exact tm _
 ·obtain ⟨x, h1, rfl⟩ := Option.map_eq_some_iff.1 h
  exact .p (pvOf_sound h1)
 ·cases h; exact .p (.fn (by simp) (by simp) (by simp) (by simp))
 ·obtain ⟨r, h1, rfl⟩ := Option.map_eq_some_iff.1 h
  exact glb_sound gl h1
theorem evL_sound (gl : Glb w ι.M) (tm : ∀ s, RA w ι (lk st.tmps s) (a.tmps.getD s undef)) {l : List Operand} {l' : List Opd} (h : cOpds l = some l') :
 (evL st l').length = l.length ∧ ∀ (i : Nat) x, (evL st l')[i]? = some x → RA w ι x ((l.map a.eval).toArray.getD i undef) := by
 induction l generalizing l' with
 | nil => simp [cOpds] at h; subst h; simp [evL]
 | cons o r ih =>
   unfold cOpds at h
   split at h
   ·rename_i y l h1 h2
    cases h
    obtain ⟨hl, hi⟩ := ih h2
    refine ⟨by simp [evL, hl], fun i x hx => ?_⟩
    cases i with
    | zero => simp [evL] at hx; subst hx; simpa using ev_sound gl tm h1
    | succ i => simp [evL] at hx; simpa using hi i x hx
   ·cases h
def Vals (P : Program) (w : World) (ι : Inj) (k : AV → Prop) (s : Sem Value) : Prop :=
 ∃ av v, k av ∧ RA w ι av v ∧ ∀ w', Ext w w' → s.run P w' = .ok v w'
theorem Vals.mk {P : Program} {k : AV → Prop} {s : Sem Value} {av : AV} {v : Value} (hk : k av) (hr : RA w ι av v)
 (h : ∀ w', Ext w w' → s.run P w' = .ok v w') : Vals P w ι k s := ⟨av, v, hk, hr, h⟩
theorem run_underlying {P : Program} {t : TypeId} {d : TypeDesc} (h : P.underlying t = some d) (w : World) : (underlying t).run P w = .ok d w := by
 simp [underlying, h]
theorem run_typeInfo {P : Program} {t : TypeId} {i : TypeInfo} (h : P.info? t = some i) (w : World) : (typeInfo t).run P w = .ok i w := by
 simp [typeInfo, h]
theorem run_sizeOf {P : Program} {t : TypeId} {s : Nat} (h : szT P t = some s) (w : World) : (Go.sizeOf t).run P w = .ok s w := by
 unfold szT at h
 obtain ⟨i, h1, rfl⟩ := Option.map_eq_some_iff.1 h
 simp [Go.sizeOf, run_typeInfo h1]
theorem run_isAgg {P : Program} {t : TypeId} {g : Bool} (h : aggT P t = some g) (w : World) : (isAgg t).run P w = .ok g w := by
 unfold aggT at h
 unfold isAgg
 split at h
 ·cases h; rename_i h1; simp [run_underlying h1]
 ·cases h; rename_i h1; simp [run_underlying h1]
 ·cases h; rename_i d h1 h2 h3
  simp only [Sem.run_bind, run_underlying h3, Result.andThen_ok]
  cases d <;> first | rfl | exact absurd h3 (by simp_all)
 ·cases h
theorem vbin_sound {P : Program} {op : BinOp} {t : TypeId} {xo yo : Operand} {x y : AV} {v u : Value} {k : AV → Prop} (hx : RA w ι x v) (hy : RA w ι y u) (h : vbin op x y k) :
 Vals P w ι k (do eqGuard op t xo yo v u; binOp op t v u) := by
 unfold vbin at h
 split at h
 ·
  rw [RA_int hx, RA_int hy]
  cases op
  case add => obtain ⟨e, h1⟩ := sameK_of h; subst e; exact .mk h1 (.p (.int _ _)) fun w' _ => by simp [eqGuard, Go.binOp, Op.intArith, intAr]
  case sub => obtain ⟨e, h1⟩ := sameK_of h; subst e; exact .mk h1 (.p (.int _ _)) fun w' _ => by simp [eqGuard, Go.binOp, Op.intArith, intAr]
  case mul => obtain ⟨e, h1⟩ := sameK_of h; subst e; exact .mk h1 (.p (.int _ _)) fun w' _ => by simp [eqGuard, Go.binOp, Op.intArith, intAr]
  case and => obtain ⟨e, h1⟩ := sameK_of h; subst e; exact .mk h1 (.p (.int _ _)) fun w' _ => by simp [eqGuard, Go.binOp, Op.intBits, intAr]
  case or => obtain ⟨e, h1⟩ := sameK_of h; subst e; exact .mk h1 (.p (.int _ _)) fun w' _ => by simp [eqGuard, Go.binOp, Op.intBits, intAr]
  case xor => obtain ⟨e, h1⟩ := sameK_of h; subst e; exact .mk h1 (.p (.int _ _)) fun w' _ => by simp [eqGuard, Go.binOp, Op.intBits, intAr]
  case andNot => obtain ⟨e, h1⟩ := sameK_of h; subst e; exact .mk h1 (.p (.int _ _)) fun w' _ => by simp [eqGuard, Go.binOp, Op.intBits, intAr]
  case quo => obtain ⟨e, h0, h1⟩ := sameK_of h; subst e; exact .mk h1 (.p (.int _ _)) fun w' _ => by simp [eqGuard, Go.binOp, Op.intDiv, intAr, h0]
  case rem => obtain ⟨e, h0, h1⟩ := sameK_of h; subst e; exact .mk h1 (.p (.int _ _)) fun w' _ => by simp [eqGuard, Go.binOp, Op.intDiv, intAr, h0]
  case shl => obtain ⟨h0, h1⟩ := h; exact .mk h1 (.p (.int _ _)) fun w' _ => by simp [eqGuard, Go.binOp, Op.shift, intAr, Int.not_lt.2 h0]
  case shr => obtain ⟨h0, h1⟩ := h; exact .mk h1 (.p (.int _ _)) fun w' _ => by simp [eqGuard, Go.binOp, Op.shift, intAr, Int.not_lt.2 h0]
  case eql => obtain ⟨e, h1⟩ := sameK_of h; subst e; exact .mk h1 (.p (.b _)) fun w' _ => by simp [eqGuard, Go.binOp, Op.intCmp, intCm]
  case neq => obtain ⟨e, h1⟩ := sameK_of h; subst e; exact .mk h1 (.p (.b _)) fun w' _ => by simp [eqGuard, Go.binOp, Op.intCmp, intCm]
  case lss => obtain ⟨e, h1⟩ := sameK_of h; subst e; exact .mk h1 (.p (.b _)) fun w' _ => by simp [eqGuard, Go.binOp, Op.intCmp, intCm]
  case leq => obtain ⟨e, h1⟩ := sameK_of h; subst e; exact .mk h1 (.p (.b _)) fun w' _ => by simp [eqGuard, Go.binOp, Op.intCmp, intCm]
  case gtr => obtain ⟨e, h1⟩ := sameK_of h; subst e; exact .mk h1 (.p (.b _)) fun w' _ => by simp [eqGuard, Go.binOp, Op.intCmp, intCm]
  case geq => obtain ⟨e, h1⟩ := sameK_of h; subst e; exact .mk h1 (.p (.b _)) fun w' _ => by simp [eqGuard, Go.binOp, Op.intCmp, intCm]
 ·
  rw [RA_str hx, RA_str hy]
  rename_i la lb
  have e3 : ∀ l : List UInt8, (⟨⟨l⟩⟩ : ByteArray).toList = l := fun l => ByteArray.toList_mk l
  cases op <;> simp only at h
  case add =>
   obtain ⟨h0, h⟩ := h
   refine .mk h (.p (.str _)) fun w' _ => ?_
   have hs : ¬ ((((⟨⟨la⟩⟩ : ByteArray).size + (⟨⟨lb⟩⟩ : ByteArray).size : Nat) : Int) > IntKind.i64.max) := by
    show ¬ ((((la.length + lb.length : Nat)) : Int) > 9223372036854775807)
    omega
   have hc : (⟨⟨la⟩⟩ : ByteArray) ++ ⟨⟨lb⟩⟩ = ⟨⟨la ++ lb⟩⟩ := by apply ByteArray.ext; simp
   simp only [eqGuard, Go.binOp, Op.stringOp, if_neg hs, hc]
   rfl
  case eql => exact .mk h (.p (.b _)) fun w' _ => by simp [eqGuard, Go.binOp, Op.stringOp, strCm, e3]
  case neq => exact .mk h (.p (.b _)) fun w' _ => by simp [eqGuard, Go.binOp, Op.stringOp, strCm, e3]
  case lss => exact .mk h (.p (.b _)) fun w' _ => by simp [eqGuard, Go.binOp, Op.stringOp, strCm, e3]
  case leq => exact .mk h (.p (.b _)) fun w' _ => by simp [eqGuard, Go.binOp, Op.stringOp, strCm, e3]
  case gtr => exact .mk h (.p (.b _)) fun w' _ => by simp [eqGuard, Go.binOp, Op.stringOp, strCm, e3]
  case geq => exact .mk h (.p (.b _)) fun w' _ => by simp [eqGuard, Go.binOp, Op.stringOp, strCm, e3]
  all_goals exact h.elim
 ·exact h.elim
end
end Hk
namespace Hk
open Go
set_option linter.unusedVariables false
set_option linter.unusedSimpArgs false
section
variable {P : Program} {ι : Inj} {st : St} {a : Act} {w : World}
def RowAt (w : World) (M : Nat → Prop) (c off : Nat) (row : List PV) : Prop :=
 ∀ (j : Nat) x, row[j]? = some x → x.one = true ∧ ∃ v, w.cell? ⟨c, off + j, none⟩ = some v ∧ RP w M x v
def CellsAt (w : World) (ι : Inj) (c off : Nat) (cells : List AV) : Prop :=
 ∀ (j : Nat) x, cells[j]? = some x → ∃ v, w.cell? ⟨c, off + j, none⟩ = some v ∧ oneC v = true ∧ RA w ι x v
theorem RP.one_of {w : World} {M : Nat → Prop} {x : PV} {v : Value} (h : RP w M x v) (h1 : oneC v = true) : x.one = true := by
 cases h <;> first | rfl | (simp [oneC, Value.oneCell'] at h1)
theorem allP_eq {l : List AV} {ps : List PV} (h : allP l = some ps) : l = ps.map .p := by
 induction l generalizing ps with
 | nil => simp [allP] at h; subst h; rfl
 | cons x r ih =>
   cases x with
   | p x =>
     simp only [allP] at h
     cases hr : allP r with
     | none => simp [hr] at h
     | some l => simp [hr] at h; subst h; simp [ih hr]
   | _ => simp [allP] at h
theorem RP_agg {M : Nat → Prop} {cells : List PV} {v : Value} (h : RP w M (.agg cells) v) : ∃ cs : Array Value, v = .agg cs ∧ cs.size = cells.length ∧
 (∀ (i : Nat) x, cells[i]? = some x → x.one = true) ∧ ∀ (i : Nat) x, cells[i]? = some x → RP w M x (cs.getD i undef) := by
 cases h with
 | agg hl hone h => exact ⟨_, rfl, hl, hone, h⟩
theorem RP_isl {M : Nat → Prop} {wd : Nat} {rows : List (List PV)} {cap : Option Nat} {v : Value} (h : RP w M (.isl wd rows cap) v) :
 ∃ a c, v = .slice a rows.length c ∧ rows.length ≤ c ∧ (∀ k, cap = some k → c = k) ∧ (rows = [] ∨ ∃ ad : Addr, a = some ad ∧ ad.spot = none ∧ ¬ M ad.block ∧ ad.block < w.heap.size ∧
  ∀ (i : Nat) row, rows[i]? = some row → row.length = wd ∧ RowAt w M ad.block (ad.off + i * wd) row) := by
 cases h with
 | nil h => exact ⟨_, _, rfl, Nat.zero_le _, h, .inl rfl⟩
 | isl hs hM hb hc hcap hrow hone hcell hrp =>
   exact ⟨_, _, rfl, hc, hcap, .inr ⟨_, rfl, hs, hM, hb, fun i row hi => ⟨hrow i row hi, fun j x hx => ⟨hone i row j x hi hx, _, by rw [Nat.add_assoc]; exact hcell i row j x hi hx, hrp i row j x hi hx⟩⟩⟩⟩
theorem RP_irow_mk {M : Nat → Prop} {row : List PV} {c off : Nat} (h : RowAt w M c off row) (hM : ¬ M c) (hc : c < w.heap.size) (j : Nat) :
 RP w M (.irow row j) (.pointer (some ⟨c, off + j, none⟩)) := by
 refine .irow (a := ⟨c, off, none⟩) (cv := fun i => (w.cell? ⟨c, off + i, none⟩).getD undef) rfl hM hc (fun i x hx => (h i x hx).1) (fun i x hx => ?_) (fun i x hx => ?_)
 all_goals
  obtain ⟨_, v, hv, hr⟩ := h i x hx
  simp [hv, hr]
theorem RP_isl_mk {M : Nat → Prop} {wd : Nat} {rows : List (List PV)} {cap : Option Nat} {ad : Addr} {c : Nat} (hs : ad.spot = none) (hM : ¬ M ad.block) (hb : ad.block < w.heap.size)
 (hc : rows.length ≤ c) (hcap : ∀ k, cap = some k → c = k) (h : ∀ (i : Nat) row, rows[i]? = some row → row.length = wd ∧ RowAt w M ad.block (ad.off + i * wd) row) :
 RP w M (.isl wd rows cap) (.slice (some ad) rows.length c) := by
 refine .isl (cv := fun i j => (w.cell? ⟨ad.block, ad.off + (i * wd + j), none⟩).getD undef) hs hM hb hc hcap (fun i row hi => (h i row hi).1)
  (fun i row j x hi hx => ((h i row hi).2 j x hx).1) (fun i row j x hi hx => ?_) (fun i row j x hi hx => ?_)
 all_goals
  obtain ⟨_, v, hv, hr⟩ := (h i row hi).2 j x hx
  rw [Nat.add_assoc] at hv
  simp [hv, hr]
theorem mkAgg_sound {l : List AV} {cs : Array Value} (hl : cs.size = l.length) (hone : ∀ (i : Nat) x, l[i]? = some x → oneC (cs.getD i undef) = true)
 (h : ∀ (i : Nat) x, l[i]? = some x → RA w ι x (cs.getD i undef)) : RA w ι (mkAgg l) (.agg cs) := by
 unfold mkAgg
 split
 ·rename_i ps hp
  have e := allP_eq hp
  subst e
  refine .p (.agg (by simpa using hl) (fun i x hx => ?_) (fun i x hx => ?_))
  all_goals
   have h1 := h i (.p x) (by simp [hx])
   have h2 := hone i (.p x) (by simp [hx])
   cases h1
   rename_i h1
  ·exact h1.one_of h2
  ·exact h1
 ·exact .agg hl hone h
theorem run_loadAgg {t : TypeId} {sz : Nat} (hs : szT P t = some sz) (hg : aggT P t = some true) (c off : Nat) (f : Nat → Value) (w : World)
 (h : ∀ j, j < sz → w.cell? ⟨c, off + j, none⟩ = some (f j)) : (loadVar t ⟨c, off, none⟩).run P w = .ok (.agg ((List.range sz).map f).toArray) w := by
 have hl := run_loadCells (P := P) w ⟨c, off, none⟩ sz f (fun j hj => by rw [add_none]; exact h j hj)
 simp [loadVar, run_isAgg hg, run_sizeOf hs, hl]
theorem run_loadOne {t : TypeId} (hg : aggT P t = some false) (ad : Addr) (v : Value) (w : World)
 (h : w.cell? ad = some v) : (loadVar t ad).run P w = .ok v w := by
 simp [loadVar, run_isAgg hg, h]
theorem vrow_sound {c off : Nat} {row : List PV} (hr : RowAt w ι.M c off row) {j sz : Nat} {ag : Bool} {k : AV → Prop} (h : vrow row j sz ag k) {t : TypeId}
 (hs : szT P t = some sz) (hg : aggT P t = some ag) : Vals P w ι k (loadVar t ⟨c, off + j, none⟩) := by
 cases ag with
 | true =>
   obtain ⟨cs, rfl, hl, hk⟩ := h
   rw [dropN_eq] at hl hk
   have hlen : j + sz ≤ row.length ∨ sz = 0 := by
    simp at hl; omega
   have hget : ∀ i x, ((row.drop j).take sz)[i]? = some x → row[j + i]? = some x ∧ i < sz := fun i x hx => by
    rw [List.getElem?_take] at hx
    split at hx
    ·rw [List.getElem?_drop] at hx; exact ⟨hx, by assumption⟩
    ·cases hx
   have hcell : ∀ i, i < sz → ∃ x v, row[j + i]? = some x ∧ x.one = true ∧ w.cell? ⟨c, off + j + i, none⟩ = some v ∧ RP w ι.M x v := fun i hi => by
    have hlt : j + i < row.length := by omega
    obtain ⟨h1, v, h2, h3⟩ := hr (j + i) row[j + i] (List.getElem?_eq_getElem hlt)
    exact ⟨_, v, List.getElem?_eq_getElem hlt, h1, by rw [Nat.add_assoc]; exact h2, h3⟩
   refine .mk (v := .agg ((List.range sz).map fun i => (w.cell? ⟨c, off + j + i, none⟩).getD undef).toArray) hk (.p (.agg ?_ (fun i x hx => ?_) (fun i x hx => ?_))) fun w' hw' => ?_
   ·simp [hl]
   ·obtain ⟨h1, h2⟩ := hget i x hx
    exact (hr _ _ h1).1
   ·obtain ⟨h1, h2⟩ := hget i x hx
    obtain ⟨x', v, h3, h4, h5, h6⟩ := hcell i h2
    rw [h1] at h3; cases h3
    simp [h2, h5, h6]
   ·exact run_loadAgg hs hg c (off + j) _ w' fun i hi => by
     obtain ⟨x', v, h3, h4, h5, h6⟩ := hcell i hi
     rw [hw'.cell h5, h5]; rfl
 | false =>
   obtain ⟨x, hx, hk⟩ := h
   obtain ⟨h1, v, h2, h3⟩ := hr j x hx
   exact .mk (forceP_of hk) (.p h3) fun w' hw' => run_loadOne hg _ v w' (hw'.cell h2)
theorem vcells_sound {c off : Nat} {cells : List AV} (hr : CellsAt w ι c off cells) {j sz : Nat} {ag : Bool} {k : AV → Prop} (h : vcells cells j sz ag k) {t : TypeId}
 (hs : szT P t = some sz) (hg : aggT P t = some ag) : Vals P w ι k (loadVar t ⟨c, off + j, none⟩) := by
 cases ag with
 | true =>
   unfold vcells at h
   simp only at h
   cases hb : Nat.ble (j + sz) cells.length with
   | false => rw [hb] at h; exact h.elim
   | true =>
     rw [hb] at h
     have hlen := Nat.le_of_ble_eq_true hb
     simp only [cond_true] at h
     rw [dropN_eq] at h
     have hget : ∀ i x, ((cells.drop j).take sz)[i]? = some x → cells[j + i]? = some x ∧ i < sz := fun i x hx => by
      rw [List.getElem?_take] at hx
      split at hx
      ·rw [List.getElem?_drop] at hx; exact ⟨hx, by assumption⟩
      ·cases hx
     have hcell : ∀ i, i < sz → ∃ x v, cells[j + i]? = some x ∧ w.cell? ⟨c, off + j + i, none⟩ = some v ∧ oneC v = true ∧ RA w ι x v := fun i hi => by
      have hlt : j + i < cells.length := by omega
      obtain ⟨v, h2, h1, h3⟩ := hr (j + i) cells[j + i] (List.getElem?_eq_getElem hlt)
      exact ⟨_, v, List.getElem?_eq_getElem hlt, by rw [Nat.add_assoc]; exact h2, h1, h3⟩
     refine .mk (v := .agg ((List.range sz).map fun i => (w.cell? ⟨c, off + j + i, none⟩).getD undef).toArray) h (mkAgg_sound ?_ (fun i x hx => ?_) (fun i x hx => ?_)) fun w' hw' => ?_
     ·simp; omega
     ·obtain ⟨h1, h2⟩ := hget i x hx
      obtain ⟨x', v, h3, h4, h5, h6⟩ := hcell i h2
      rw [h1] at h3; cases h3
      simp [h2, h4]; exact h5
     ·obtain ⟨h1, h2⟩ := hget i x hx
      obtain ⟨x', v, h3, h4, h5, h6⟩ := hcell i h2
      rw [h1] at h3; cases h3
      simp [h2, h4, h6]
     ·exact run_loadAgg hs hg c (off + j) _ w' fun i hi => by
       obtain ⟨x', v, h3, h4, h5, h6⟩ := hcell i hi
       rw [hw'.cell h4, h4]; rfl
 | false =>
   unfold vcells at h
   simp only at h
   cases hb : Nat.blt j cells.length with
   | false => rw [hb] at h; exact h.elim
   | true =>
     rw [hb] at h
     simp only [cond_true] at h
     have hlt : j < cells.length := by simpa [Nat.blt_eq] using hb
     obtain ⟨v, h2, h1, h3⟩ := hr j cells[j] (List.getElem?_eq_getElem hlt)
     have e : nth .undef cells j = cells[j] := by rw [nth_eq, List.getElem?_eq_getElem hlt]; rfl
     rw [e] at h
     exact .mk (force_of h) h3 fun w' hw' => run_loadOne hg _ v w' (hw'.cell h2)
theorem cell_of {w : World} {c : Nat} {cs : Array Value} {ty : TypeId} {fz : Nat × Nat} (h : w.heap[c]? = some (.cells cs ty fz)) (off : Nat) :
 w.cell? ⟨c, off, none⟩ = cs[off]? := by simp [World.cell?, h]
theorem HRel.row {h : List Blk} (hr : HRel ι h w) {b wd c o s i : Nat} {rows : List (List PV)} {row : List PV} (hb : ι b = some (c, o, s)) (hn : nth .dead h b = .pr wd rows)
 (hi : rows[i]? = some row) : row.length = wd ∧ RowAt w ι.M c (o + i * wd) row := by
 have := hr.blk b
 rw [hn, RB, hb] at this
 rcases this with ⟨h0, _⟩ | ⟨c', o', s', cs, ty, fz, he, h1, hf, h2, h3, h4, h5⟩
 ·cases h0
 ·cases he
  refine ⟨h4 i row hi, fun j x hx => ?_⟩
  obtain ⟨h6, v, h7, h8⟩ := h5 i row j x hi hx
  exact ⟨h6, v, by rw [cell_of h1, Nat.add_assoc]; exact h7, h8⟩
theorem HRel.cells {h : List Blk} (hr : HRel ι h w) {b c o s : Nat} {cells : List AV} (hb : ι b = some (c, o, s)) (hn : nth .dead h b = .mx cells) :
 CellsAt w ι c o cells := by
 have := hr.blk b
 rw [hn, RB, hb] at this
 obtain ⟨c', o', s', cs, ty, fz, he, h1, hf, h2, h3, h4⟩ := this
 cases he
 intro j x hx
 obtain ⟨v, h5, h6, h7⟩ := h4 j x hx
 exact ⟨v, by rw [cell_of h1]; exact h5, h6, h7⟩
theorem HRel.cellsx {h : List Blk} (hr : HRel ι h w) {b c o s n : Nat} {arr : List PV} {cells : List AV} (hb : ι b = some (c, o, s)) (hn : nth .dead h b = .ax n arr cells) :
 arr.length = n ∧ ∀ (j : Nat) x, (arr.map AV.p ++ cells)[j]? = some x → ∃ v, w.cell? ⟨c, o + j, none⟩ = some v ∧ oneC v = true ∧ RA w ι x v := by
 have := hr.blk b
 rw [hn, hb] at this
 obtain ⟨h0, c', o', s', cs, ty, fz, he, h1, _, _, _, h4⟩ := this
 cases he
 refine ⟨h0, fun j x hx => ?_⟩
 obtain ⟨v, v1, v2, v3⟩ := h4 j x hx
 exact ⟨v, by simp [World.cell?, h1, v1], v2, v3⟩
theorem allP_app (arr : List PV) (cells : List AV) : allP (arr.map AV.p ++ cells) = (allP cells).map (arr ++ ·) := by
 induction arr with
 | nil => cases h : allP cells <;> simp [h]
 | cons x r ih =>
   simp only [List.map_cons, List.cons_append, allP, ih]
   cases allP cells <;> rfl
theorem mkAgg_app (arr : List PV) (cells : List AV) : mkAgg (arr.map AV.p ++ cells) = axAgg arr cells := by
 unfold mkAgg axAgg
 rw [allP_app]
 cases allP cells <;> rfl
theorem vaxl_cells {n : Nat} {arr : List PV} {cells : List AV} (hn : arr.length = n) {j sz : Nat} {ag : Bool} {k : AV → Prop} (h : vaxl n arr cells j sz ag k) : vcells (arr.map AV.p ++ cells) j sz ag k := by
 subst hn
 unfold vaxl at h
 unfold vcells
 cases ag with
 | false =>
   simp only at h ⊢
   rcases h with ⟨hj, x, hx, h⟩ | ⟨hj, x, hx, h⟩
   ·have hlt : Nat.blt j (arr.map AV.p ++ cells).length = true := by simp only [Nat.blt_eq]; simp; omega
    rw [hlt]
    have e : nth .undef (arr.map AV.p ++ cells) j = .p x := by
     rw [nth_eq, List.getElem?_append_left (by simpa using hj), List.getElem?_map, hx]; rfl
    simp only [cond_true]
    rw [e]
    exact h
   ·have hl2 := (List.getElem?_eq_some_iff.1 hx).1
    have hlt : Nat.blt j (arr.map AV.p ++ cells).length = true := by simp only [Nat.blt_eq]; simp; omega
    rw [hlt]
    have e : nth .undef (arr.map AV.p ++ cells) j = x := by
     rw [nth_eq, List.getElem?_append_right (by simpa using hj), List.length_map, hx]; rfl
    simp only [cond_true]
    rw [e]
    exact h
 | true =>
   simp only at h ⊢
   cases h1 : Nat.ble arr.length j with
   | true =>
     rw [h1] at h
     simp only [cond_true] at h
     have h1 := Nat.le_of_ble_eq_true h1
     cases h2 : Nat.ble (j - arr.length + sz) cells.length with
     | false => rw [h2] at h; exact h.elim
     | true =>
       rw [h2] at h
       have h2 := Nat.le_of_ble_eq_true h2
       have hle : Nat.ble (j + sz) (arr.map AV.p ++ cells).length = true := (by simp only [Nat.ble_eq]; simp; omega)
       rw [hle]
       have e : dropN j (arr.map AV.p ++ cells) = dropN (j - arr.length) cells := by
        rw [dropN_eq, dropN_eq, List.drop_append, List.drop_eq_nil_of_le (by simpa using h1)]; simp
       rw [e]
       exact h
   | false =>
     rw [h1] at h
     simp only [cond_false] at h
     cases h2 : Nat.beq j 0 with
     | false => rw [h2] at h; exact h.elim
     | true =>
       rw [h2] at h
       obtain rfl := Nat.eq_of_beq_eq_true h2
       simp only [cond_true] at h
       cases h3 : Nat.beq sz arr.length with
       | true =>
         rw [h3] at h
         obtain rfl := Nat.eq_of_beq_eq_true h3
         have hle : Nat.ble (0 + arr.length) (arr.map AV.p ++ cells).length = true := (by simp only [Nat.ble_eq]; simp)
         rw [hle]
         have e : (dropN 0 (arr.map AV.p ++ cells)).take arr.length = arr.map AV.p ++ [] := by
          simp [dropN]
         simp only [cond_true]
         rw [e, mkAgg_app]
         simpa [axAgg, allP] using h
       | false =>
         rw [h3] at h
         simp only [cond_false] at h
         cases h4 : (Nat.ble arr.length sz && Nat.ble (sz - arr.length) cells.length) with
         | false => rw [h4] at h; exact h.elim
         | true =>
           rw [h4] at h
           simp only [Bool.and_eq_true] at h4
           have h5 := Nat.le_of_ble_eq_true h4.1
           have h6 := Nat.le_of_ble_eq_true h4.2
           have hle : Nat.ble (0 + sz) (arr.map AV.p ++ cells).length = true := (by simp only [Nat.ble_eq]; simp; omega)
           rw [hle]
           have e : (dropN 0 (arr.map AV.p ++ cells)).take sz = arr.map AV.p ++ cells.take (sz - arr.length) := by
            simp only [dropN]
            rw [List.take_append, List.take_of_length_le (by simpa using h5), List.length_map]
           simp only [cond_true]
           rw [e, mkAgg_app]
           exact h
theorem vload_sound {h : List Blk} (hr : HRel ι h w) {av : AV} {v : Value} (hv : RA w ι av v) {sz : Nat} {ag : Bool} {k : AV → Prop} (hl : vload h av sz ag k) {t : TypeId}
 (hs : szT P t = some sz) (hg : aggT P t = some ag) : Vals P w ι k (Instr.loadAt t v) := by
 have pack : ∀ ad, Vals P w ι k (loadVar t ad) → Vals P w ι k (Instr.loadAt t (.pointer (some ad))) := fun ad h => by
  obtain ⟨x, u, h1, h2, h3⟩ := h
  exact .mk h1 h2 fun w' hw' => by simp [Instr.loadAt, Instr.sureAddr, h3 w' hw']
 unfold vload at hl
 split at hl
 ·rename_i b wd i j
  cases hv
  rename_i c o s hb
  split at hl
  ·rename_i cells hn
   split at hl
   ·simp only [Nat.zero_mul, Nat.zero_add]
    exact pack _ (vcells_sound (hr.cells hb hn) hl hs hg)
   ·exact hl.elim
  ·rename_i n arr cells hn
   split at hl
   ·simp only [Nat.zero_mul, Nat.zero_add]
    obtain ⟨h0, h1⟩ := hr.cellsx hb hn
    exact pack _ (vcells_sound h1 (vaxl_cells h0 hl) hs hg)
   ·exact hl.elim
  ·rename_i wd' rows hn
   cases hw : Nat.beq wd wd' with
   | false => rw [hw] at hl; exact hl.elim
   | true =>
     rw [hw] at hl
     obtain rfl := Nat.eq_of_beq_eq_true hw
     obtain ⟨row, hi, hl⟩ := hl
     rw [← Nat.add_assoc]
     exact pack _ (vrow_sound (hr.row hb hn hi).2 hl hs hg)
  ·exact hl.elim
 ·rename_i row j
  cases hv
  rename_i hv
  cases hv
  rename_i ad cv hs' hM hb hone hcell hrp
  exact pack _ (vrow_sound (c := ad.block) (off := ad.off) (fun i x hx => ⟨hone i x hx, cv i, hcell i x hx, hrp i x hx⟩) hl hs hg)
 ·exact hl.elim
theorem vidxA_sound {x i : AV} {v u : Value} (hx : RA w ι x v) (hi : RA w ι i u) {len esz : Nat} {k : AV → Prop} (h : vidxA x i len esz k) {t e : TypeId}
 (ht : P.underlying t = some (.array len e)) (hs : szT P e = some esz) : Vals P w ι k (Instr.indexAt t v u) := by
 unfold vidxA at h
 split at h
 ·rename_i kk n
  rw [RA_int hi]
  obtain ⟨⟨h0, h1⟩, h⟩ := h
  have run : ∀ (ad : Addr) (w' : World), (Instr.indexAt t (.pointer (some ad)) (.int kk n)).run P w' = .ok (.pointer (some (ad.add (n.toNat * esz)))) w' := fun ad w' => by
   simp [Instr.indexAt, asIntOf, run_underlying ht, Instr.sureAddr, h0, h1, run_sizeOf hs]
  split at h
  ·rename_i b wd r j
   cases hx
   rename_i c o s hb
   refine .mk h (.ptr hb) fun w' _ => ?_
   rw [run, add_none, Nat.add_assoc, Nat.add_assoc]
  ·rename_i row j
   cases hx
   rename_i hx
   cases hx
   rename_i ad cv hs' hM hb hone hcell hrp
   refine .mk h (.p (.irow hs' hM hb hone hcell hrp)) fun w' _ => ?_
   rw [run, add_none, Nat.add_assoc]
  ·exact h.elim
 ·exact h.elim
theorem vidxS_sound {x i : AV} {v u : Value} (hx : RA w ι x v) (hi : RA w ι i u) {esz : Nat} {k : AV → Prop} (h : vidxS x i esz k) {t e : TypeId}
 (ht : P.underlying t = some (.slice e)) (hs : szT P e = some esz) : Vals P w ι k (Instr.indexAt t v u) := by
 unfold vidxS at h
 split at h
 ·rename_i kk n
  rw [RA_int hi]
  have run : ∀ (ad : Addr) (len cap : Nat) (w' : World), 0 ≤ n → n < (len : Int) →
   (Instr.indexAt t (.slice (some ad) len cap) (.int kk n)).run P w' = .ok (.pointer (some (ad.add (n.toNat * esz)))) w' := fun ad len cap w' h0 h1 => by
   simp [Instr.indexAt, asIntOf, run_underlying ht, h0, h1, run_sizeOf hs]
  split at h
  ·rename_i wd rows cap
   obtain ⟨⟨h0, h1⟩, row, hrow, h⟩ := h
   cases hw : Nat.beq wd esz with
   | false => rw [hw] at h; exact h.elim
   | true =>
     rw [hw] at h
     obtain rfl := Nat.eq_of_beq_eq_true hw
     cases hx
     rename_i hx
     obtain ⟨oa, c, rfl, hc, hcap, hr⟩ := RP_isl hx
     rcases hr with rfl | ⟨ad, rfl, hs', hM, hb, hr⟩
     ·simp at hrow
     ·refine .mk h (.p (RP_irow_mk (hr _ _ hrow).2 hM hb 0)) fun w' _ => ?_
      rw [run _ _ _ _ h0 h1, add_spot hs']; rfl
  ·rename_i b wd r len cap
   obtain ⟨⟨h0, h1⟩, h⟩ := h
   cases hw : Nat.beq wd esz with
   | false => rw [hw] at h; exact h.elim
   | true =>
     rw [hw] at h
     obtain rfl := Nat.eq_of_beq_eq_true hw
     cases hx
     ·rename_i c o s cc hb hl hcap hs'
      refine .mk h (.ptr hb) fun w' _ => ?_
      rw [run _ _ _ _ h0 h1, add_none, Nat.add_mul, Nat.add_zero, Nat.add_assoc]
     ·simp at h1; omega
  ·rename_i b wd r j e' len
   obtain ⟨⟨h0, h1⟩, h⟩ := h
   cases hw : Nat.beq e' esz with
   | false => rw [hw] at h; exact h.elim
   | true =>
     rw [hw] at h
     obtain rfl := Nat.eq_of_beq_eq_true hw
     cases hx with
     | csl hb hl =>
       refine .mk h (.ptr hb) fun w' _ => ?_
       rw [run _ _ _ _ h0 h1, add_none, Nat.add_assoc, Nat.add_assoc]
     | cslz => simp at h1; omega
  ·exact h.elim
 ·exact h.elim
theorem bytes_get (l : List UInt8) (n : Nat) : (⟨⟨l⟩⟩ : ByteArray)[n]? = l[n]? := by
 by_cases h : n < l.length
 ·rw [List.getElem?_eq_getElem h, getElem?_pos (⟨⟨l⟩⟩ : ByteArray) n h]; rfl
 ·rw [List.getElem?_eq_none (by omega), getElem?_neg (⟨⟨l⟩⟩ : ByteArray) n h]
theorem vidxStr_sound {x i : AV} {v u : Value} (hx : RA w ι x v) (hi : RA w ι i u) {k : AV → Prop} (h : vidxStr x i k) {t : TypeId}
 (ht : P.underlying t = some .string) : Vals P w ι k (Instr.index t v u) := by
 unfold vidxStr at h
 split at h
 ·rename_i l kk n
  obtain ⟨h0, c, hc, h⟩ := h
  rw [RA_int hi, RA_str hx]
  refine .mk h (.p (.int _ _)) fun w' _ => ?_
  simp [Instr.index, asIntOf, run_underlying ht, h0, bytes_get, hc]
 ·exact h.elim
theorem part_sound {cells : List PV} {cs : Array Value} (hc : RP w ι.M (.agg cells) (.agg cs)) {j sz : Nat} {ag : Bool} {k : AV → Prop} (h : vrow cells j sz ag k) {t : TypeId}
 (hs : szT P t = some sz) (hg : aggT P t = some ag) : Vals P w ι k (part t cs j) := by
 obtain ⟨cs', hcs, hl, hone, hrp⟩ := RP_agg hc
 cases hcs
 cases ag with
 | true =>
   obtain ⟨xs, rfl, hx, hk⟩ := h
   rw [dropN_eq] at hx hk
   have hlen : j + sz ≤ cells.length ∨ sz = 0 := by simp at hx; omega
   have hget : ∀ i x, ((cells.drop j).take sz)[i]? = some x → cells[j + i]? = some x ∧ i < sz := fun i x hx => by
    rw [List.getElem?_take] at hx
    split at hx
    ·rw [List.getElem?_drop] at hx; exact ⟨hx, by assumption⟩
    ·cases hx
   have hgd : ∀ i, i < sz → (cs.extract j (j + sz)).getD i undef = cs.getD (j + i) undef := fun i hi => by
    simp only [Array.getD_eq_getD_getElem?, Array.getElem?_extract]
    rw [if_pos (by omega)]
   refine .mk hk (.p (.agg (cs := cs.extract j (j + sz)) (by simp at hx ⊢; omega) (fun i x hx => hone _ _ (hget i x hx).1) (fun i x hx => ?_))) fun w' _ => by
    simp [part, run_isAgg hg, run_sizeOf hs]
   obtain ⟨h1, h2⟩ := hget i x hx
   rw [hgd i h2]
   exact hrp _ _ h1
 | false =>
   obtain ⟨x, hx, hk⟩ := h
   refine .mk (forceP_of hk) (.p (hrp j x hx)) fun w' _ => ?_
   have hlt : j < cs.size := by rw [hl]; exact (List.getElem?_eq_some_iff.1 hx).1
   simp [part, run_isAgg hg, hlt]
theorem partA_sound {cells : List AV} {cs : Array Value} (hc : RA w ι (.agg cells) (.agg cs)) {j sz : Nat} {ag : Bool} {k : AV → Prop} (h : vcells cells j sz ag k) {t : TypeId}
 (hs : szT P t = some sz) (hg : aggT P t = some ag) : Vals P w ι k (part t cs j) := by
 cases hc
 rename_i hl hone hrp
 cases ag with
 | true =>
   unfold vcells at h
   simp only at h
   cases hb : Nat.ble (j + sz) cells.length with
   | false => rw [hb] at h; exact h.elim
   | true =>
     rw [hb] at h
     have hlen := Nat.le_of_ble_eq_true hb
     simp only [cond_true] at h
     rw [dropN_eq] at h
     have hget : ∀ i x, ((cells.drop j).take sz)[i]? = some x → cells[j + i]? = some x ∧ i < sz := fun i x hx => by
      rw [List.getElem?_take] at hx
      split at hx
      ·rw [List.getElem?_drop] at hx; exact ⟨hx, by assumption⟩
      ·cases hx
     have hgd : ∀ i, i < sz → (cs.extract j (j + sz)).getD i undef = cs.getD (j + i) undef := fun i hi => by
      simp only [Array.getD_eq_getD_getElem?, Array.getElem?_extract]
      rw [if_pos (by omega)]
     refine .mk h (mkAgg_sound (cs := cs.extract j (j + sz)) (by simp; omega) (fun i x hx => ?_) (fun i x hx => ?_)) fun w' _ => by
      simp [part, run_isAgg hg, run_sizeOf hs]
     all_goals
      obtain ⟨h1, h2⟩ := hget i x hx
      rw [hgd i h2]
     ·exact hone _ _ h1
     ·exact hrp _ _ h1
 | false =>
   unfold vcells at h
   simp only at h
   cases hb : Nat.blt j cells.length with
   | false => rw [hb] at h; exact h.elim
   | true =>
     rw [hb] at h
     simp only [cond_true] at h
     have hlt : j < cells.length := by simpa [Nat.blt_eq] using hb
     have e : nth .undef cells j = cells[j] := by rw [nth_eq, List.getElem?_eq_getElem hlt]; rfl
     rw [e] at h
     refine .mk (force_of h) (hrp j _ (List.getElem?_eq_getElem hlt)) fun w' _ => ?_
     have hlt' : j < cs.size := by omega
     simp [part, run_isAgg hg, hlt']
theorem vidxArr_sound {x i : AV} {v u : Value} (hx : RA w ι x v) (hi : RA w ι i u) {len esz : Nat} {ag : Bool} {k : AV → Prop} (h : vidxArr x i len esz ag k) {t e : TypeId}
 (ht : P.underlying t = some (.array len e)) (hs : szT P e = some esz) (hg : aggT P e = some ag) : Vals P w ι k (Instr.index t v u) := by
 unfold vidxArr at h
 split at h
 ·rename_i cells kk n
  obtain ⟨⟨h0, h1⟩, h⟩ := h
  rw [RA_int hi]
  cases hx
  rename_i hx
  have hx' := hx
  cases hx
  rename_i cs hl hone hrp
  obtain ⟨y, z, h2, h3, h4⟩ := part_sound hx' h hs hg
  exact .mk h2 h3 fun w' hw' => by simp [Instr.index, asIntOf, run_underlying ht, h0, h1, run_sizeOf hs, h4 w' hw']
 ·exact h.elim
theorem vfadr_sound {x : AV} {v : Value} (hx : RA w ι x v) {k : AV → Prop} {t : TypeId} {fs : Array Field} {f n : Nat} {fd : Field} (h : vfadr x fd.offset k)
 (ht : P.underlying t = some (.struct fs)) (hf : fs[f]? = some fd) (hs : szT P fd.type = some (n + 1)) : Vals P w ι k (Instr.fieldAt t v f) := by
 have run : ∀ (ad : Addr) (w' : World), (Instr.fieldAt t (.pointer (some ad)) f).run P w' = .ok (.pointer (some (ad.add fd.offset))) w' := fun ad w' => by
  simp [Instr.fieldAt, run_underlying ht, hf, Instr.sureAddr, fieldPlace, run_sizeOf hs]
 unfold vfadr at h
 split at h
 ·rename_i b wd i j
  cases hx
  rename_i c o s hb
  refine .mk h (.ptr hb) fun w' _ => ?_
  rw [run, add_none, Nat.add_assoc, Nat.add_assoc]
 ·rename_i row j
  cases hx
  rename_i hx
  cases hx
  rename_i ad cv hs' hM hb hone hcell hrp
  refine .mk h (.p (.irow hs' hM hb hone hcell hrp)) fun w' _ => ?_
  rw [run, add_none, Nat.add_assoc]
 ·exact h.elim
theorem vfadr_still {x : AV} {v : Value} (hx : RA w ι x v) {k : AV → Prop} {t : TypeId} {fs : Array Field} {f n : Nat} {fd : Field} (h : vfadr x fd.offset k)
 (ht : P.underlying t = some (.struct fs)) (hf : fs[f]? = some fd) (hs : szT P fd.type = some (n + 1)) : ∃ av r, k av ∧ RA w ι av r ∧ ∀ w', (Instr.fieldAt t v f).run P w' = .ok r w' := by
 have run : ∀ (ad : Addr) (w' : World), (Instr.fieldAt t (.pointer (some ad)) f).run P w' = .ok (.pointer (some (ad.add fd.offset))) w' := fun ad w' => by
  simp [Instr.fieldAt, run_underlying ht, hf, Instr.sureAddr, fieldPlace, run_sizeOf hs]
 unfold vfadr at h
 split at h
 ·rename_i b wd i j
  cases hx
  rename_i c o s hb
  refine ⟨_, _, h, .ptr hb, fun w' => ?_⟩
  rw [run, add_none, Nat.add_assoc, Nat.add_assoc]
 ·rename_i row j
  cases hx
  rename_i hx
  cases hx
  rename_i ad cv hs' hM hb hone hcell hrp
  refine ⟨_, _, h, .p (.irow hs' hM hb hone hcell hrp), fun w' => ?_⟩
  rw [run, add_none, Nat.add_assoc]
 ·exact h.elim
theorem vfld_sound {x : AV} {v : Value} (hx : RA w ι x v) {k : AV → Prop} {t : TypeId} {fs : Array Field} {f sz : Nat} {ag : Bool} {fd : Field} (h : vfld x fd.offset sz ag k)
 (ht : P.underlying t = some (.struct fs)) (hf : fs[f]? = some fd) (hs : szT P fd.type = some sz) (hg : aggT P fd.type = some ag) : Vals P w ι k (Instr.field t v f) := by
 unfold vfld at h
 split at h
 ·rename_i cells
  cases hx
  rename_i hx
  have hx' := hx
  cases hx
  obtain ⟨y, z, h2, h3, h4⟩ := part_sound hx' h hs hg
  exact .mk h2 h3 fun w' hw' => by simp [Instr.field, run_underlying ht, hf, asAgg, h4 w' hw']
 ·rename_i cells
  have hx' := hx
  cases hx
  obtain ⟨y, z, h2, h3, h4⟩ := partA_sound hx' h hs hg
  exact .mk h2 h3 fun w' hw' => by simp [Instr.field, run_underlying ht, hf, asAgg, h4 w' hw']
 ·exact h.elim
theorem vlenStr_sound {x : AV} {v : Value} (hx : RA w ι x v) {k : AV → Prop} (h : vlenStr x k) {t ty : TypeId}
 (ht : P.underlying t = some .string) : Vals P w ι k (Builtin.len_ #[t] ty #[v]) := by
 unfold vlenStr at h
 split at h
 ·rename_i l
  rw [RA_str hx]
  exact .mk h (.p (.int _ _)) fun w' _ => by simp [Builtin.len_, run_underlying ht, goInt]; rfl
 ·exact h.elim
theorem vlen_sound {x : AV} {v : Value} (hx : RA w ι x v) {k : AV → Prop} (h : vlen x k) {t e ty : TypeId}
 (ht : P.underlying t = some (.slice e)) : Vals P w ι k (Builtin.len_ #[t] ty #[v]) := by
 have slc : ∀ a n c w', (Builtin.len_ #[t] ty #[.slice a n c]).run P w' = .ok (.int .i64 n) w' := fun a n c w' => by
  simp [Builtin.len_, run_underlying ht, goInt]
 unfold vlen at h
 split at h
 ·cases hx
  rename_i hx
  obtain ⟨oa, c, rfl, _⟩ := RP_isl hx
  exact .mk h (.p (.int _ _)) fun w' _ => slc _ _ _ w'
 ·cases hx
  ·exact .mk h (.p (.int _ _)) fun w' _ => slc _ _ _ w'
  ·exact .mk h (.p (.int _ _)) fun w' _ => slc _ _ _ w'
 ·cases hx
  ·exact .mk h (.p (.int _ _)) fun w' _ => slc _ _ _ w'
  ·exact .mk h (.p (.int _ _)) fun w' _ => slc _ _ _ w'
 ·exact h.elim
end
end Hk
namespace Hk
open Go
set_option linter.unusedVariables false
set_option linter.unusedSimpArgs false
section
variable {P : Program} {ι : Inj} {st : St} {a : Act} {w : World}
theorem vbnd_sound (gl : Glb w ι.M) (tm : ∀ s, RA w ι (lk st.tmps s) (a.tmps.getD s undef)) {o : Option Operand} {o' : Option Opd} (hc : cOpdO o = some o') {d : Int} {k : Int → Prop}
 (h : vbnd (o'.map (ev st)) d k) : ∃ n, k n ∧ ((o = none ∧ o' = none ∧ n = d) ∨ ∃ x kk, o = some x ∧ a.eval x = .int kk n) := by
 cases o with
 | none => simp [cOpdO] at hc; subst hc; exact ⟨d, h, .inl ⟨rfl, rfl, rfl⟩⟩
 | some x =>
   simp only [cOpdO] at hc
   obtain ⟨y, hy, rfl⟩ := Option.map_eq_some_iff.1 hc
   have hr := ev_sound gl tm hy
   simp only [Option.map_some] at h
   generalize ev st y = av at h hr
   unfold vbnd at h
   split at h
   ·rename_i heq; cases heq
   ·rename_i kk n heq
    cases heq
    exact ⟨n, h, .inr ⟨x, kk, rfl, RA_int hr⟩⟩
   ·exact h.elim
theorem run_bound {w : World} (o : Option Operand) (n : Int) (y : Nat) (code : BoundsCode) (x : Operand) (kk : IntKind) (ho : o = some x) (hx : a.eval x = .int kk n) (h0 : 0 ≤ n) (h1 : n ≤ y) :
 (Instr.sliceBound (a.eval x) y code).run P w = .ok n.toNat w := by
 simp [Instr.sliceBound, asIntOf, hx, h0, h1]
theorem run_sliceBounds (isSlice : Bool) (len cap : Nat) (lo hi mx : Option Operand) (l h m : Int) (w : World)
 (hl : (lo = none ∧ l = 0) ∨ ∃ x kk, lo = some x ∧ a.eval x = .int kk l)
 (hh : (hi = none ∧ h = len ∧ mx = none) ∨ ∃ x kk, hi = some x ∧ a.eval x = .int kk h)
 (hm : (mx = none ∧ m = cap) ∨ ∃ x kk, mx = some x ∧ a.eval x = .int kk m)
 (h0 : 0 ≤ l) (h1 : l ≤ h) (h2 : h ≤ m) (h3 : m ≤ cap) :
 (Instr.sliceBounds isSlice len cap (lo.map a.eval) (hi.map a.eval) (mx.map a.eval)).run P w = .ok (l.toNat, h.toNat, m.toNat) w := by
 have b : ∀ (v : Value) (kk : IntKind) (n : Int) (y : Nat) (code : BoundsCode), v = .int kk n → 0 ≤ n → n ≤ (y : Int) → (Instr.sliceBound v y code).run P w = .ok n.toNat w := by
  intro v kk n y code hv h0 h1
  simp [Instr.sliceBound, asIntOf, hv, h0, h1]
 have hm0 : 0 ≤ m := by omega
 have hm1 : (m.toNat : Int) = m := Int.toNat_of_nonneg hm0
 have hh1 : (h.toNat : Int) = h := Int.toNat_of_nonneg (by omega)
 rcases hm with ⟨rfl, rfl⟩ | ⟨xm, km, rfl, em⟩
 ·rcases hh with ⟨rfl, rfl, _⟩ | ⟨xh, kh, rfl, eh⟩
  ·rcases hl with ⟨rfl, rfl⟩ | ⟨xl, kl, rfl, el⟩
   ·simp [Instr.sliceBounds]
   ·simp [Instr.sliceBounds, b _ _ _ _ _ el h0 h1]
  ·have e1 := b _ _ _ cap (if isSlice then BoundsCode.sliceAcap else BoundsCode.sliceAlen) eh (by omega) h2
   rcases hl with ⟨rfl, rfl⟩ | ⟨xl, kl, rfl, el⟩
   ·simp [Instr.sliceBounds, e1]
   ·have e2 := b _ _ _ h.toNat BoundsCode.sliceB el h0 (by omega)
    simp [Instr.sliceBounds, e1, e2]
 ·have e3 := b _ _ _ cap (if isSlice then BoundsCode.slice3Acap else BoundsCode.slice3Alen) em hm0 h3
  rcases hh with ⟨rfl, rfl, hx⟩ | ⟨xh, kh, rfl, eh⟩
  ·cases hx
  ·have e1 := b _ _ _ m.toNat BoundsCode.slice3B eh (by omega) (by omega)
   rcases hl with ⟨rfl, rfl⟩ | ⟨xl, kl, rfl, el⟩
   ·simp [Instr.sliceBounds, e1, e3]
   ·have e2 := b _ _ _ h.toNat BoundsCode.slice3C el h0 (by omega)
    simp [Instr.sliceBounds, e1, e2, e3]
theorem RowAt.later {w : World} {M : Nat → Prop} {c off : Nat} {row : List PV} (h : RowAt w M c off row) {off' : Nat} (e : off = off') : RowAt w M c off' row := e ▸ h
theorem isl_part {wd len : Nat} {rows rs : List (List PV)} {cap cap' : Option Nat} {oa : Option Addr} {c l m : Nat} (hc : rows.length ≤ c)
 (hr : rows = [] ∨ ∃ ad : Addr, oa = some ad ∧ ad.spot = none ∧ ¬ ι.M ad.block ∧ ad.block < w.heap.size ∧
  ∀ (i : Nat) row, rows[i]? = some row → row.length = wd ∧ RowAt w ι.M ad.block (ad.off + i * wd) row)
 (hrs : (dropN l rows).take len = rs) (hlen : rs.length = len) (hlm : l + len ≤ m) (hcap : ∀ k, cap' = some k → m - l = k) (esz : Nat) (hw : wd = esz ∨ rows = []) :
 RA w ι (.p (.isl wd rs cap')) (.slice (if m = l then oa else oa.map (·.add (l * esz))) len (m - l)) := by
 subst hlen
 rw [dropN_eq] at hrs
 cases rs with
 | nil => exact .p (.nil (fun k hk => hcap k hk))
 | cons r0 rs0 =>
   have hne : rows ≠ [] := by
    intro h; subst h; simp at hrs
   rcases hr with h | ⟨ad, rfl, hs, hM, hb, hr⟩
   ·exact absurd h hne
   ·rcases hw with rfl | h
    ·have hml : m ≠ l := by simp at hlm; omega
     rw [if_neg hml]
     simp only [Option.map_some, add_spot hs]
     refine .p (RP_isl_mk (ad := ⟨ad.block, ad.off + l * wd, none⟩) rfl hM hb (by simp at hlm ⊢; omega) (fun k hk => hcap k hk) fun i row hi => ?_)
     have hi' : rows[l + i]? = some row := by
      have : ((rows.drop l).take (r0 :: rs0).length)[i]? = some row := by rw [hrs]; exact hi
      rw [List.getElem?_take] at this
      split at this
      ·rwa [List.getElem?_drop] at this
      ·cases this
     obtain ⟨h1, h2⟩ := hr _ _ hi'
     exact ⟨h1, h2.later (by rw [Nat.add_mul, Nat.add_assoc])⟩
    ·exact absurd h hne
theorem vslcS_sound (gl : Glb w ι.M) (tm : ∀ s, RA w ι (lk st.tmps s) (a.tmps.getD s undef)) {x : AV} {v : Value} (hx : RA w ι x v) {lo hi mx : Option Operand} {lo' hi' mx' : Option Opd}
 (hlo : cOpdO lo = some lo') (hhi : cOpdO hi = some hi') (hmx : cOpdO mx = some mx') (hmh : (mx'.isSome && hi'.isNone) = false) {esz : Nat} {k : AV → Prop}
 (h : vslcS x (lo'.map (ev st)) (hi'.map (ev st)) (mx'.map (ev st)) esz k) {t e : TypeId} (ht : P.underlying t = some (.slice e)) (hs : szT P e = some esz) :
 Vals P w ι k (Instr.sliceAt t v (lo.map a.eval) (hi.map a.eval) (mx.map a.eval)) := by
 have run : ∀ (oa : Option Addr) (len cap : Nat) (l h m : Int) (w' : World),
  ((lo = none ∧ l = 0) ∨ ∃ x kk, lo = some x ∧ a.eval x = .int kk l) → ((hi = none ∧ h = len ∧ mx = none) ∨ ∃ x kk, hi = some x ∧ a.eval x = .int kk h) →
  ((mx = none ∧ m = cap) ∨ ∃ x kk, mx = some x ∧ a.eval x = .int kk m) → 0 ≤ l → l ≤ h → h ≤ m → m ≤ cap →
  (Instr.sliceAt t (.slice oa len cap) (lo.map a.eval) (hi.map a.eval) (mx.map a.eval)).run P w' =
   .ok (.slice (if m.toNat = l.toNat then oa else oa.map (·.add (l.toNat * esz))) (h.toNat - l.toNat) (m.toNat - l.toNat)) w' := by
  intro oa len cap l h m w' e1 e2 e3 h0 h1 h2 h3
  simp [Instr.sliceAt, run_underlying ht, Instr.slice, run_sliceBounds true len cap lo hi mx l h m w' e1 e2 e3 h0 h1 h2 h3, run_sizeOf hs]
 have nomx : ∀ {m' : Option Opd}, cOpdO mx = some m' → m'.map (ev st) = none → mx = none := by
  intro m' h1 h2
  cases mx with
  | none => rfl
  | some x => simp only [cOpdO] at h1; obtain ⟨y, _, rfl⟩ := Option.map_eq_some_iff.1 h1; cases h2
 have hih : hi = none → mx = none := by
  intro h1; subst h1
  simp [cOpdO] at hhi; subst hhi
  cases mx with
  | none => rfl
  | some x => simp only [cOpdO] at hmx; obtain ⟨y, _, rfl⟩ := Option.map_eq_some_iff.1 hmx; simp at hmh
 unfold vslcS at h
 split at h
 ·rename_i wd rows cap
  cases hx
  rename_i hx
  obtain ⟨oa, c, rfl, hc, hcap, hr⟩ := RP_isl hx
  split at h
  ·rename_i hm0
   have hmn := nomx hmx hm0
   obtain ⟨l, h, el⟩ := vbnd_sound gl tm hlo h
   obtain ⟨hh, h, eh⟩ := vbnd_sound gl tm hhi h
   obtain ⟨⟨h0, h1, h2⟩, h⟩ := h
   cases hw : (Nat.beq wd esz || rows.isEmpty) with
   | false => rw [hw] at h; exact h.elim
   | true =>
     rw [hw] at h
     obtain ⟨rs, hrs, hlen, hk⟩ := h
     have hwd : wd = esz ∨ rows = [] := by simp at hw; exact hw.imp (fun h => h) (fun h => h)
     refine .mk hk (isl_part (cap := cap) (l := l.toNat) (m := c) hc hr hrs hlen (by omega) (fun k hk => ?_) esz hwd) fun w' _ => ?_
     ·obtain ⟨k0, hk0, rfl⟩ := Option.map_eq_some_iff.1 hk
      rw [hcap _ hk0]
     ·rw [run oa rows.length c l hh c w' (el.imp (fun h => ⟨h.1, h.2.2⟩) id) (eh.imp (fun h => ⟨h.1, h.2.2, hmn⟩) id) (.inl ⟨hmn, rfl⟩) h0 h1 (by omega) (by omega)]
      simp
  ·rename_i m0 hm0
   obtain ⟨l, h, el⟩ := vbnd_sound gl tm hlo h
   obtain ⟨hh, h, eh⟩ := vbnd_sound gl tm hhi h
   rw [← hm0] at h
   obtain ⟨m, h, em⟩ := vbnd_sound gl tm hmx h
   have em' : ∃ x kk, mx = some x ∧ a.eval x = .int kk m := by
    rcases em with ⟨h1, h2, h3⟩ | em
    ·subst h2; cases hm0
    ·exact em
   obtain ⟨⟨h0, h1, h2, h3⟩, h⟩ := h
   cases hw : (Nat.beq wd esz || rows.isEmpty) with
   | false => rw [hw] at h; exact h.elim
   | true =>
     rw [hw] at h
     obtain ⟨rs, hrs, hlen, hk⟩ := h
     have hwd : wd = esz ∨ rows = [] := by simp at hw; exact hw.imp (fun h => h) (fun h => h)
     refine .mk hk (isl_part (cap := cap) (l := l.toNat) (m := m.toNat) hc hr hrs hlen (by omega) (fun k hk => ?_) esz hwd) fun w' _ => ?_
     ·cases hk; rfl
     ·exact run oa rows.length c l hh m w' (el.imp (fun h => ⟨h.1, h.2.2⟩) id) (eh.imp (fun h => ⟨h.1, h.2.2, hih h.1⟩) id) (.inr em') h0 h1 (by omega) (by omega)
 ·rename_i b wd i len cap
  have part : ∀ (l hh m : Int) (cap' : Option Nat) (oa : Option Addr) (cc : Nat), RA w ι (.sl b wd i len cap) (.slice oa len cc) → 0 ≤ l → l ≤ hh → hh ≤ m → hh ≤ len → m ≤ cc →
   (∀ k, cap' = some k → m.toNat - l.toNat = k) →
   RA w ι (.sl b wd (i + l.toNat) (hh.toNat - l.toNat) cap') (.slice (if m.toNat = l.toNat then oa else oa.map (·.add (l.toNat * wd))) (hh.toNat - l.toNat) (m.toNat - l.toNat)) := by
   intro l hh m cap' oa cc hr h0 h1 h2 h3 h4 hcap'
   by_cases hz : m.toNat = l.toNat
   ·have e1 : hh.toNat - l.toNat = 0 := by omega
    have e2 : m.toNat - l.toNat = 0 := by omega
    rw [if_pos hz, e1, e2]
    exact .slz fun k hk => by rw [← hcap' k hk]; exact e2
   ·rw [if_neg hz]
    cases hr with
    | sl hb hl hcap hs' =>
      rename_i c o s
      simp only [Option.map_some, add_none]
      rw [show o + i * wd + l.toNat * wd = o + (i + l.toNat) * wd by rw [Nat.add_mul, Nat.add_assoc]]
      refine .sl hb (by omega) hcap' ?_
      have : (i + l.toNat + (m.toNat - l.toNat)) * wd ≤ (i + cc) * wd := Nat.mul_le_mul_right _ (by omega)
      omega
    | slz hcap => omega
  have shape : ∃ oa cc, v = .slice oa len cc ∧ (∀ k, cap = some k → cc = k) ∧ len ≤ cc := by
   cases hx with
   | sl hb hl hcap hs' => exact ⟨_, _, rfl, hcap, hl⟩
   | slz hcap => exact ⟨_, _, rfl, fun k hk => (hcap k hk).symm, Nat.le_refl _⟩
  obtain ⟨oa, cc, rfl, hcap, hlc⟩ := shape
  split at h
  ·rename_i hm0
   have hmn := nomx hmx hm0
   obtain ⟨l, h, el⟩ := vbnd_sound gl tm hlo h
   obtain ⟨hh, h, eh⟩ := vbnd_sound gl tm hhi h
   obtain ⟨⟨h0, h1, h2⟩, hk⟩ := h
   cases hw : Nat.beq wd esz with
   | false => rw [hw] at hk; exact hk.elim
   | true =>
     rw [hw] at hk
     obtain rfl := Nat.eq_of_beq_eq_true hw
     refine .mk hk (part l hh cc _ oa cc hx h0 h1 (by omega) h2 (by omega) fun k hk => ?_) fun w' _ => ?_
     ·obtain ⟨k0, hk0, rfl⟩ := Option.map_eq_some_iff.1 hk
      rw [hcap _ hk0]; simp
     ·exact run oa len cc l hh cc w' (el.imp (fun h => ⟨h.1, h.2.2⟩) id) (eh.imp (fun h => ⟨h.1, h.2.2, hmn⟩) id) (.inl ⟨hmn, rfl⟩) h0 h1 (by omega) (by omega)
  ·rename_i m0 hm0
   obtain ⟨l, h, el⟩ := vbnd_sound gl tm hlo h
   obtain ⟨hh, h, eh⟩ := vbnd_sound gl tm hhi h
   rw [← hm0] at h
   obtain ⟨m, h, em⟩ := vbnd_sound gl tm hmx h
   have em' : ∃ x kk, mx = some x ∧ a.eval x = .int kk m := by
    rcases em with ⟨h1, h2, h3⟩ | em
    ·subst h2; cases hm0
    ·exact em
   obtain ⟨⟨h0, h1, h2, h3⟩, hk⟩ := h
   cases hw : Nat.beq wd esz with
   | false => rw [hw] at hk; exact hk.elim
   | true =>
     rw [hw] at hk
     obtain rfl := Nat.eq_of_beq_eq_true hw
     refine .mk hk (part l hh m _ oa cc hx h0 h1 h2 (by omega) (by omega) fun k hk => ?_) fun w' _ => ?_
     ·cases hk; rfl
     ·exact run oa len cc l hh m w' (el.imp (fun h => ⟨h.1, h.2.2⟩) id) (eh.imp (fun h => ⟨h.1, h.2.2, hih h.1⟩) id) (.inr em') h0 h1 (by omega) (by omega)
 ·exact h.elim
end
end Hk
namespace Hk
open Go
set_option linter.unusedVariables false
set_option linter.unusedSimpArgs false
section
variable {P : Program} {ι : Inj} {st : St} {a : Act} {w : World}
theorem vslcA_sound (gl : Glb w ι.M) (tm : ∀ s, RA w ι (lk st.tmps s) (a.tmps.getD s undef)) {x : AV} {v : Value} (hx : RA w ι x v) {lo hi mx : Option Operand} {lo' hi' mx' : Option Opd}
 (hlo : cOpdO lo = some lo') (hhi : cOpdO hi = some hi') (hmx : cOpdO mx = some mx') (hmh : (mx'.isSome && hi'.isNone) = false) {len esz : Nat} {k : AV → Prop}
 (h : vslcA x (lo'.map (ev st)) (hi'.map (ev st)) (mx'.map (ev st)) len esz k) {t e : TypeId} (ht : P.underlying t = some (.array len e)) (hs : szT P e = some esz) :
 Vals P w ι k (Instr.sliceAt t v (lo.map a.eval) (hi.map a.eval) (mx.map a.eval)) := by
 have hih : hi = none → mx = none := by
  intro h1; subst h1
  simp [cOpdO] at hhi; subst hhi
  cases mx with
  | none => rfl
  | some x => simp only [cOpdO] at hmx; obtain ⟨y, _, rfl⟩ := Option.map_eq_some_iff.1 hmx; simp at hmh
 unfold vslcA at h
 split at h
 ·rename_i b wd i j
  obtain ⟨l, h, el⟩ := vbnd_sound gl tm hlo h
  obtain ⟨hh, h, eh⟩ := vbnd_sound gl tm hhi h
  obtain ⟨m, h, em⟩ := vbnd_sound gl tm hmx h
  obtain ⟨⟨h0, h1, h2, h3⟩, hk⟩ := h
  cases hx
  rename_i c o s hb
  have hrun : ∀ w', (Instr.sliceAt t (.pointer (some ⟨c, o + (i * wd + j), none⟩)) (lo.map a.eval) (hi.map a.eval) (mx.map a.eval)).run P w' =
   .ok (.slice (some (if m.toNat = l.toNat then ⟨c, o + (i * wd + j), none⟩ else (⟨c, o + (i * wd + j), none⟩ : Addr).add (l.toNat * esz))) (hh.toNat - l.toNat) (m.toNat - l.toNat)) w' := fun w' => by
   simp [Instr.sliceAt, run_underlying ht, Instr.sureAddr, run_sizeOf hs,
    run_sliceBounds (P := P) false len len lo hi mx l hh m w' (el.imp (fun h => ⟨h.1, h.2.2⟩) id) (eh.imp (fun h => ⟨h.1, h.2.2, hih h.1⟩) id) (em.imp (fun h => ⟨h.1, h.2.2⟩) id) h0 h1 h2 h3]
  by_cases hz : hh.toNat - l.toNat = 0
  ·rw [hz] at hk
   refine .mk (v := .slice (some (if m.toNat = l.toNat then ⟨c, o + (i * wd + j), none⟩ else (⟨c, o + (i * wd + j), none⟩ : Addr).add (l.toNat * esz))) 0 (m.toNat - l.toNat)) hk .cslz fun w' _ => ?_
   rw [hrun, hz]
  ·refine .mk hk (.csl (cc := m.toNat - l.toNat) hb (by omega)) fun w' _ => ?_
   rw [hrun, if_neg (by omega), add_none, Nat.add_assoc, Nat.add_assoc]
 ·exact h.elim
theorem bytes_extract (l : List UInt8) (i j : Nat) : (⟨⟨l⟩⟩ : ByteArray).extract i j = ⟨⟨(l.drop i).take (j - i)⟩⟩ := by
 apply ByteArray.ext
 simp [ByteArray.data_extract, List.extract_eq_take_drop]
theorem vslcStr_sound (gl : Glb w ι.M) (tm : ∀ s, RA w ι (lk st.tmps s) (a.tmps.getD s undef)) {x : AV} {v : Value} (hx : RA w ι x v) {lo hi : Option Operand} {lo' hi' : Option Opd}
 (hlo : cOpdO lo = some lo') (hhi : cOpdO hi = some hi') {k : AV → Prop}
 (h : vslcStr x (lo'.map (ev st)) (hi'.map (ev st)) k) {t : TypeId} (ht : P.underlying t = some .string) :
 Vals P w ι k (Instr.sliceAt t v (lo.map a.eval) (hi.map a.eval) none) := by
 unfold vslcStr at h
 split at h
 ·rename_i s
  obtain ⟨l, h, el⟩ := vbnd_sound gl tm hlo h
  obtain ⟨hh, h, eh⟩ := vbnd_sound gl tm hhi h
  obtain ⟨⟨h0, h1, h2⟩, hk⟩ := h
  rw [RA_str hx]
  refine .mk hk (.p (.str _)) fun w' _ => ?_
  have e : (⟨⟨s⟩⟩ : ByteArray).size = s.length := rfl
  have := run_sliceBounds (P := P) (a := a) false s.length s.length lo hi none l hh s.length w' (el.imp (fun h => ⟨h.1, h.2.2⟩) id) (eh.imp (fun h => ⟨h.1, h.2.2, rfl⟩) id) (.inl ⟨rfl, rfl⟩) h0 h1 (by omega) (by omega)
  simp only [Option.map_none] at this
  rw [dropN_eq]
  simp only [Instr.sliceAt, Sem.run_bind, run_underlying ht, Result.andThen_ok, Instr.slice, e, Option.isSome_none, Bool.false_eq_true, if_false, this, bytes_extract, Sem.run_pure]
 ·exact h.elim
def RowsAt (w : World) (M : Nat → Prop) (v : Value) (esz : Nat) (rows : List (List PV)) : Prop :=
 ∃ oa cap, v = .slice oa rows.length cap ∧ (rows = [] ∨ ∃ ad : Addr, oa = some ad ∧ ad.spot = none ∧
  ∀ (i : Nat) row, rows[i]? = some row → row.length = esz ∧ RowAt w M ad.block (ad.off + i * esz) row)
theorem vslices_sound {h : List Blk} (hr : HRel ι h w) {x : AV} {v : Value} (hx : RA w ι x v) {esz : Nat} {k : List (List PV) → Prop} (hv : vslices h x esz k) :
 ∃ rows, k rows ∧ RowsAt w ι.M v esz rows := by
 unfold vslices at hv
 split at hv
 ·rename_i wd rows cap
  cases hw : (Nat.beq wd esz || rows.isEmpty) with
  | false => rw [hw] at hv; exact hv.elim
  | true =>
    rw [hw] at hv
    have hwd : wd = esz ∨ rows = [] := by simp at hw; exact hw.imp (fun h => h) (fun h => h)
    cases hx
    rename_i hx
    obtain ⟨oa, c, rfl, hc, hcap, hr⟩ := RP_isl hx
    refine ⟨rows, hv, ⟨oa, c, rfl, ?_⟩⟩
    rcases hwd with rfl | h0
    ·exact hr.imp id fun ⟨ad, h1, h2, h3, h4, h5⟩ => ⟨ad, h1, h2, h5⟩
    ·exact .inl h0
 ·rename_i b wd i len cap
  split at hv
  ·rename_i wd' rows hn
   cases hw : (Nat.beq wd wd' && Nat.beq wd esz) with
   | false => rw [hw] at hv; exact hv.elim
   | true =>
     rw [hw] at hv
     obtain ⟨e1, e2⟩ := by simpa using hw
     subst e1; subst e2
     obtain ⟨rs, hrs, hlen, hk⟩ := hv
     cases hx with
     | sl hb hl hcap hs' =>
       rename_i c o s cc
       refine ⟨rs, hk, ⟨_, _, by rw [hlen], .inr ⟨_, rfl, rfl, fun n row hi => ?_⟩⟩⟩
       rw [dropN_eq] at hrs
       have hi' : rows[i + n]? = some row := by
        have : ((rows.drop i).take len)[n]? = some row := by rw [hrs]; exact hi
        rw [List.getElem?_take] at this
        split at this
        ·rwa [List.getElem?_drop] at this
        ·cases this
       obtain ⟨h1, h2⟩ := hr.row hb hn hi'
       exact ⟨h1, h2.later (by simp [Nat.add_mul, Nat.add_assoc])⟩
     | slz hcap =>
       have : rs = [] := List.eq_nil_of_length_eq_zero hlen
       subst this
       exact ⟨[], hk, ⟨_, _, rfl, .inl rfl⟩⟩
  ·exact hv.elim
 ·rename_i b wd i j e len
  split at hv
  ·rename_i wd' rows hn
   cases hw : (Nat.beq wd wd' && Nat.beq e esz && Nat.beq e 1) with
   | false => rw [hw] at hv; exact hv.elim
   | true =>
     rw [hw] at hv
     obtain ⟨⟨e1, e2⟩, e3⟩ := by simpa using hw
     subst e1; subst e2; subst e3
     obtain ⟨row, rs, hrow, hrs, hlen, hk⟩ := hv
     cases hx with
     | csl hb hl =>
       rename_i c o s cc
       refine ⟨rs, hk, ⟨_, _, by rw [hlen], .inr ⟨_, rfl, rfl, fun n r hi => ?_⟩⟩⟩
       rw [dropN_eq] at hrs
       obtain ⟨h1, h2⟩ := hr.row hb hn hrow
       have : (((row.drop j).take len).map fun x => [x])[n]? = some r := by rw [hrs]; exact hi
       rw [List.getElem?_map, List.getElem?_take] at this
       split at this
       ·rw [List.getElem?_drop] at this
        obtain ⟨y, hy, rfl⟩ := Option.map_eq_some_iff.1 this
        refine ⟨rfl, fun q z hz => ?_⟩
        cases q with
        | zero =>
          simp at hz; subst hz
          obtain ⟨h3, v, h4, h5⟩ := h2 _ _ hy
          refine ⟨h3, v, ?_, h5⟩
          rw [← h4]; congr 2; simp [Nat.add_assoc]
        | succ q => simp at hz
       ·simp at this
     | cslz =>
       have : rs = [] := List.eq_nil_of_length_eq_zero hlen
       subst this
       exact ⟨[], hk, ⟨_, _, rfl, .inl rfl⟩⟩
  ·exact hv.elim
 ·exact hv.elim
theorem vrows_sound {h : List Blk} (hr : HRel ι h w) {x : AV} {v : Value} (hx : RA w ι x v) {esz : Nat} {k : List (List PV) → Prop} (hv : vrows h x esz k) :
 ∃ rows, k rows ∧ ((∃ l, x = .p (.str l) ∧ v = .string ⟨⟨l⟩⟩ ∧ rows = l.map encByte ∧ esz = 1) ∨ RowsAt w ι.M v esz rows) := by
 unfold vrows at hv
 split at hv
 ·rename_i l
  cases hw : Nat.beq esz 1 with
  | false => rw [hw] at hv; exact hv.elim
  | true =>
    rw [hw] at hv
    exact ⟨_, hv, .inl ⟨l, rfl, RA_str hx, rfl, Nat.eq_of_beq_eq_true hw⟩⟩
 ·obtain ⟨rows, h1, h2⟩ := vslices_sound hr hx hv
  exact ⟨rows, h1, .inr h2⟩
theorem strOf_sound {h : List Blk} (hr : HRel ι h w) {x : AV} {v : Value} (hx : RA w ι x v) {k : AV → Prop}
 (hv : vslices h x 1 fun rows => ∃ l : List UInt8, rows = l.map encByte ∧ k (.p (.str l))) {t d e : TypeId} (ht : P.underlying t = some (.slice e)) (he : P.underlying e = some (.int .u8))
 (hd : P.underlying d = some .string) : Vals P w ι k (convert t d v) := by
 obtain ⟨rows, ⟨l, rfl, hk⟩, hrows⟩ := vslices_sound hr hx hv
 obtain ⟨oa, cap, rfl, hro⟩ := hrows
 ·refine .mk hk (.p (.str l)) fun w' hw' => ?_
  rw [run_convert_bytes_string w' t d e _ _ _ ht he hd]
  rcases hro with h0 | ⟨ad, rfl, hs, hrow⟩
  ·have : l = [] := by simpa using h0
   subst this
   cases oa with
   | none => rfl
   | some ad =>
     have := run_bytesToString (P := P) w' ad 0 cap [] (by simp [loadCells, loadCellsFrom])
     exact (by simpa using this : _ = Result.ok (Value.string ByteArray.empty) w')
  ·have hcell : ∀ i b, l[i]? = some b → w.cell? (ad.add i) = some (.int .u8 b.toNat) := by
    intro i b hb
    obtain ⟨_, h2⟩ := hrow i (encByte b) (by simp [hb])
    obtain ⟨_, v, h3, h4⟩ := h2 0 (.int .u8 b.toNat) rfl
    cases h4
    rw [add_spot hs]
    simpa using h3
   have hl := run_loadCells_list (P := P) w' ad ((l.map fun b => (b.toNat : Int)).map (Value.int .u8)) (fun j v hv => by
    simp at hv
    obtain ⟨b, hb, rfl⟩ := hv
    exact hw'.cell (hcell j b hb))
   have := run_bytesToString (P := P) w' ad l.length cap (l.map fun b => (b.toNat : Int)) (by simpa using hl)
   simp only [List.length_map]
   rw [this, foldl_push_bytes]
   congr 2
   apply ByteArray.ext
   simp [List.map_map, Function.comp_def]
end
end Hk
namespace Hk
open Go
set_option linter.unusedVariables false
set_option linter.unusedSimpArgs false
section
variable {P : Program} {ι : Inj} {st : St} {a : Act} {w : World}
theorem cells_sound {x : AV} (hok : vok x = true) {v : Value} (h : RA w ι x v) : v.cells.size = (cellsOf x).length ∧
 ∀ (i : Nat) y, (cellsOf x)[i]? = some y → oneC (v.cells.getD i undef) = true ∧ RA w ι y (v.cells.getD i undef) := by
 have single : oneC v = true → (∀ cs, v ≠ .agg cs) → RA w ι x v → cellsOf x = [x] → v.cells.size = (cellsOf x).length ∧
  ∀ (i : Nat) y, (cellsOf x)[i]? = some y → oneC (v.cells.getD i undef) = true ∧ RA w ι y (v.cells.getD i undef) := by
  intro h1 h2 h3 h4
  have : v.cells = #[v] := by cases v <;> first | rfl | exact absurd rfl (h2 _)
  rw [this, h4]
  refine ⟨rfl, fun i y hy => ?_⟩
  cases i with
  | zero => simp at hy; subst hy; exact ⟨by simpa using h1, by simpa using h3⟩
  | succ i => simp at hy
 have h' := h
 cases h with
 | p hp =>
   rename_i x
   by_cases hx : ∃ l, x = .agg l
   ·obtain ⟨l, rfl⟩ := hx
    obtain ⟨cs, rfl, hl, hone, hr⟩ := RP_agg hp
    refine ⟨by simp [Value.cells, cellsOf, hl], fun i y hy => ?_⟩
    simp [cellsOf] at hy
    obtain ⟨z, hz, rfl⟩ := hy
    exact ⟨(hr i z hz).oneCell (hone i z hz), .p (hr i z hz)⟩
   ·have ho : x.one = true := by cases x <;> first | rfl | exact absurd ⟨_, rfl⟩ hx
    refine single (hp.oneCell ho) (fun cs hc => ?_) h' (by cases x <;> first | rfl | exact absurd ⟨_, rfl⟩ hx)
    subst hc
    have := hp.oneCell ho
    simp [oneC, Value.oneCell'] at this
 | und v => simp [vok] at hok
 | ptr hb => exact single rfl (by simp) h' rfl
 | sl hb hl hcap hs => exact single rfl (by simp) h' rfl
 | slz hcap => exact single rfl (by simp) h' rfl
 | csl hb hl => exact single rfl (by simp) h' rfl
 | cslz => exact single rfl (by simp) h' rfl
 | mpr hb => exact single rfl (by simp) h' rfl
 | agg hl hone h => exact ⟨by simp [Value.cells, cellsOf, hl], fun i y hy => ⟨hone i y hy, h i y hy⟩⟩
 | tup hl h => simp [vok] at hok
 | fn h1 h2 h3 h4 => exact single rfl (by simp) h' rfl
 | ifc h => exact single rfl (by simp) h' rfl
theorem foldl_set (cells : Array Value) (vs : List Value) (off n : Nat) (i : Nat) :
 ((vs.zipIdx n).foldl (fun cs (c, j) => cs.setIfInBounds (off + j) c) cells)[i]? =
   if off + n ≤ i ∧ i < off + n + vs.length ∧ i < cells.size then vs[i - (off + n)]? else cells[i]? := by
 induction vs generalizing cells n with
 | nil => simp; omega
 | cons v r ih =>
   simp only [List.zipIdx_cons, List.foldl_cons]
   rw [ih]
   simp only [Array.size_setIfInBounds, List.length_cons]
   by_cases h1 : i = off + n
   ·subst h1
    by_cases h2 : off + n < cells.size
    ·rw [if_neg (by omega), if_pos (by omega)]
     simp [h2]
    ·rw [if_neg (by omega), if_neg (by omega)]
     rw [Array.getElem?_eq_none (by simp; omega), Array.getElem?_eq_none (by omega)]
   ·have hne : (cells.setIfInBounds (off + n) v)[i]? = cells[i]? := Array.getElem?_setIfInBounds_ne (Ne.symm h1)
    by_cases h2 : off + (n + 1) ≤ i ∧ i < off + (n + 1) + r.length ∧ i < cells.size
    ·rw [if_pos h2, if_pos (by omega)]
     rw [show i - (off + n) = (i - (off + (n + 1))) + 1 by omega]
     simp
    ·rw [if_neg h2, if_neg (by omega), hne]
theorem foldl_set_size (cells : Array Value) (vs : List Value) (off n : Nat) :
 ((vs.zipIdx n).foldl (fun cs (c, j) => cs.setIfInBounds (off + j) c) cells).size = cells.size := by
 induction vs generalizing cells n with
 | nil => rfl
 | cons v r ih => simp only [List.zipIdx_cons, List.foldl_cons]; rw [ih]; simp
theorem foldl_set_arr (cells : Array Value) (vs : Array Value) (off : Nat) :
 vs.zipIdx.foldl (fun cs (c, j) => cs.setIfInBounds (off + j) c) cells = (vs.toList.zipIdx 0).foldl (fun cs (c, j) => cs.setIfInBounds (off + j) c) cells := by
 rw [← Array.foldl_toList]
 simp [Array.toList_zipIdx]
def CellsFor (w : World) (ι : Inj) (l : List AV) (cs : Array Value) : Prop :=
 cs.size = l.length ∧ ∀ (i : Nat) x, l[i]? = some x → oneC (cs.getD i undef) = true ∧ RA w ι x (cs.getD i undef)
theorem CellsFor.put {l : List AV} {cs : Array Value} (h : CellsFor w ι l cs) {xs : List AV} {vs : Array Value} (hv : CellsFor w ι xs vs) (off : Nat) (ho : off + xs.length ≤ l.length) :
 CellsFor w ι (l.take off ++ xs ++ l.drop (off + xs.length)) (vs.zipIdx.foldl (fun cs (c, j) => cs.setIfInBounds (off + j) c) cs) := by
 obtain ⟨h1, h2⟩ := h
 obtain ⟨h3, h4⟩ := hv
 refine ⟨?_, fun i x hx => ?_⟩
 ·rw [foldl_set_arr, foldl_set_size]; simp; omega
 ·have hg : (vs.zipIdx.foldl (fun cs (c, j) => cs.setIfInBounds (off + j) c) cs).getD i undef =
   if off ≤ i ∧ i < off + xs.length then vs.getD (i - off) undef else cs.getD i undef := by
   simp only [Array.getD_eq_getD_getElem?]
   rw [foldl_set_arr, foldl_set]
   simp only [Nat.add_zero, Array.length_toList, h3]
   by_cases hc : off ≤ i ∧ i < off + xs.length
   ·rw [if_pos hc, if_pos ⟨hc.1, hc.2, by omega⟩]; simp
   ·rw [if_neg hc, if_neg (fun h => hc ⟨h.1, h.2.1⟩)]
  rw [hg]
  by_cases hc : off ≤ i ∧ i < off + xs.length
  ·rw [if_pos hc]
   apply h4
   rw [List.append_assoc, List.getElem?_append_right (by simp; omega), List.getElem?_append_left (by simp; omega)] at hx
   simpa [Nat.min_eq_left (show off ≤ l.length by omega)] using hx
  ·rw [if_neg hc]
   apply h2
   by_cases hlt : i < off
   ·rw [List.append_assoc, List.getElem?_append_left (by simp; omega), List.getElem?_take_of_lt hlt] at hx
    exact hx
   ·rw [List.getElem?_append_right (by simp; omega)] at hx
    simp only [List.length_append, List.length_take, List.getElem?_drop] at hx
    rw [show off + xs.length + (i - (min off l.length + xs.length)) = i by omega] at hx
    exact hx
theorem fill_sound {place : Nat → Option (Nat × Nat)} {parts : List (Nat × Operand)} {ps : List (Nat × Nat × Opd)} (hp : cParts place parts = some ps)
 (gl : Glb w ι.M) (tm : ∀ s, RA w ι (lk st.tmps s) (a.tmps.getD s undef)) {cells : List AV} {cs : Array Value} (hc : CellsFor w ι cells cs) {out : List AV}
 (hf : fillA cells (evParts st ps) = some out) : ∃ cs', Instr.fill place cs (parts.map fun (i, x) => (i, a.eval x)) = some cs' ∧ CellsFor w ι out cs' := by
 induction parts generalizing ps cells cs with
 | nil => simp [cParts] at hp; subst hp; simp [evParts, fillA] at hf; subst hf; exact ⟨cs, rfl, hc⟩
 | cons p r ih =>
   obtain ⟨i, x⟩ := p
   unfold cParts at hp
   split at hp
   ·rename_i o s y l h1 h2 h3
    cases hp
    simp only [evParts, fillA] at hf
    cases hb : (vok (ev st y) && Nat.beq (cellsOf (ev st y)).length s && Nat.ble (o + s) cells.length) with
    | false => rw [hb] at hf; cases hf
    | true =>
      rw [hb] at hf
      simp only [cond_true] at hf
      simp only [Bool.and_eq_true] at hb
      obtain ⟨⟨hok, e1⟩, e2⟩ := hb
      have e1 := Nat.eq_of_beq_eq_true e1
      have e2 := Nat.le_of_ble_eq_true e2
      have hx := ev_sound gl tm h2
      obtain ⟨g1, g2⟩ := cells_sound hok hx
      have hcs : CellsFor w ι (cellsOf (ev st y)) (a.eval x).cells := ⟨g1, g2⟩
      have hput := hc.put hcs o (by rw [e1]; exact e2)
      rw [e1] at hput
      obtain ⟨cs', h4, h5⟩ := ih h3 hput hf
      refine ⟨cs', ?_, h5⟩
      simp only [List.map_cons, Instr.fill, h1]
      rw [if_neg]
      ·exact h4
      ·have := hc.1
       simp only [Bool.or_eq_true, decide_eq_true_eq, not_or]
       refine ⟨by simp [g1, e1], by omega⟩
   ·cases hp
theorem zeroT_sound {t : TypeId} {z : List PV} (h : zeroT P t = some z) : ∃ i v, P.info? t = some i ∧ i.zero = some v ∧ CellsFor w ι (z.map .p) v.cells ∧
 (∀ (i : Nat) x, z[i]? = some x → x.one = true ∧ RP w ι.M x (v.cells.getD i undef)) ∧ v.cells.size = z.length := by
 unfold zeroT at h
 split at h
 ·rename_i v hv
  obtain ⟨i, hi, hz⟩ := Option.bind_eq_some_iff.1 hv
  obtain ⟨h1, h2⟩ := pvL_sound (w := w) (M := ι.M) h
  have key : ∀ (i : Nat) x, z[i]? = some x → x.one = true ∧ RP w ι.M x (v.cells.getD i undef) := fun i x hx => by
   obtain ⟨h3, u, hu, hr⟩ := h2 i x hx
   have : v.cells.getD i undef = u := by
    simp only [Array.getD_eq_getD_getElem?]
    rw [← Array.getElem?_toList, hu]; rfl
   rw [this]
   exact ⟨h3, hr⟩
  refine ⟨i, v, hi, hz, ⟨by simp [h1], fun i x hx => ?_⟩, key, by simp [h1]⟩
  simp at hx
  obtain ⟨y, hy, rfl⟩ := hx
  obtain ⟨h3, hr⟩ := key i y hy
  exact ⟨hr.oneCell h3, .p hr⟩
 ·cases h
theorem run_zeroValue {t : TypeId} {i : TypeInfo} {v : Value} (hi : P.info? t = some i) (hz : i.zero = some v) (w : World) : (zeroValue t).run P w = .ok v w := by
 simp [zeroValue, run_typeInfo hi, hz]
theorem run_mapM_sizes (fs : Array Field) (hs : ∀ f ∈ fs, ∃ s, szT P f.type = some s) (w : World) :
 (fs.mapM fun (f : Field) => do pure (f.offset, ← Go.sizeOf f.type)).run P w = .ok (fs.map fun (f : Field) => (f.offset, (szT P f.type).getD 0)) w := by
 have h : ∀ l : List Field, (∀ f ∈ l, ∃ s, szT P f.type = some s) → (l.mapM fun (f : Field) => do pure (f.offset, ← Go.sizeOf f.type)).run P w = .ok (l.map fun (f : Field) => (f.offset, (szT P f.type).getD 0)) w := by
  intro l
  induction l with
  | nil => intro _; rfl
  | cons f r ih =>
    intro hl
    obtain ⟨s, h1⟩ := hl f (by simp)
    simp only [List.mapM_cons, Sem.run_bind, run_sizeOf h1, Result.andThen_ok, Sem.run_pure, ih fun g hg => hl g (by simp [hg])]
    simp [h1]
 rw [Array.mapM_eq_mapM_toList]
 simp only [Sem.run_map]
 rw [h fs.toList fun f hf => hs f (by simpa using hf)]
 simp only [Result.andThen_ok]
 congr 1
 apply Array.ext'
 simp
theorem build_sound (gl : Glb w ι.M) (tm : ∀ s, RA w ι (lk st.tmps s) (a.tmps.getD s undef)) {t : TypeId} {parts : Array (Nat × Operand)} {z : List PV} {ps : List (Nat × Nat × Opd)} {k : AV → Prop}
 (hz : zeroT P t = some z)
 (hp : (∃ fs, P.underlying t = some (.struct fs) ∧ fs.toList.all (fun f => (szT P f.type).isSome) = true ∧ cParts (fun i => (fs.map fun f => (f.offset, (szT P f.type).getD 0))[i]?) parts.toList = some ps) ∨
  ∃ n e s, P.underlying t = some (.array n e) ∧ szT P e = some s ∧ cParts (fun i => some (i * s, s)) parts.toList = some ps)
 (h : vbuild (fillA (z.map .p) (evParts st ps)) k) :
 Vals P w ι k (Instr.build t (parts.map fun (i, x) => (i, a.eval x))) := by
 obtain ⟨i, v, hi, hzv, hcf, _, _⟩ := zeroT_sound (w := w) (ι := ι) hz
 unfold vbuild at h
 split at h
 ·rename_i l hl
  have go : ∀ place, cParts place parts.toList = some ps → ∃ cs', Instr.fill place v.cells ((parts.map fun (i, x) => (i, a.eval x)).toList) = some cs' ∧ CellsFor w ι l cs' := fun place hp => by
   have := fill_sound hp gl tm hcf hl
   simpa using this
  rcases hp with ⟨fs, hu, hall, hp⟩ | ⟨n, e, s, hu, hs, hp⟩
  ·obtain ⟨cs', h1, h2⟩ := go _ hp
   refine .mk h (mkAgg_sound h2.1 (fun i x hx => (h2.2 i x hx).1) fun i x hx => (h2.2 i x hx).2) fun w' _ => ?_
   have hm := run_mapM_sizes (P := P) fs (fun f hf => by
    have := List.all_eq_true.1 hall f (by simpa using hf)
    exact Option.isSome_iff_exists.1 this) w'
   simp only [Instr.build, Sem.run_bind, run_zeroValue hi hzv, Result.andThen_ok, run_underlying hu, hm, h1, Sem.run_pure]
  ·obtain ⟨cs', h1, h2⟩ := go _ hp
   refine .mk h (mkAgg_sound h2.1 (fun i x hx => (h2.2 i x hx).1) fun i x hx => (h2.2 i x hx).2) fun w' _ => ?_
   simp only [Instr.build, Sem.run_bind, run_zeroValue hi hzv, Result.andThen_ok, run_underlying hu, run_sizeOf hs, h1, Sem.run_pure]
 ·exact h.elim
theorem eqPV_eq {x y : PV} (h : eqPV x y = true) : x = y := by
 cases x <;> cases y <;> simp [eqPV] at h
 ·rw [h.1, h.2]
 ·rw [h]
theorem fillA_app (arr : List PV) : ∀ (ps ps' : List (Nat × Nat × AV)) (cells : List AV), shiftP arr.length ps = some ps' → fillA (arr.map AV.p ++ cells) ps = (fillA cells ps').map (arr.map AV.p ++ ·)
 | [], ps', cells, h => by cases h; rfl
 | (off, s, v) :: r, ps', cells, h => by
   unfold shiftP at h
   cases hb : Nat.ble arr.length off with
   | false => rw [hb] at h; cases h
   | true =>
     rw [hb] at h
     have hb := Nat.le_of_ble_eq_true hb
     simp only [cond_true] at h
     split at h
     ·rename_i l hl
      cases h
      simp only [fillA]
      have e : Nat.ble (off + s) (arr.map AV.p ++ cells).length = Nat.ble (off - arr.length + s) cells.length := by
       rw [Bool.eq_iff_iff]
       simp only [Nat.ble_eq]
       simp; omega
      rw [e]
      cases hc : (vok v && Nat.beq (cellsOf v).length s && Nat.ble (off - arr.length + s) cells.length) with
      | false => rfl
      | true =>
        simp only [cond_true]
        rw [← fillA_app arr r l _ hl]
        congr 1
        rw [List.take_append, List.drop_append, List.take_of_length_le (by simpa using hb), List.drop_eq_nil_of_le (by simp; omega), List.length_map]
        have : off + s - arr.length = off - arr.length + s := by omega
        rw [this]
        simp
     ·cases h
theorem vbx_fill {arr : List PV} {cells : List AV} {ps : List (Nat × Nat × AV)} {k : AV → Prop} (h : vbx arr cells (shiftP arr.length ps) k) : vbuild (fillA (arr.map AV.p ++ cells) ps) k := by
 unfold vbx at h
 split at h
 ·rename_i ps' hp
  split at h
  ·rename_i l hl
   rw [fillA_app arr ps ps' cells hp, hl]
   simp only [Option.map_some, vbuild]
   rw [mkAgg_app]; exact h
  ·exact h.elim
 ·exact h.elim
theorem vbuildx_fill {n : Nat} {z0 : PV} {z rest : List PV} (hn : n ≤ z.length) (hall : (z.take n).all (eqPV z0) = true) (hrest : z.drop n = rest) {ps : List (Nat × Nat × AV)} {k : AV → Prop} (h : vbuildx n z0 rest ps k) :
 vbuild (fillA (z.map .p) ps) k := by
 unfold vbuildx at h
 split at h
 ·rename_i s v r
  obtain ⟨arr, rest0, hc, ⟨hok, hl, hs, hle⟩, h⟩ := h
  subst hl
  have h := vbx_fill h
  have e : fillA (z.map AV.p) ((0, s, v) :: r) = fillA (arr.map AV.p ++ (rest0 ++ (rest.drop rest0.length).map AV.p)) r := by
   simp only [fillA]
   have e1 : (cellsOf v).length = s := by rw [hc]; simp; omega
   have hz : z.length = arr.length + rest.length := by rw [← hrest]; simp; omega
   rw [hok, e1]
   have e2 : Nat.ble (0 + s) (z.map AV.p).length = true := by simp only [Nat.ble_eq]; simp; omega
   rw [e2]
   simp only [Nat.beq_refl, Bool.and_self, cond_true, List.take_zero, List.nil_append, Nat.zero_add]
   congr 1
   rw [hc, ← hrest, List.drop_drop, ← List.map_drop, hs]
   simp
  rw [e]; exact h
 ·have hlen : (List.replicate n z0).length = n := by simp
  have h2 : vbx (List.replicate n z0) (rest.map .p) (shiftP (List.replicate n z0).length ps) k := by rw [hlen]; exact h
  have h3 := vbx_fill h2
  have e1 : List.replicate n z0 = z.take n := by
   symm
   rw [List.eq_replicate_iff]
   exact ⟨by simp; omega, fun x hx => (eqPV_eq (List.all_eq_true.1 hall x hx)).symm⟩
  rw [e1, ← hrest, ← List.map_append, List.take_append_drop] at h3
  exact h3
theorem sameK_mk {k : IntKind} {A : Prop} (h : A) : sameK k k A := by cases k <;> exact h
def valOf : PV → Value
 | .int k n => .int k n
 | .b x => .bool x
 | .str l => .string ⟨⟨l⟩⟩
 | _ => undef
def plainC : PV → Bool
 | .int _ _ => true
 | .b _ => true
 | .str _ => true
 | _ => false
theorem plain_val {M : Nat → Prop} {x : PV} {v : Value} (h : RP w M x v) (hp : plainC x = true) : v = valOf x := by
 cases h <;> first | rfl | (simp [plainC] at hp)
theorem plainCells_C {ks : List CK} {xs ys : List PV} (h : plainCells ks xs ys) : xs.length = ks.length ∧ ys.length = ks.length ∧ (∀ x ∈ xs, plainC x = true) ∧ ∀ y ∈ ys, plainC y = true := by
 induction ks generalizing xs ys with
 | nil => cases xs <;> cases ys <;> simp_all [plainCells]
 | cons k ks ih =>
   cases k <;> cases xs with
   | nil => simp [plainCells] at h
   | cons x r => cases ys with
     | nil => cases x <;> simp [plainCells] at h
     | cons y s =>
       cases x <;> cases y <;> simp only [plainCells] at h
       all_goals first
        | exact h.elim
        | (obtain ⟨_, h⟩ := sameK_of h; obtain ⟨_, h⟩ := sameK_of h; obtain ⟨h1, h2, h3, h4⟩ := ih h; simp [h1, h2, plainC]; exact ⟨h3, h4⟩)
        | (obtain ⟨h1, h2, h3, h4⟩ := ih h; simp [h1, h2, plainC]; exact ⟨h3, h4⟩)
theorem plainCells_append {ks ls : List CK} {xs ys : List PV} (h : plainCells (ks ++ ls) xs ys) :
 plainCells ks (xs.take ks.length) (ys.take ks.length) ∧ plainCells ls (xs.drop ks.length) (ys.drop ks.length) := by
 induction ks generalizing xs ys with
 | nil => simpa [plainCells] using h
 | cons k ks ih =>
   cases k <;> cases xs with
   | nil => simp [plainCells] at h
   | cons x r => cases ys with
     | nil => cases x <;> simp [plainCells] at h
     | cons y s =>
       cases x <;> cases y <;> simp only [List.cons_append, plainCells] at h
       all_goals first
        | exact h.elim
        | (obtain ⟨e1, h⟩ := sameK_of h; obtain ⟨e2, h⟩ := sameK_of h; obtain ⟨h1, h2⟩ := ih h
           simp only [List.length_cons, List.take_succ_cons, List.drop_succ_cons, plainCells]
           exact ⟨by subst e1; subst e2; exact sameK_mk (sameK_mk h1), h2⟩)
        | (obtain ⟨h1, h2⟩ := ih h; exact ⟨h1, h2⟩)
theorem cellsEq_append {xs ys xs' ys' : List PV} (h : xs.length = ys.length) : cellsEq (xs ++ xs') (ys ++ ys') = (cellsEq xs ys && cellsEq xs' ys') := by
 induction xs generalizing ys with
 | nil => cases ys with
   | nil => simp [cellsEq]
   | cons y s => simp at h
 | cons x r ih => cases ys with
   | nil => simp at h
   | cons y s => simp [cellsEq, ih (by simpa using h), Bool.and_assoc]
theorem cellsEq_take_drop (n : Nat) {xs ys : List PV} (h : xs.length = ys.length) : cellsEq xs ys = (cellsEq (xs.take n) (ys.take n) && cellsEq (xs.drop n) (ys.drop n)) := by
 conv => lhs; rw [← List.take_append_drop n xs, ← List.take_append_drop n ys]
 exact cellsEq_append (by simp [h])
def valT (P : Program) (t : TypeId) (xs : List PV) : Value :=
 match aggT P t with
 | some true => .agg (xs.map valOf).toArray
 | _ => valOf (xs.headD (.b false))
theorem run_part_val {t : TypeId} {n : Nat} {g : Bool} (hs : szT P t = some n) (hg : aggT P t = some g) (h1 : g = false → n = 1) (xs : List PV) (off : Nat) (ho : off + n ≤ xs.length) (w : World) :
 (part t (xs.map valOf).toArray off).run P w = .ok (valT P t ((xs.drop off).take n)) w := by
 cases g with
 | true =>
   simp only [part, Sem.run_bind, run_isAgg hg, Result.andThen_ok, if_true, run_sizeOf hs, Sem.run_pure, valT, hg]
   congr 2
   apply Array.ext'
   simp [List.extract_eq_take_drop, List.map_take, List.map_drop]
 | false =>
   have := h1 rfl
   subst this
   have hlt : off < xs.length := by omega
   have hd : (xs.drop off).take 1 = [xs[off]] := by
    rw [List.drop_eq_getElem_cons hlt]; rfl
   simp [part, run_isAgg hg, hlt, valT, hg, hd]
theorem plainK_sz {d : Nat} {t : TypeId} {ks : List CK} (h : plainK P d t = some ks) : szT P t = some ks.length ∧ ∃ g, aggT P t = some g ∧ (g = false → ks.length = 1) := by
 cases d with
 | zero => simp [plainK] at h
 | succ d =>
   simp only [plainK] at h
   split at h
   ·split at h
    ·cases h; rename_i hu hs; exact ⟨hs, false, by simp [aggT, hu], fun _ => rfl⟩
    ·cases h
   ·split at h
    ·cases h; rename_i hu hs; exact ⟨hs, false, by simp [aggT, hu], fun _ => rfl⟩
    ·cases h
   ·split at h
    ·cases h; rename_i hu hs; exact ⟨hs, false, by simp [aggT, hu], fun _ => rfl⟩
    ·cases h
   ·split at h
    ·split at h
     ·cases h; rename_i hu _ _ _ hs; exact ⟨by rw [hs.2.2]; simp, true, by simp [aggT, hu], by simp⟩
     ·cases h
    ·cases h
   ·split at h
    ·cases h
    ·split at h
     ·split at h
      ·cases h; rename_i hu _ _ _ hs; exact ⟨hs, true, by simp [aggT, hu], by simp⟩
      ·cases h
     ·cases h
   ·cases h
def EqOk (P : Program) (D : Nat) (t : TypeId) (ks : List CK) : Prop :=
 ∀ (xs ys : List PV), plainCells ks xs ys → ∀ w : World, (Op.equalIn D t (valT P t xs) (valT P t ys)).run P w = .ok (cellsEq xs ys) w
theorem eqFields_plain {D : Nat} {sz : TypeId → Option (List CK)} (hk : ∀ t ks, sz t = some ks → EqOk P D t ks ∧ szT P t = some ks.length ∧ ∃ g, aggT P t = some g ∧ (g = false → ks.length = 1))
 (xs ys : List PV) : ∀ (fs : List Field) (off : Nat) (ks : List CK), plainF sz off fs = some ks → plainCells ks (xs.drop off) (ys.drop off) → ∀ w : World,
 (Op.eqFields D (xs.map valOf).toArray (ys.map valOf).toArray fs).run P w = .ok (cellsEq (xs.drop off) (ys.drop off)) w
 | [], off, ks, h, hp, w => by
   simp [plainF] at h; subst h
   obtain ⟨h1, h2, _⟩ := plainCells_C hp
   have e1 : xs.drop off = [] := List.eq_nil_of_length_eq_zero (by simpa using h1)
   have e2 : ys.drop off = [] := List.eq_nil_of_length_eq_zero (by simpa using h2)
   rw [e1, e2]
   simp [Op.eqFields, cellsEq]
 | f :: r, off, ks, h, hp, w => by
   simp only [plainF] at h
   split at h
   ·cases h
   ·rename_i hf
    split at h
    ·rename_i k1 hk1
     split at h
     ·cases h
     rename_i hz0
     split at h
     ·rename_i ls hls
      cases h
      obtain ⟨h1, h2, g, hg, hg1⟩ := hk _ _ hk1
      obtain ⟨l1, l2, _⟩ := plainCells_C hp
      obtain ⟨p1, p2⟩ := plainCells_append hp
      simp only [List.length_append, List.length_drop] at l1 l2
      have hoff : f.offset = off := by
       by_cases h0 : f.offset = off
       ·exact h0
       ·exact absurd (.inr h0) hf
      have hname : f.name ≠ "_" := fun h0 => hf (.inl h0)
      have ih := eqFields_plain hk xs ys r (off + k1.length) ls hls (by rw [← List.drop_drop, ← List.drop_drop]; exact p2) w
      rw [← List.drop_drop, ← List.drop_drop] at ih
      have ha : k1.length ≤ xs.length - off ∧ k1.length ≤ ys.length - off := by omega
      have hb : off + k1.length ≤ xs.length ∧ off + k1.length ≤ ys.length := by omega
      simp only [Op.eqFields, if_pos hname, Sem.run_bind, hoff, run_part_val h2 hg hg1 xs off hb.1, run_part_val h2 hg hg1 ys off hb.2, Result.andThen_ok, h1 _ _ p1]
      rw [cellsEq_take_drop k1.length (by simp; omega : (xs.drop off).length = (ys.drop off).length)]
      cases hc : cellsEq ((xs.drop off).take k1.length) ((ys.drop off).take k1.length) with
      | false => simp
      | true => simpa using ih
     ·cases h
    ·cases h
theorem eqArr_plain {D : Nat} {e : TypeId} {k1 : List CK} (h1 : EqOk P D e k1) (h2 : szT P e = some k1.length) {g : Bool} (hg : aggT P e = some g) (hg1 : g = false → k1.length = 1) (hz : k1.length ≠ 0)
 (xs ys : List PV) : ∀ (m s : Nat), plainCells (List.replicate m k1).flatten (xs.drop (s * k1.length)) (ys.drop (s * k1.length)) → ∀ w : World,
 (forIn (List.range' s m) ((none, ()) : Option Bool × PUnit) fun i r => do
  let a ← part e (xs.map valOf).toArray (i * k1.length)
  let b ← part e (ys.map valOf).toArray (i * k1.length)
  let r ← Op.equalIn D e a b
  if (!r) = true then pure (ForInStep.done ((some false, ()) : Option Bool × PUnit)) else
   pure (ForInStep.yield (none, ()))).run P w = .ok (if cellsEq (xs.drop (s * k1.length)) (ys.drop (s * k1.length)) then (none, ()) else (some false, ())) w
 | 0, s, hp, w => by
   obtain ⟨l1, l2, _⟩ := plainCells_C hp
   have e1 : xs.drop (s * k1.length) = [] := List.eq_nil_of_length_eq_zero (by simpa using l1)
   have e2 : ys.drop (s * k1.length) = [] := List.eq_nil_of_length_eq_zero (by simpa using l2)
   rw [e1, e2]
   simp [cellsEq]
 | m + 1, s, hp, w => by
   rw [List.replicate_succ, List.flatten_cons] at hp
   obtain ⟨l1, l2, _⟩ := plainCells_C hp
   obtain ⟨p1, p2⟩ := plainCells_append hp
   simp only [List.length_append, List.length_drop] at l1 l2
   have hs : (s + 1) * k1.length = s * k1.length + k1.length := by rw [Nat.add_mul, Nat.one_mul]
   have ih := eqArr_plain h1 h2 hg hg1 hz xs ys m (s + 1) (by rw [hs, ← List.drop_drop, ← List.drop_drop]; exact p2) w
   rw [hs, ← List.drop_drop, ← List.drop_drop] at ih
   simp only [List.range'_succ, List.forIn_cons, Sem.run_bind]
   simp only [run_part_val h2 hg hg1 xs (s * k1.length) (by omega), run_part_val h2 hg hg1 ys (s * k1.length) (by omega), Result.andThen_ok, h1 _ _ p1]
   rw [cellsEq_take_drop k1.length (by simp; omega : (xs.drop (s * k1.length)).length = (ys.drop (s * k1.length)).length)]
   cases hc : cellsEq ((xs.drop (s * k1.length)).take k1.length) ((ys.drop (s * k1.length)).take k1.length) with
   | false => simp
   | true => simpa using ih
theorem equalIn_plain (d : Nat) : ∀ (t : TypeId) (ks : List CK), plainK P d t = some ks → ∀ (D : Nat), d ≤ D → EqOk P D t ks := by
 induction d with
 | zero => intro t ks h; simp [plainK] at h
 | succ d ih =>
   intro t ks h D hD xs ys hp w
   obtain ⟨D, rfl⟩ : ∃ m, D = m + 1 := ⟨D - 1, by omega⟩
   obtain ⟨hs, g, hg, hg1⟩ := plainK_sz h
   obtain ⟨hl1, hl2, hpx, hpy⟩ := plainCells_C hp
   simp only [plainK] at h
   split at h
   case h_1 hu =>
    split at h
    ·cases h
     have hf : aggT P t = some false := by simp [aggT, hu]
     obtain ⟨x, rfl⟩ := List.length_eq_one_iff.1 hl1
     obtain ⟨y, rfl⟩ := List.length_eq_one_iff.1 hl2
     cases x <;> cases y <;> simp only [plainCells] at hp
     simp [valT, hf, valOf, Op.equalIn, run_underlying hu, cellsEq, cellEq]
    ·cases h
   case h_2 k hu =>
    split at h
    ·cases h
     have hf : aggT P t = some false := by simp [aggT, hu]
     obtain ⟨x, rfl⟩ := List.length_eq_one_iff.1 hl1
     obtain ⟨y, rfl⟩ := List.length_eq_one_iff.1 hl2
     cases x <;> cases y <;> simp only [plainCells] at hp
     obtain ⟨e1, hp⟩ := sameK_of hp
     obtain ⟨e2, hp⟩ := sameK_of hp
     subst e1; subst e2
     simp [valT, hf, valOf, Op.equalIn, run_underlying hu, cellsEq, cellEq]
    ·cases h
   case h_3 hu =>
    split at h
    ·cases h
     have hf : aggT P t = some false := by simp [aggT, hu]
     obtain ⟨x, rfl⟩ := List.length_eq_one_iff.1 hl1
     obtain ⟨y, rfl⟩ := List.length_eq_one_iff.1 hl2
     cases x <;> cases y <;> simp only [plainCells] at hp
     simp [valT, hf, valOf, Op.equalIn, run_underlying hu, cellsEq, cellEq, beq_toListBytes]
    ·cases h
   case h_4 len e hu =>
    split at h
    ·rename_i k1 hk1
     split at h
     ·rename_i hsz
      cases h
      have ht : aggT P t = some true := by simp [aggT, hu]
      have ihe := ih e k1 hk1 D (by omega)
      obtain ⟨se, ge, hge, hge1⟩ := plainK_sz hk1
      have := eqArr_plain ihe se hge hge1 hsz.1 xs ys len 0 (by simpa using hp) w
      simp only [Nat.zero_mul, List.drop_zero] at this
      simp only [valT, ht]
      simp only [Op.equalIn, Sem.run_bind, run_underlying hu, Result.andThen_ok, run_sizeOf se]
      rw [Std.Legacy.Range.forIn_eq_forIn_range']
      have hsize : ([:len] : Std.Legacy.Range).size = len := by simp [Std.Legacy.Range.size]
      rw [hsize]
      show ((Sem.run P (forIn (List.range' 0 len 1) _ _) w).andThen _) = _
      rw [this]
      cases cellsEq xs ys <;> simp
     ·cases h
    ·cases h
   case h_5 fs hu =>
    split at h
    ·cases h
    ·rename_i hst
     split at h
     ·rename_i k1 hk1
      split at h
      ·cases h
       have ht : aggT P t = some true := by simp [aggT, hu]
       have hfs : P.fieldsOf t = fs := by simp [Program.fieldsOf, hu]
       simp only [valT, ht]
       rw [run_equalIn_struct w D t _ _ (by rw [hfs]; exact hu) (by simpa using hst), hfs]
       have := eqFields_plain (P := P) (D := D) (sz := plainK P d) (fun t ks h => ⟨ih t ks h D (by omega), plainK_sz h⟩) xs ys fs.toList 0 ks hk1 (by simpa using hp) w
       simpa using this
      ·cases h
     ·cases h
   case h_6 => cases h
end
end Hk
namespace Hk
open Go
set_option linter.unusedVariables false
set_option linter.unusedSimpArgs false
def keyCells (ag : Bool) (x : PV) : List PV :=
 match ag, x with
 | true, .agg l => l
 | true, _ => []
 | false, x => [x]
theorem ikEq_eq {a b : IntKind} (h : ikEq a b = true) : a = b := by cases a <;> cases b <;> first | rfl | cases h
theorem ckEq_eq {a c : CK} (h : ckEq a c = true) : a = c := by
 cases a <;> cases c <;> first | rfl | (simp [ckEq] at h) | skip
 rw [ikEq_eq h]
theorem cksEq_eq : ∀ {a b : List CK}, cksEq a b = true → a = b
 | [], [], _ => rfl
 | [], _ :: _, h => by cases h
 | _ :: _, [], h => by cases h
 | a :: r, c :: s, h => by
   simp only [cksEq, Bool.and_eq_true] at h
   rw [ckEq_eq h.1, cksEq_eq h.2]
theorem boolEq_eq {a b : Bool} (h : boolEq a b = true) : a = b := by cases a <;> cases b <;> first | rfl | cases h
theorem cellK_plain {k : CK} {x : PV} (h : cellK k x) : plainC x = true := by
 cases k <;> cases x <;> first | rfl | exact h.elim
theorem cellsK_plain : ∀ {ks : List CK} {xs : List PV}, cellsK ks xs → xs.length = ks.length ∧ ∀ x ∈ xs, plainC x = true
 | [], [], _ => by simp
 | [], _ :: _, h => h.elim
 | _ :: _, [], h => h.elim
 | k :: ks, x :: r, h => by
   obtain ⟨h1, h2⟩ := cellsK_plain h.2
   refine ⟨by simp [h1], fun y hy => ?_⟩
   rcases List.mem_cons.1 hy with rfl | hy
   ·exact cellK_plain h.1
   ·exact h2 y hy
theorem sameK_self {a : IntKind} {A : Prop} (h : A) : sameK a a A := by cases a <;> exact h
theorem cellsK_both : ∀ {ks : List CK} {xs ys : List PV}, cellsK ks xs → cellsK ks ys → plainCells ks xs ys
 | [], [], [], _, _ => trivial
 | [], _ :: _, _, h, _ => h.elim
 | [], [], _ :: _, _, h => h.elim
 | _ :: _, [], _, h, _ => h.elim
 | _ :: _, _ :: _, [], _, h => h.elim
 | k :: ks, x :: r, y :: s, h, g => by
   have ih := cellsK_both h.2 g.2
   have h1 := h.1
   have g1 := g.1
   cases k <;> cases x <;> first | exact h1.elim | skip
   all_goals cases y <;> first | exact g1.elim | skip
   ·obtain ⟨rfl, _⟩ := sameK_of h1
    obtain ⟨rfl, _⟩ := sameK_of g1
    exact sameK_self (sameK_self ih)
   ·exact ih
   ·exact ih
theorem keyOk_cells {ag : Bool} {ks : List CK} {x : PV} (h : keyOk ag ks x) : cellsK ks (keyCells ag x) := by
 cases ag
 ·exact h
 ·cases x <;> first | exact h | exact h.elim
theorem keyEq_cells {ag : Bool} {ks : List CK} {x y : PV} (hx : keyOk ag ks x) (hy : keyOk ag ks y) : keyEq x y = cellsEq (keyCells ag x) (keyCells ag y) := by
 cases ag
 ·have h1 := cellsK_plain hx
  have : plainC x = true := h1.2 x (by simp)
  cases x <;> first | (simp [plainC] at this; done) | simp [keyEq, cellsEq, keyCells]
 ·cases x <;> cases y <;> first | exact hx.elim | exact hy.elim | rfl
theorem run_getMap {P : Program} {w : World} {r : Nat} {es : Array MapEntry} {clock : Nat} (hb : w.heap[r]? = some (.map es clock)) : (getObj r).run P w = .ok (.map es clock) w := by
 simp [getObj, Sem.run, hb]
theorem run_setMap {P : Program} {w : World} {r : Nat} {es : Array MapEntry} {clock : Nat} (o : Obj) (hb : w.heap[r]? = some (.map es clock)) : (setObj r o).run P w = .ok () { w with heap := w.heap.setIfInBounds r o } := by
 simp [setObj, Sem.run, hb]
theorem RA_pp {w : World} {ι : Inj} {x : PV} {v : Value} (h : RA w ι (.p x) v) : RP w ι.M x v := by
 cases h; assumption
section
variable {P : Program} {w : World} {M : Nat → Prop}
theorem keyK_spec {t : TypeId} {ag : Bool} {ks : List CK} (h : keyK P t = some (ag, ks)) : plainK P 20 t = some ks ∧ aggT P t = some ag ∧ (ag = false → ks.length = 1) := by
 unfold keyK at h
 split at h
 ·rename_i h1 h2
  cases h
  obtain ⟨_, g, hg, h3⟩ := plainK_sz h1
  rw [h2] at hg; cases hg
  exact ⟨h1, h2, h3⟩
 ·cases h
theorem agg_plain {M : Nat → Prop} {cells : List PV} {v : Value} (h : RP w M (.agg cells) v) (hp : ∀ x ∈ cells, plainC x = true) : v = .agg (cells.map valOf).toArray := by
 obtain ⟨cs, rfl, hl, hone, hr⟩ := RP_agg h
 congr 1
 apply Array.ext'
 apply List.ext_getElem?
 intro i
 by_cases hi : i < cells.length
 ·have h1 := plain_val (hr i cells[i] (List.getElem?_eq_getElem hi)) (hp _ (List.getElem_mem hi))
  have hi' : i < cs.size := by omega
  simp [hi, hi'] at h1 ⊢
  exact h1
 ·simp [hi, List.getElem?_eq_none, hl]
theorem key_val {t : TypeId} {ag : Bool} {ks : List CK} (hk : keyK P t = some (ag, ks)) {x : PV} {v : Value} (h : keyOk ag ks x) (hr : RP w M x v) : v = valT P t (keyCells ag x) := by
 obtain ⟨h1, h2, h3⟩ := keyK_spec hk
 obtain ⟨_, hp⟩ := cellsK_plain (keyOk_cells h)
 unfold valT
 rw [h2]
 cases ag
 ·have := hp x (by simp [keyCells])
  simpa [keyCells] using plain_val hr this
 ·cases x <;> first | exact h.elim | skip
  exact agg_plain hr hp
theorem cellsK_append : ∀ {ks ls : List CK} {xs : List PV}, cellsK (ks ++ ls) xs → cellsK ks (xs.take ks.length) ∧ cellsK ls (xs.drop ks.length)
 | [], ls, xs, h => ⟨by simp [cellsK], by simpa using h⟩
 | k :: ks, ls, [], h => h.elim
 | k :: ks, ls, x :: r, h => by
   obtain ⟨h1, h2⟩ := cellsK_append h.2
   exact ⟨⟨h.1, h1⟩, h2⟩
def CkOk (P : Program) (D : Nat) (t : TypeId) (ks : List CK) : Prop :=
 ∀ (e : Bool) (xs : List PV), cellsK ks xs → ∀ w : World, (Instr.checkKey e D t (valT P t xs)).run P w = .ok () w
theorem ckArr {D : Nat} {e : TypeId} {k1 : List CK} (h1 : CkOk P D e k1) (h2 : szT P e = some k1.length) {g : Bool} (hg : aggT P e = some g) (hg1 : g = false → k1.length = 1) (em : Bool)
 (xs : List PV) : ∀ (m s : Nat), cellsK (List.replicate m k1).flatten (xs.drop (s * k1.length)) → ∀ w : World,
 (forIn (List.range' s m) PUnit.unit fun i _ => do
  let n ← Go.sizeOf e
  let a ← part e (xs.map valOf).toArray (i * n)
  Instr.checkKey em D e a
  pure (ForInStep.yield PUnit.unit)).run P w = .ok PUnit.unit w
 | 0, s, hp, w => by simp
 | m + 1, s, hp, w => by
   rw [List.replicate_succ, List.flatten_cons] at hp
   obtain ⟨p1, p2⟩ := cellsK_append hp
   obtain ⟨l1, _⟩ := cellsK_plain hp
   simp only [List.length_append, List.length_drop] at l1
   have hs : (s + 1) * k1.length = s * k1.length + k1.length := by rw [Nat.add_mul, Nat.one_mul]
   have ih := ckArr h1 h2 hg hg1 em xs m (s + 1) (by rw [hs, ← List.drop_drop]; exact p2) w
   simp only [List.range'_succ, List.forIn_cons, Sem.run_bind, run_sizeOf h2, Result.andThen_ok]
   have hle : k1.length ≤ xs.length - s * k1.length := by omega
   by_cases hz : k1.length = 0
   ·have e0 : k1 = [] := List.eq_nil_of_length_eq_zero hz
    have hle2 : s * k1.length + k1.length ≤ xs.length := by simp [e0]
    simp only [run_part_val h2 hg hg1 xs (s * k1.length) hle2, Result.andThen_ok, h1 em _ p1, Sem.run_pure]
    exact ih
   ·have hle2 : s * k1.length + k1.length ≤ xs.length := by omega
    simp only [run_part_val h2 hg hg1 xs (s * k1.length) hle2, Result.andThen_ok, h1 em _ p1, Sem.run_pure]
    exact ih
theorem ckFields {D : Nat} {sz : TypeId → Option (List CK)} (hk : ∀ t ks, sz t = some ks → CkOk P D t ks ∧ szT P t = some ks.length ∧ ∃ g, aggT P t = some g ∧ (g = false → ks.length = 1)) (em : Bool)
 (xs : List PV) : ∀ (fs : List Field) (off : Nat) (ks : List CK), plainF sz off fs = some ks → cellsK ks (xs.drop off) → ∀ w : World,
 (forIn fs PUnit.unit fun (f : Field) _ => (do
  if f.name ≠ "_" then do
   let a ← part f.type (xs.map valOf).toArray f.offset
   Instr.checkKey em D f.type a
   pure (ForInStep.yield PUnit.unit)
  else pure (ForInStep.yield PUnit.unit) : Sem (ForInStep PUnit))).run P w = .ok PUnit.unit w
 | [], off, ks, h, hp, w => by simp
 | f :: r, off, ks, h, hp, w => by
   simp only [plainF] at h
   split at h
   ·cases h
   ·rename_i hf
    split at h
    ·rename_i k1 hk1
     split at h
     ·cases h
     rename_i hz0
     split at h
     ·rename_i ls hls
      cases h
      obtain ⟨h1, h2, g, hg, hg1⟩ := hk _ _ hk1
      obtain ⟨l1, _⟩ := cellsK_plain hp
      obtain ⟨p1, p2⟩ := cellsK_append hp
      simp only [List.length_append, List.length_drop] at l1
      have hoff : f.offset = off := by
       by_cases h0 : f.offset = off
       ·exact h0
       ·exact absurd (.inr h0) hf
      have hname : f.name ≠ "_" := fun h0 => hf (.inl h0)
      have ih := ckFields hk em xs r (off + k1.length) ls hls (by rw [← List.drop_drop]; exact p2) w
      have hb : off + k1.length ≤ xs.length := by omega
      simp only [List.forIn_cons, Sem.run_bind, if_pos hname, hoff, run_part_val h2 hg hg1 xs off hb, Result.andThen_ok, h1 em _ p1, Sem.run_pure]
      exact ih
     ·cases h
    ·cases h
theorem checkKey_plain (d : Nat) : ∀ (t : TypeId) (ks : List CK), plainK P d t = some ks → ∀ (D : Nat), d ≤ D → CkOk P D t ks := by
 induction d with
 | zero => intro t ks h; simp [plainK] at h
 | succ d ih =>
   intro t ks h D hD em xs hp w
   obtain ⟨D, rfl⟩ : ∃ m, D = m + 1 := ⟨D - 1, by omega⟩
   obtain ⟨hs, g, hg, hg1⟩ := plainK_sz h
   obtain ⟨hl1, hpx⟩ := cellsK_plain hp
   simp only [plainK] at h
   split at h
   case h_1 hu => simp [Instr.checkKey, run_underlying hu]
   case h_2 k hu => simp [Instr.checkKey, run_underlying hu]
   case h_3 hu => simp [Instr.checkKey, run_underlying hu]
   case h_4 len e hu =>
    split at h
    ·rename_i k1 hk1
     split at h
     ·rename_i hsz
      cases h
      have ht : aggT P t = some true := by simp [aggT, hu]
      obtain ⟨se, ge, hge, hge1⟩ := plainK_sz hk1
      have := ckArr (ih e k1 hk1 D (by omega)) se hge hge1 em xs len 0 (by simpa using hp) w
      simp only [valT, ht]
      simp only [Instr.checkKey, Sem.run_bind, run_underlying hu, Result.andThen_ok]
      rw [Std.Legacy.Range.forIn_eq_forIn_range']
      have hsize : ([:len] : Std.Legacy.Range).size = len := by simp [Std.Legacy.Range.size]
      rw [hsize]
      show ((Sem.run P (forIn (List.range' 0 len 1) _ _) w).andThen _) = _
      rw [this]
      rfl
     ·cases h
    ·cases h
   case h_5 fs hu =>
    split at h
    ·cases h
    ·rename_i hst
     split at h
     ·rename_i k1 hk1
      split at h
      ·cases h
       have ht : aggT P t = some true := by simp [aggT, hu]
       simp only [valT, ht]
       simp only [Instr.checkKey, Sem.run_bind, run_underlying hu, Result.andThen_ok]
       rw [← Array.forIn_toList]
       have := ckFields (P := P) (D := D) (sz := plainK P d) (fun t ks h => ⟨ih t ks h D (by omega), plainK_sz h⟩) em xs fs.toList 0 ks hk1 (by simpa using hp) w
       rw [this]
       rfl
      ·cases h
     ·cases h
   case h_6 => cases h
def EntsAt (P : Program) (t : TypeId) (ag : Bool) (ks : List CK) (ents : List (PV × PV)) (esl : List MapEntry) : Prop :=
 esl.length = ents.length ∧ ∀ (i : Nat) k v, ents[i]? = some (k, v) → keyOk ag ks k ∧ ∃ e, esl[i]? = some e ∧ e.key = valT P t (keyCells ag k)
theorem EntsAt.tail {t : TypeId} {ag : Bool} {ks : List CK} {x : PV × PV} {r : List (PV × PV)} {e : MapEntry} {s : List MapEntry} (h : EntsAt P t ag ks (x :: r) (e :: s)) : EntsAt P t ag ks r s :=
 ⟨by simpa using h.1, fun i k v hi => by simpa using h.2 (i + 1) k v (by simpa using hi)⟩
def Found (ents : List (PV × PV)) (esl : List MapEntry) (i0 : Nat) : Option (Nat × PV) → Option (Nat × Value) → Prop
 | none, r => r = none
 | some (i, v), r => ∃ j e kk, i = i0 + j ∧ esl[j]? = some e ∧ ents[j]? = some (kk, v) ∧ r = some (i, e.val)
theorem Found.tail {x : PV × PV} {r : List (PV × PV)} {e : MapEntry} {s : List MapEntry} {i0 : Nat} {o : Option (Nat × PV)} {q : Option (Nat × Value)} (h : Found r s (i0 + 1) o q) : Found (x :: r) (e :: s) i0 o q := by
 cases o with
 | none => exact h
 | some iv =>
   obtain ⟨i, v⟩ := iv
   obtain ⟨j, e', kk, h1, h2, h3, h4⟩ := h
   exact ⟨j + 1, e', kk, by omega, by simpa using h2, by simpa using h3, h4⟩
theorem findAsking_run {t : TypeId} {ag : Bool} {ks : List CK} (hk : keyK P t = some (ag, ks)) {x : PV} (hx : keyOk ag ks x) : ∀ (ents : List (PV × PV)) (esl : List MapEntry) (i0 : Nat), EntsAt P t ag ks ents esl →
 ∃ q, Found ents esl i0 (mfind ents x i0) q ∧ ∀ w : World, (Instr.findAsking t (valT P t (keyCells ag x)) esl i0).run P w = .ok q w
 | [], esl, i0, h => by
   have : esl = [] := List.eq_nil_of_length_eq_zero h.1
   subst this
   exact ⟨none, rfl, fun w => by simp [Instr.findAsking]⟩
 | (k, v) :: r, [], i0, h => by cases h.1
 | (k, v) :: r, e :: s, i0, h => by
   obtain ⟨q, hq, hrun⟩ := findAsking_run hk hx r s (i0 + 1) h.tail
   obtain ⟨hk0, e', he', hkey⟩ := h.2 0 k v rfl
   simp at he'; subst he'
   obtain ⟨h1, h2, h3⟩ := keyK_spec hk
   have heq := equalIn_plain 20 t ks h1 10000 (by omega) _ _ (cellsK_both (keyOk_cells hx) (keyOk_cells hk0))
   rw [← keyEq_cells hx hk0] at heq
   have heq' : ∀ w : World, (Op.equal t (valT P t (keyCells ag x)) e.key).run P w = .ok (keyEq x k) w := fun w => by rw [hkey]; exact heq w
   cases hc : keyEq x k with
   | true =>
     refine ⟨some (i0, e.val), ?_, fun w => by simp [Instr.findAsking, heq', hc]⟩
     simp only [mfind, hc, cond_true]
     exact ⟨0, e, k, rfl, rfl, rfl, rfl⟩
   | false =>
     refine ⟨q, ?_, fun w => by simp [Instr.findAsking, heq', hc, hrun]⟩
     simp only [mfind, hc, cond_false]
     exact hq.tail
theorem sameNow_plain {t : TypeId} {ag : Bool} {ks : List CK} (hk : keyK P t = some (ag, ks)) {d : TypeDesc} (hu : P.underlying t = some d) {x y : PV} (hx : keyOk ag ks x) (hy : keyOk ag ks y) :
 Instr.sameNow d (valT P t (keyCells ag x)) (valT P t (keyCells ag y)) = none ∨ Instr.sameNow d (valT P t (keyCells ag x)) (valT P t (keyCells ag y)) = some (keyEq x y) := by
 obtain ⟨h1, h2, h3⟩ := keyK_spec hk
 cases ag with
 | true =>
   left
   unfold valT
   rw [h2]
   simp only [keyCells]
   cases x <;> first | exact hx.elim | skip
   cases d <;> rfl
 | false =>
   unfold valT
   rw [h2]
   simp only [keyCells, List.headD_cons]
   obtain ⟨_, px⟩ := cellsK_plain hx
   obtain ⟨_, py⟩ := cellsK_plain hy
   have px := px x (by simp)
   have py := py y (by simp)
   have hpc := cellsK_both hx hy
   cases x <;> first | (simp [plainC] at px; done) | skip
   all_goals cases y <;> first | (simp [plainC] at py; done) | skip
   all_goals cases d <;> first | (left; rfl) | skip
   ·have hkk : ∀ {k1 k2 : IntKind} {n1 n2 : Int}, keyOk false ks (.int k1 n1) → keyOk false ks (.int k2 n2) → k1 = k2 := by
     intro k1 k2 n1 n2 hx hy
     cases ks with
     | nil => exact hx.elim
     | cons c r =>
       cases c <;> first | exact hx.1.elim | skip
       obtain ⟨e1, _⟩ := sameK_of hx.1
       obtain ⟨e2, _⟩ := sameK_of hy.1
       rw [← e1, ← e2]
    have := hkk hx hy
    subst this
    right
    simp [Instr.sameNow, valOf, keyEq, cellEq]
   ·right; rfl
   ·right
    simp only [Instr.sameNow, valOf, keyEq, cellEq]
    congr 1
    rw [beq_toListBytes]
    simp
theorem findNow_run {t : TypeId} {ag : Bool} {ks : List CK} (hk : keyK P t = some (ag, ks)) {d : TypeDesc} (hu : P.underlying t = some d) {x : PV} (hx : keyOk ag ks x) : ∀ (ents : List (PV × PV)) (esl : List MapEntry) (i0 : Nat), EntsAt P t ag ks ents esl →
 Instr.findNow d (valT P t (keyCells ag x)) esl i0 = none ∨ ∃ q, Found ents esl i0 (mfind ents x i0) q ∧ Instr.findNow d (valT P t (keyCells ag x)) esl i0 = some q
 | [], esl, i0, h => by
   have : esl = [] := List.eq_nil_of_length_eq_zero h.1
   subst this
   exact .inr ⟨none, rfl, rfl⟩
 | (k, v) :: r, [], i0, h => by cases h.1
 | (k, v) :: r, e :: s, i0, h => by
   obtain ⟨hk0, e', he', hkey⟩ := h.2 0 k v rfl
   simp at he'; subst he'
   rcases sameNow_plain hk hu hx hk0 with hn | hn
   ·rw [← hkey] at hn
    left; simp only [Instr.findNow, hn]
   ·rw [← hkey] at hn
    cases hc : keyEq x k with
    | true =>
      right
      refine ⟨some (i0, e.val), ?_, by simp only [Instr.findNow, hn, hc]⟩
      simp only [mfind, hc, cond_true]
      exact ⟨0, e, k, rfl, rfl, rfl, rfl⟩
    | false =>
      rcases findNow_run hk hu hx r s (i0 + 1) h.tail with h1 | ⟨q, hq, h1⟩
      ·left; simp only [Instr.findNow, hn, hc, h1]
      ·right
       refine ⟨q, ?_, by simp only [Instr.findNow, hn, hc, h1]⟩
       simp only [mfind, hc, cond_false]
       exact hq.tail
theorem plainK_underlying {d : Nat} {t : TypeId} {ks : List CK} (h : plainK P d t = some ks) : ∃ k, P.underlying t = some k := by
 cases d with
 | zero => simp [plainK] at h
 | succ d =>
   simp only [plainK] at h
   split at h <;> first | exact ⟨_, by assumption⟩ | cases h
theorem findKey_run {t : TypeId} {ag : Bool} {ks : List CK} (hk : keyK P t = some (ag, ks)) {x : PV} (hx : keyOk ag ks x) {ents : List (PV × PV)} {esl : List MapEntry} (h : EntsAt P t ag ks ents esl) :
 ∃ q, Found ents esl 0 (mfind ents x 0) q ∧ ∀ w : World, (Instr.findKey t (valT P t (keyCells ag x)) esl).run P w = .ok q w := by
 obtain ⟨d, hu⟩ := plainK_underlying (keyK_spec hk).1
 rcases findNow_run hk hu hx ents esl 0 h with h1 | ⟨q, hq, h1⟩
 ·obtain ⟨q, hq, hrun⟩ := findAsking_run hk hx ents esl 0 h
  exact ⟨q, hq, fun w => by simp [Instr.findKey, run_underlying hu, h1, hrun]⟩
 ·exact ⟨q, hq, fun w => by simp [Instr.findKey, run_underlying hu, h1]⟩
theorem MapAt.ents {ι : Inj} {t : TypeId} {ag : Bool} {ks : List CK} (hk : keyK P t = some (ag, ks)) {ents : List (PV × PV)} {es : Array MapEntry} (h2 : es.size = ents.length)
 (h3 : ∀ (i : Nat) k v, ents[i]? = some (k, v) → keyOk ag ks k ∧ ∃ e, es[i]? = some e ∧ e.born = i ∧ RP w ι.M k e.key ∧ RP w ι.M v e.val) : EntsAt P t ag ks ents es.toList := by
 refine ⟨by simpa using h2, fun i k v hi => ?_⟩
 obtain ⟨g0, e, g1, g2, g3, g4⟩ := h3 i k v hi
 exact ⟨g0, e, by simpa using g1, key_val hk g0 g3⟩
theorem zeroV_sound {t : TypeId} {z : PV} (h : zeroV P t = some z) : ∃ v, RP w M z v ∧ ∀ w' : World, (zeroValue t).run P w' = .ok v w' := by
 unfold zeroV at h
 obtain ⟨v, h1, h2⟩ := Option.bind_eq_some_iff.1 h
 obtain ⟨i, hi, hz⟩ := Option.bind_eq_some_iff.1 h1
 exact ⟨v, pvOf_sound h2, fun w' => by simp [zeroValue, run_typeInfo hi, hz]⟩
theorem vmap_of {h : List Blk} {m : AV} {ag : Bool} {ks : List CK} {k : Nat → List (PV × PV) → Prop} (hv : vmap h m ag ks k) : ∃ b ents, m = .mpr b ∧ nth .dead h b = .mp ag ks ents ∧ k b ents := by
 unfold vmap at hv
 split at hv
 ·rename_i b
  split at hv
  ·rename_i ag' ks' ents hn
   cases hb : (boolEq ag ag' && cksEq ks ks') with
   | false => rw [hb] at hv; exact hv.elim
   | true =>
     rw [hb] at hv
     simp only [Bool.and_eq_true] at hb
     rw [← boolEq_eq hb.1, ← cksEq_eq hb.2] at hn
     exact ⟨b, ents, rfl, hn, hv⟩
  ·exact hv.elim
 ·exact hv.elim
theorem pureV_of {x : AV} {k : PV → Prop} (h : pureV x k) : ∃ y, x = .p y ∧ k y := by
 unfold pureV at h
 split at h
 ·exact ⟨_, rfl, h⟩
 ·exact h.elim
theorem map_of {ι : Inj} {h : List Blk} (hr : HRel ι h w) {b : Nat} {v : Value} {ag : Bool} {ks : List CK} {ents : List (PV × PV)} (hv : RA w ι (.mpr b) v) (hn : nth .dead h b = .mp ag ks ents) :
 ∃ c o s, v = .map (some c) ∧ ι b = some (c, o, s) ∧ MapAt w ι c ag ks ents := by
 cases hv
 rename_i c o s hb
 have := hr.blk b
 rw [hn, hb] at this
 obtain ⟨c', o', s', he, hm⟩ := this
 cases he
 exact ⟨c, o, s, rfl, hb, hm⟩
theorem vmlook_sound {ι : Inj} {h : List Blk} (hr : HRel ι h w) {m x : AV} {mv xv : Value} (hm : RA w ι m mv) (hx : RA w ι x xv) {t kt et : TypeId} (hu : P.underlying t = some (.map kt et)) {ag : Bool} {ks : List CK} (hk : keyK P kt = some (ag, ks))
 {z : PV} (hz : zeroV P et = some z) {ok : Bool} {k : AV → Prop} (hv : vmlook h ag ks z ok m x k) : Vals P w ι k (Instr.lookup t mv xv ok) := by
 obtain ⟨y, rfl, hkey, hv⟩ := pureV_of hv
 obtain ⟨b, ents, rfl, hn, o, ho, hkk⟩ := vmap_of hv
 obtain ⟨c, of, s, rfl, hb, es, h1, h2, h3⟩ := map_of hr hm hn
 have hxe := key_val hk hkey (RA_pp hx)
 obtain ⟨q, hq, hrun⟩ := findKey_run hk hkey (MapAt.ents hk h2 h3)
 obtain ⟨zv, hz1, hz2⟩ := zeroV_sound (w := w) (M := ι.M) hz
 have hck := checkKey_plain 20 kt ks (keyK_spec hk).1 10000 (by omega) es.isEmpty _ (keyOk_cells hkey)
 rw [ho] at hq
 have main : ∀ (rv : Value) (av : PV) (f : Bool), (mval z o = av ∧ mgot o = f) → RP w ι.M av rv →
  (∀ w' : World, Ext w w' → (Instr.lookup t (.map (some c)) xv ok).run P w' = .ok (if ok then .tuple #[rv, .bool f] else rv) w') → Vals P w ι k (Instr.lookup t (.map (some c)) xv ok) := by
  intro rv av f ⟨e1, e2⟩ hrp hr1
  have hra : RA w ι (mres z ok o) (if ok then .tuple #[rv, .bool f] else rv) := by
   cases ok with
   | true =>
     simp only [mres, e1, e2]
     refine .tup rfl fun i x hi => ?_
     cases i with
     | zero => simp at hi; subst hi; exact .p hrp
     | succ i => cases i with
       | zero => simp at hi; subst hi; exact .p (.b _)
       | succ i => simp at hi
   | false => simp only [mres, e1]; exact .p hrp
  exact .mk hkk hra hr1
 cases o with
 | none =>
   have hq : q = none := hq
   subst hq
   refine main zv z false ⟨rfl, rfl⟩ hz1 fun w' hext => ?_
   have h1' := run_getMap (P := P) (hext _ _ h1)
   simp only [Instr.lookup, Sem.run_bind, run_underlying hu, Result.andThen_ok, h1', Sem.run_pure, hxe, hck, hrun, hz2]
 | some iv =>
   obtain ⟨i, v⟩ := iv
   obtain ⟨j, e, kk, e1, e2, e3, rfl⟩ := hq
   obtain ⟨_, e', g1, _, _, g4⟩ := h3 j kk v e3
   have : e' = e := by have h5 : es[j]? = some e := by simpa using e2
                       rw [h5] at g1; cases g1; rfl
   subst this
   refine main e'.val v true ⟨rfl, rfl⟩ g4 fun w' hext => ?_
   have h1' := run_getMap (P := P) (hext _ _ h1)
   simp only [Instr.lookup, Sem.run_bind, run_underlying hu, Result.andThen_ok, h1', Sem.run_pure, hxe, hck, hrun]
theorem vmlen_sound {ι : Inj} {h : List Blk} (hr : HRel ι h w) {m : AV} {mv : Value} (hm : RA w ι m mv) {t ty kt et : TypeId} (hu : P.underlying t = some (.map kt et)) {k : AV → Prop} (hv : vmlen h m k) :
 Vals P w ι k (Builtin.len_ #[t] ty #[mv]) := by
 unfold vmlen at hv
 split at hv
 ·rename_i b
  split at hv
  ·rename_i ag ks ents hn
   obtain ⟨c, of, s, rfl, hb, es, h1, h2, h3⟩ := map_of hr hm hn
   refine .mk hv (.p (.int _ _)) fun w' hext => ?_
   have h1' := run_getMap (P := P) (hext _ _ h1)
   simp [Builtin.len_, run_underlying hu, h1', h2, goInt]
  ·exact hv.elim
 ·exact hv.elim
end
end Hk
namespace Hk
open Go
set_option linter.unusedVariables false
set_option linter.unusedSimpArgs false
section
variable {P : Program} {ι : Inj} {st : St} {a : Act} {w : World}
theorem cmpa_sound {x y : AV} {v u : Value} (hx : RA w ι x v) (hy : RA w ι y u) {op : BinOp} {neg : Bool} (hop : (op = .eql ∧ neg = false) ∨ (op = .neq ∧ neg = true)) {t : TypeId} {ks : List CK}
 (hk : plainK P 20 t = some ks) (hag : aggT P t = some true) (hg : P.eqGuardType P.depth t = false) {k : AV → Prop} {xo yo : Operand}
 (h : vcmpa neg ks x y k) :
 Vals P w ι k (do eqGuard op t xo yo v u; binOp op t v u) := by
 unfold vcmpa at h
 split at h
 ·rename_i as bs
  obtain ⟨hp, h⟩ := h
  obtain ⟨_, _, hpa, hpb⟩ := plainCells_C hp
  cases hx
  rename_i hx
  cases hy
  rename_i hy
  rw [agg_plain hx hpa, agg_plain hy hpb]
  have heq := equalIn_plain 20 t ks hk 10000 (by omega) as bs hp
  simp only [valT, hag] at heq
  refine .mk h (.p (.b _)) fun w' _ => ?_
  rw [Sem.run_bind, run_eqGuard_agg w' op t xo yo _ _ hg]
  rcases hop with ⟨rfl, rfl⟩ | ⟨rfl, rfl⟩
  ·simp only [Result.andThen_ok, run_eql_struct, heq, cond_false]
  ·simp only [Result.andThen_ok, run_neq_struct, heq, cond_true]
 ·exact h.elim
theorem cmpb_sound {x y : AV} {v u : Value} (hx : RA w ι x v) (hy : RA w ι y u) {op : BinOp} {neg : Bool} (hop : (op = .eql ∧ neg = false) ∨ (op = .neq ∧ neg = true)) {t : TypeId}
 (ht : P.underlying t = some .bool) {k : AV → Prop} {xo yo : Operand}
 (h : vcmpb neg x y k) :
 Vals P w ι k (do eqGuard op t xo yo v u; binOp op t v u) := by
 unfold vcmpb at h
 split at h
 ·rename_i x0 y0
  rw [RA_b hx, RA_b hy]
  have e : ∀ w', (Op.equal t (.bool x0) (.bool y0)).run P w' = .ok (x0 == y0) w' := fun w' => run_equalIn_bool' w' 9999 t x0 y0 ht
  refine .mk h (.p (.b _)) fun w' _ => ?_
  rcases hop with ⟨rfl, rfl⟩ | ⟨rfl, rfl⟩ <;> simp [eqGuard, Go.binOp, e]
 ·exact h.elim
theorem equal_pp {t e : TypeId} (ht : P.underlying t = some (.pointer e)) (x : Option Addr) (w : World) : (Op.equal t (.pointer x) (.pointer none)).run P w = .ok x.isNone w := by
 have h : ∀ d, (Op.equalIn (d + 1) t (.pointer x) (.pointer none)).run P w = .ok x.isNone w := fun d => by
  cases x <;> simp [Op.equalIn, run_underlying ht]
 exact h 9999
theorem cmpp_sound {x y : AV} {v u : Value} (hx : RA w ι x v) (hy : RA w ι y u) {op : BinOp} {neg : Bool} (hop : (op = .eql ∧ neg = false) ∨ (op = .neq ∧ neg = true)) {t e : TypeId}
 (ht : P.underlying t = some (.pointer e)) {k : AV → Prop} {xo yo : Operand}
 (h : vcmpp neg x y k) :
 Vals P w ι k (do eqGuard op t xo yo v u; binOp op t v u) := by
 unfold vcmpp at h
 split at h
 ·rw [RA_lit hx, RA_lit hy]
  refine .mk h (.p (.b _)) fun w' _ => ?_
  rcases hop with ⟨rfl, rfl⟩ | ⟨rfl, rfl⟩ <;> simp [eqGuard, Go.binOp, equal_pp ht]
 ·rw [RA_lit hy]
  cases hx
  refine .mk h (.p (.b _)) fun w' _ => ?_
  rcases hop with ⟨rfl, rfl⟩ | ⟨rfl, rfl⟩ <;> simp [eqGuard, Go.binOp, equal_pp ht]
 ·rw [RA_lit hy]
  cases hx
  rename_i hx
  cases hx
  refine .mk h (.p (.b _)) fun w' _ => ?_
  rcases hop with ⟨rfl, rfl⟩ | ⟨rfl, rfl⟩ <;> simp [eqGuard, Go.binOp, equal_pp ht]
 ·exact h.elim
theorem equal_sl {t e : TypeId} (ht : P.underlying t = some (.slice e)) (x : Option Addr) (n c : Nat) (w : World) : (Op.equal t (.slice x n c) (.slice none 0 0)).run P w = .ok x.isNone w := by
 have h : ∀ d, (Op.equalIn (d + 1) t (.slice x n c) (.slice none 0 0)).run P w = .ok x.isNone w := fun d => by
  cases x <;> simp [Op.equalIn, run_underlying ht]
 exact h 9999
theorem cOpd_nil {y : Operand} (h : cOpd y = some (.c (.isl 0 [] (some 0)))) : y = .const (.slice none 0 0) := by
 cases y with
 | tmp t => cases h
 | func f => cases h
 | global g =>
   obtain ⟨r, _, h⟩ := Option.map_eq_some_iff.1 h
   cases h
 | const v =>
   obtain ⟨x, hx, h⟩ := Option.map_eq_some_iff.1 h
   cases h
   unfold pvOf at hx
   split at hx
   ·obtain ⟨l, _, hx⟩ := Option.map_eq_some_iff.1 hx
    cases hx
   ·unfold pv1 at hx
    split at hx <;> first | (cases hx; done) | rfl
theorem snil_sound {x : AV} {v : Value} (hx : RA w ι x v) {op : BinOp} {neg : Bool} (hop : (op = .eql ∧ neg = false) ∨ (op = .neq ∧ neg = true)) {t e : TypeId}
 (ht : P.underlying t = some (.slice e)) {k : AV → Prop} {xo yo : Operand} (h : vsnil neg x k) :
 Vals P w ι k (do eqGuard op t xo yo v (.slice none 0 0); binOp op t v (.slice none 0 0)) := by
 have main : ∀ (b : Option Addr) (n c : Nat), v = .slice b n c → (b = none → k (.p (.b (!neg)))) → k (.p (.b neg)) → Vals P w ι k (do eqGuard op t xo yo v (.slice none 0 0); binOp op t v (.slice none 0 0)) := by
  rintro b n c rfl h1 h2
  cases b with
  | none =>
    refine .mk (h1 rfl) (.p (.b _)) fun w' _ => ?_
    rcases hop with ⟨rfl, rfl⟩ | ⟨rfl, rfl⟩ <;> simp [eqGuard, Go.binOp, equal_sl ht]
  | some b =>
    refine .mk h2 (.p (.b _)) fun w' _ => ?_
    rcases hop with ⟨rfl, rfl⟩ | ⟨rfl, rfl⟩ <;> simp [eqGuard, Go.binOp, equal_sl ht]
 unfold vsnil at h
 split at h
 ·rename_i wd rows cap
  have hp : RP w ι.M (.isl wd rows cap) v := by cases hx; assumption
  obtain ⟨oa, c0, hv, hc, hcap, hsome⟩ := RP_isl hp
  rcases hsome with hr | ⟨ad, rfl, _⟩
  ·exact main _ _ _ hv (fun _ => h.1 hr) h.2
  ·exact main _ _ _ hv (fun e => by cases e) h.2
 ·rename_i b wd i l cap
  cases hx with
  | sl hb hl hcap hs => exact main _ _ _ rfl (fun e => by cases e) h.2
  | slz hcap => exact main _ _ _ rfl (fun _ => h.1 rfl) h.2
 ·exact h.elim
theorem vun_sound {x : AV} {v : Value} (hx : RA w ι x v) {op : UnOp} {k : AV → Prop} (h : vun op x k) : Vals P w ι k (Op.unary op v) := by
 unfold vun at h
 split at h
 ·rw [RA_int hx]; exact .mk h (.p (.int _ _)) fun w' _ => by simp [Op.unary, Op.intArith, intAr]
 ·rw [RA_int hx]; exact .mk h (.p (.int _ _)) fun w' _ => by simp [Op.unary, Op.intBits, intAr]
 ·rw [RA_b hx]; exact .mk h (.p (.b _)) fun w' _ => by simp [Op.unary]
 ·exact h.elim
theorem vext_sound {x : AV} {v : Value} (hx : RA w ι x v) {i : Nat} {k : AV → Prop} (h : vext x i k) : Vals P w ι k (Instr.extract v i) := by
 unfold vext at h
 split at h
 ·rename_i l
  cases hb : Nat.blt i l.length with
  | false => rw [hb] at h; exact h.elim
  | true =>
    rw [hb] at h
    simp only [cond_true] at h
    have hlt : i < l.length := by simpa [Nat.blt_eq] using hb
    have e : nth .undef l i = l[i] := by rw [nth_eq, List.getElem?_eq_getElem hlt]; rfl
    rw [e] at h
    cases hx with
    | tup hl hr =>
      refine .mk (force_of h) (hr i _ (List.getElem?_eq_getElem hlt)) fun w' _ => ?_
      simp [Instr.extract, hl, hlt]
 ·exact h.elim
theorem mm_sound {x y : AV} {v u : Value} (hx : RA w ι x v) (hy : RA w ι y u) {isMax : Bool} {k : AV → Prop} {ts : Array TypeId} {ty : TypeId}
 (h : vmm isMax x y k) :
 Vals P w ι k (if isMax then Builtin.max_ ts ty #[v, u] else Builtin.min_ ts ty #[v, u]) := by
 unfold vmm at h
 split at h
 ·rename_i kk n kb m
  obtain ⟨_, h⟩ := sameK_of h
  rw [RA_int hx, RA_int hy]
  cases isMax with
  | true =>
    refine .mk h (.p (.int _ _)) fun w' _ => ?_
    simp only [if_true, Builtin.max_, List.foldlM_cons, List.foldlM_nil, Builtin.max2, Sem.run_bind, Sem.run_pure, Result.andThen_ok, cond_true]
    congr 2
    by_cases h1 : n < m
    ·rw [if_pos h1]; omega
    ·rw [if_neg h1]; omega
  | false =>
    refine .mk h (.p (.int _ _)) fun w' _ => ?_
    simp only [Bool.false_eq_true, if_false, Builtin.min_, List.foldlM_cons, List.foldlM_nil, Builtin.min2, Sem.run_bind, Sem.run_pure, Result.andThen_ok, cond_false]
    congr 2
    by_cases h1 : m < n
    ·rw [if_pos h1]; omega
    ·rw [if_neg h1]; omega
 ·exact h.elim
theorem mkfn_sound (gl : Glb w ι.M) (tm : ∀ s, RA w ι (lk st.tmps s) (a.tmps.getD s undef)) {f : Nat} {first cap : Array Operand} {fl cl : List Opd} (hf : cOpds first.toList = some fl) (hc : cOpds cap.toList = some cl)
 {k : AV → Prop} (h : vmkfn f (evL st fl) (evL st cl) k) :
 Vals P w ι k (Instr.makeFunc (.func f) (first.map a.eval) (cap.map a.eval)) := by
 obtain ⟨l1, h1⟩ := evL_sound gl tm hf
 obtain ⟨l2, h2⟩ := evL_sound gl tm hc
 have e1 : (first.toList.map a.eval).toArray = first.map a.eval := by apply Array.ext'; simp
 have e2 : (cap.toList.map a.eval).toArray = cap.map a.eval := by apply Array.ext'; simp
 rw [e1] at h1
 rw [e2] at h2
 have hrun : ∀ w', (Instr.makeFunc (.func f) (first.map a.eval) (cap.map a.eval)).run P w' = .ok (.func (.func f) (first.map a.eval) (cap.map a.eval)) w' := fun w' => rfl
 unfold vmkfn at h
 split at h
 ·rename_i as cs ha hcc
  have ea := allP_eq ha
  have ec := allP_eq hcc
  refine .mk h (.p (.fn ?_ ?_ (fun i x hx => ?_) (fun i x hx => ?_))) fun w' _ => hrun w'
  ·have := congrArg List.length ea; simp at this l1 ⊢; omega
  ·have := congrArg List.length ec; simp at this l2 ⊢; omega
  ·have := h1 i (.p x) (by rw [ea]; simp [hx])
   cases this; assumption
  ·have := h2 i (.p x) (by rw [ec]; simp [hx])
   cases this; assumption
 ·exact .mk h (.fn (by simp at l1 ⊢; omega) (by simp at l2 ⊢; omega) h1 h2) fun w' _ => hrun w'
theorem RA_p {x : PV} {v : Value} (h : RA w ι (.p x) v) : RP w ι.M x v := by
 cases h; assumption
theorem vnil_sound {x : AV} {v : Value} (hx : RA w ι x v) {k : AV → Prop} (h : vnil x k) : k x ∧ ((∃ a, v = .pointer (some a)) ∨ ∃ f fa ca, v = .func (.func f) fa ca) := by
 unfold vnil at h
 split at h
 ·cases hx; exact ⟨h, .inl ⟨_, rfl⟩⟩
 ·cases hx; rename_i hx; cases hx; exact ⟨h, .inl ⟨_, rfl⟩⟩
 ·cases hx; rename_i hx; cases hx; exact ⟨h, .inr ⟨_, _, _, rfl⟩⟩
 ·cases hx; exact ⟨h, .inr ⟨_, _, _, rfl⟩⟩
 ·exact h.elim
theorem vconvI_sound {x : AV} {v : Value} (hx : RA w ι x v) {kk kj : IntKind} {k : AV → Prop} (h : vconvI kk x k) {s d : TypeId} (hs : P.underlying s = some (.int kj)) (hd : P.underlying d = some (.int kk)) :
 Vals P w ι k (convert s d v) := by
 unfold vconvI at h
 split at h
 ·rw [RA_int hx]
  exact .mk h (.p (.int _ _)) fun w' _ => by simp [convert, run_underlying hs, run_underlying hd, Conv.intToInt]
 ·exact h.elim
def OpVals (P : Program) (w : World) (ι : Inj) (k : AV → Prop) (s : Sem Next) : Prop :=
 ∃ av v, k av ∧ RA w ι av v ∧ ∀ w', Ext w w' → s.run P w' = .ok (.value v) w'
theorem OpVals.of {k : AV → Prop} {s : Sem Value} (h : Vals P w ι k s) : OpVals P w ι k (do pure (.value (← s))) := by
 obtain ⟨av, v, h1, h2, h3⟩ := h
 exact ⟨av, v, h1, h2, fun w' hw' => by simp [h3 w' hw']⟩
def stillOp (o : Oper) : Bool :=
 match o.op with
 | .move _ | .assign _ | .nilCheck _ | .fieldAddr _ _ _ => true
 | _ => false
theorem vval_still (gl : Glb w ι.M) (tm : ∀ s, RA w ι (lk st.tmps s) (a.tmps.getD s undef)) {o : Oper} {ro : RO} (hs : stillOp o = true) (hc : cop P o = some ro) {k : AV → Prop} (h : vval ro st k) :
 ∃ av v, k av ∧ RA w ι av v ∧ ∀ w', (execOp a.eval o).run P w' = .ok (.value v) w' := by
 unfold stillOp at hs
 unfold cop at hc
 split at hs
 ·rename_i x ho
  rw [ho] at hc
  obtain ⟨x', hx, rfl⟩ := Option.map_eq_some_iff.1 hc
  rw [execOp, ho]
  exact ⟨_, _, force_of h, ev_sound gl tm hx, fun w' => rfl⟩
 ·rename_i x ho
  rw [ho] at hc
  obtain ⟨x', hx, rfl⟩ := Option.map_eq_some_iff.1 hc
  rw [execOp, ho]
  exact ⟨_, _, force_of h, ev_sound gl tm hx, fun w' => rfl⟩
 ·rename_i x ho
  rw [ho] at hc
  obtain ⟨x', hx, rfl⟩ := Option.map_eq_some_iff.1 hc
  rw [execOp, ho]
  have hv := ev_sound gl tm hx
  obtain ⟨hk, hn⟩ := vnil_sound hv h
  refine ⟨_, _, hk, hv, fun w' => ?_⟩
  rcases hn with ⟨ad, hn⟩ | ⟨f, fa, ca, hn⟩
  ·simp only [hn]; rfl
  ·simp only [hn]; rfl
 ·rename_i t x f ho
  rw [ho] at hc
  rw [execOp, ho]
  simp only at hc
  split at hc
  ·rename_i fs x' hu hx
   split at hc
   ·rename_i fd hf
    split at hc
    ·rename_i n hs
     cases hc
     obtain ⟨av, r, h1, h2, h3⟩ := vfadr_still (ev_sound gl tm hx) h hu hf hs
     exact ⟨av, r, h1, h2, fun w' => by simp [h3 w']⟩
    ·cases hc
   ·cases hc
  ·cases hc
 ·cases hs
theorem vval_sound (gl : Glb w ι.M) (tm : ∀ s, RA w ι (lk st.tmps s) (a.tmps.getD s undef)) (hr : HRel ι st.heap w) {o : Oper} {ro : RO} (hc : cop P o = some ro) {k : AV → Prop} (h : vval ro st k) :
 OpVals P w ι k (execOp a.eval o) := by
 unfold cop at hc
 split at hc
 case h_1 x ho =>
  obtain ⟨x', hx, rfl⟩ := Option.map_eq_some_iff.1 hc
  rw [execOp, ho]
  exact ⟨_, _, force_of h, ev_sound gl tm hx, fun w' _ => rfl⟩
 case h_2 x ho =>
  obtain ⟨x', hx, rfl⟩ := Option.map_eq_some_iff.1 hc
  rw [execOp, ho]
  exact ⟨_, _, force_of h, ev_sound gl tm hx, fun w' _ => rfl⟩
 case h_3 c p q ho =>
  split at hc
  ·rename_i c' p' q' h1 h2 h3
   cases hc
   rw [execOp, ho]
   have hcv := ev_sound gl tm h1
   have h : vpick (ev st c') (ev st p') (ev st q') k := h
   unfold vpick at h
   split at h
   ·rename_i b hb
    rw [hb] at hcv
    have h := bk_of h
    cases b with
    | true => exact ⟨_, _, force_of h, ev_sound gl tm h2, fun w' _ => by simp [RA_b hcv, asBool]⟩
    | false => exact ⟨_, _, force_of h, ev_sound gl tm h3, fun w' _ => by simp [RA_b hcv, asBool]⟩
   ·exact h.elim
  ·cases hc
 case h_4 op t x y yt ho =>
  split at hc
  ·rename_i x' y' h1 h2
   rw [execOp, ho]
   have hx := ev_sound gl tm h1
   have hy := ev_sound gl tm h2
   refine .of ?_
   unfold cBin at hc
   split at hc
   ·cases hc
    exact vbin_sound hx hy (force_of (k := fun y => vbin op _ y k) (force_of (k := fun x => force (ev st y') fun y => vbin op x y k) h))
   ·cases hc
    exact vbin_sound hx hy (force_of (k := fun y => vbin op _ y k) (force_of (k := fun x => force (ev st y') fun y => vbin op x y k) h))
   ·rename_i ht
    split at hc
    ·cases hc; exact cmpb_sound hx hy (.inl ⟨rfl, rfl⟩) ht h
    ·cases hc; exact cmpb_sound hx hy (.inr ⟨rfl, rfl⟩) ht h
    ·cases hc
   ·rename_i e ht
    split at hc
    ·cases hc
     rw [cOpd_nil h2]
     exact snil_sound hx (.inl ⟨rfl, rfl⟩) ht h
    ·cases hc
     rw [cOpd_nil h2]
     exact snil_sound hx (.inr ⟨rfl, rfl⟩) ht h
    ·cases hc
   ·rename_i e ht
    split at hc
    ·cases hc
    ·split at hc
     ·cases hc; exact cmpp_sound hx hy (.inl ⟨rfl, rfl⟩) ht h
     ·cases hc; exact cmpp_sound hx hy (.inr ⟨rfl, rfl⟩) ht h
     ·cases hc
   ·rename_i fs ht
    split at hc
    ·rename_i ks hk
     split at hc
     ·rename_i hg
      split at hc
      ·cases hc; exact cmpa_sound hx hy (.inl ⟨rfl, rfl⟩) hk (by simp [aggT, ht]) hg h
      ·cases hc; exact cmpa_sound hx hy (.inr ⟨rfl, rfl⟩) hk (by simp [aggT, ht]) hg h
      ·cases hc
     ·cases hc
    ·cases hc
   ·rename_i n e ht
    split at hc
    ·rename_i ks hk
     split at hc
     ·rename_i hg
      split at hc
      ·cases hc; exact cmpa_sound hx hy (.inl ⟨rfl, rfl⟩) hk (by simp [aggT, ht]) hg h
      ·cases hc; exact cmpa_sound hx hy (.inr ⟨rfl, rfl⟩) hk (by simp [aggT, ht]) hg h
      ·cases hc
     ·cases hc
    ·cases hc
   ·cases hc
  ·cases hc
 case h_5 op t x ho =>
  obtain ⟨x', hx, rfl⟩ := Option.map_eq_some_iff.1 hc
  rw [execOp, ho]
  exact .of (vun_sound (ev_sound gl tm hx) h)
 case h_6 e _ =>
  obtain ⟨x', hx, rfl⟩ := Option.map_eq_some_iff.1 hc
  rcases cAlloc_cases P e x' with e1 | ⟨_, _, _, e1, _⟩ <;> (rw [e1] at h; exact h.elim)
 case h_7 e _ _ =>
  split at hc
  ·rename_i x' s _ _
   cases hc
   rcases cBox_cases P e x' s with e1 | ⟨_, e1⟩ <;> (rw [e1] at h; exact h.elim)
  ·cases hc
 case h_8 t parts ho =>
  rw [execOp, ho]
  split at hc
  ·rename_i fs z hu hz
   split at hc
   ·rename_i hall
    obtain ⟨ps, hp, rfl⟩ := Option.map_eq_some_iff.1 hc
    rcases cBuild_cases P t z ps with e1 | ⟨n, z0, rest, e1, h1, h2, h3⟩
    ·rw [e1] at h; exact .of (build_sound gl tm hz (.inl ⟨fs, hu, hall, hp⟩) h)
    ·rw [e1] at h; exact .of (build_sound gl tm hz (.inl ⟨fs, hu, hall, hp⟩) (vbuildx_fill h1 h2 h3 h))
   ·cases hc
  ·rename_i n e z hu hz
   split at hc
   ·rename_i s hs
    obtain ⟨ps, hp, rfl⟩ := Option.map_eq_some_iff.1 hc
    exact .of (build_sound gl tm hz (.inr ⟨n, e, s, hu, hs, hp⟩) h)
   ·cases hc
  ·cases hc
 case h_9 =>
  split at hc
  ·split at hc
   ·split at hc
    ·cases hc; exact h.elim
    ·cases hc
   ·cases hc
  ·cases hc
 case h_10 t x ho =>
  split at hc
  ·rename_i x' s g hx hs hg
   cases hc
   rw [execOp, ho]
   exact .of (vload_sound hr (ev_sound gl tm hx) (force_of (k := fun a => vload st.heap a s g k) h) hs hg)
  ·cases hc
 case h_11 =>
  split at hc
  ·cases hc; exact h.elim
  ·cases hc
 case h_12 x ho =>
  obtain ⟨x', hx, rfl⟩ := Option.map_eq_some_iff.1 hc
  rw [execOp, ho]
  have hv := ev_sound gl tm hx
  obtain ⟨hk, hn⟩ := vnil_sound hv h
  refine ⟨_, _, hk, hv, fun w' _ => ?_⟩
  rcases hn with ⟨ad, hn⟩ | ⟨f, fa, ca, hn⟩
  ·simp only [hn]; rfl
  ·simp only [hn]; rfl
 case h_13 t x f ho =>
  rw [execOp, ho]
  split at hc
  ·rename_i fs x' hu hx
   split at hc
   ·rename_i fd hf
    split at hc
    ·rename_i n hs
     cases hc
     exact .of (vfadr_sound (ev_sound gl tm hx) h hu hf hs)
    ·cases hc
   ·cases hc
  ·cases hc
 case h_14 t x f ho =>
  rw [execOp, ho]
  split at hc
  ·rename_i fs x' hu hx
   split at hc
   ·rename_i fd hf
    split at hc
    ·rename_i n g hs hg
     cases hc
     exact .of (vfld_sound (ev_sound gl tm hx) h hu hf hs hg)
    ·cases hc
   ·cases hc
  ·cases hc
 case h_15 t x i ho =>
  rw [execOp, ho]
  split at hc
  ·rename_i n e x' i' hu hx hi
   obtain ⟨s, hs, rfl⟩ := Option.map_eq_some_iff.1 hc
   exact .of (vidxA_sound (ev_sound gl tm hx) (ev_sound gl tm hi) h hu hs)
  ·rename_i e x' i' hu hx hi
   obtain ⟨s, hs, rfl⟩ := Option.map_eq_some_iff.1 hc
   exact .of (vidxS_sound (ev_sound gl tm hx) (ev_sound gl tm hi) (force_of (k := fun x => vidxS x (ev st i') s k) h) hu hs)
  ·cases hc
 case h_16 t x i ho =>
  rw [execOp, ho]
  split at hc
  ·rename_i n e x' i' hu hx hi
   split at hc
   ·rename_i s g hs hg
    cases hc
    exact .of (vidxArr_sound (ev_sound gl tm hx) (ev_sound gl tm hi) h hu hs hg)
   ·cases hc
  ·rename_i x' i' hu hx hi
   cases hc
   exact .of (vidxStr_sound (ev_sound gl tm hx) (ev_sound gl tm hi) h hu)
  ·cases hc
 case h_17 t x lo hi mx ho =>
  rw [execOp, ho]
  split at hc
  ·rename_i n e x' lo' hi' mx' hu hx hl hh hm
   obtain ⟨s, hs, hc⟩ := Option.bind_eq_some_iff.1 hc
   split at hc
   ·cases hc
   ·rename_i hmh
    cases hc
    exact .of (vslcA_sound gl tm (ev_sound gl tm hx) hl hh hm (Bool.eq_false_iff.2 hmh) h hu hs)
  ·rename_i e x' lo' hi' mx' hu hx hl hh hm
   obtain ⟨s, hs, hc⟩ := Option.bind_eq_some_iff.1 hc
   split at hc
   ·cases hc
   ·rename_i hmh
    cases hc
    exact .of (vslcS_sound gl tm (ev_sound gl tm hx) hl hh hm (Bool.eq_false_iff.2 hmh) (force_of (k := fun x => vslcS x (lo'.map (ev st)) (hi'.map (ev st)) (mx'.map (ev st)) s k) h) hu hs)
  ·rename_i x' lo' hi' hu hx hl hh hm
   cases hc
   have : mx = none := by
    cases mx with
    | none => rfl
    | some m => simp only [cOpdO] at hm; obtain ⟨y, _, hy⟩ := Option.map_eq_some_iff.1 hm; cases hy
   subst this
   exact .of (vslcStr_sound gl tm (ev_sound gl tm hx) hl hh h hu)
  ·cases hc
 case h_18 s d x ho =>
  rw [execOp, ho]
  split at hc
  ·rename_i kj kk x' hs hd hx
   cases hc
   exact .of (vconvI_sound (ev_sound gl tm hx) h hs hd)
  ·rename_i x' hs hd hx
   cases hc
   have hv := ev_sound gl tm hx
   refine .of ?_
   have h : vstrId (ev st x') k := h
   generalize ev st x' = y at h hv
   unfold vstrId at h
   split at h
   ·rw [RA_str hv]
    exact .mk h (.p (.str _)) fun w' _ => by simp [convert, run_underlying hs, run_underlying hd]
   ·exact h.elim
  ·rename_i e x' hs hd hx
   split at hc
   ·rename_i he
    cases hc
    exact .of (strOf_sound hr (ev_sound gl tm hx) (force_of (k := fun x => vslices st.heap x 1 fun rows => ∃ l : List UInt8, rows = l.map encByte ∧ k (.p (.str l))) h) hs he hd)
   ·cases hc
  ·split at hc
   ·cases hc; exact h.elim
   ·cases hc
  ·cases hc
 case h_19 t x ho =>
  rw [execOp, ho]
  split at hc
  ·cases hc
  ·rename_i u x' hni hu hx
   cases hc
   have hv := ev_sound gl tm hx
   have h : vmkif t (ev st x') k := force_of (k := fun x => vmkif t x k) h
   have hrun : ∀ w', (Instr.makeInterface t (a.eval x)).run P w' = .ok (.iface t (a.eval x)) w' := fun w' => by
    simp only [Instr.makeInterface, Sem.run_bind, run_underlying hu, Result.andThen_ok]
    cases u <;> first | rfl | exact absurd rfl (hni _)
   refine .of ?_
   unfold vmkif at h
   split at h
   ·rename_i z heq
    rw [heq] at hv
    exact .mk h (.p (.ifc (RA_p hv))) fun w' _ => hrun w'
   ·exact .mk h (.ifc hv) fun w' _ => hrun w'
  ·cases hc
 case h_20 f first cap ho =>
  rw [execOp, ho]
  split at hc
  ·rename_i fl cl h1 h2
   cases hc
   exact .of (mkfn_sound gl tm h1 h2 h)
  ·cases hc
 case h_21 =>
  split at hc
  ·split at hc
   ·split at hc
    ·cases hc; exact h.elim
    ·cases hc
   ·cases hc
  ·cases hc
 case h_22 x i ho =>
  obtain ⟨x', hx, rfl⟩ := Option.map_eq_some_iff.1 hc
  rw [execOp, ho]
  exact .of (vext_sound (ev_sound gl tm hx) h)
 case h_23 c ho =>
  split at hc
  ·obtain ⟨l, _, rfl⟩ := Option.map_eq_some_iff.1 hc; exact h.elim
  ·split at hc
   ·cases hc; exact h.elim
   ·cases hc
  ·rename_i hcal
   split at hc
   ·rename_i x t hargs htys
    have e1 : c.args = #[x] := by apply Array.ext'; simpa using hargs
    have e2 : c.argTypes = #[t] := by apply Array.ext'; simpa using htys
    rw [execOp, ho]
    simp only [resolve, hcal, e1, e2, invoke, builtin]
    split at hc
    ·rename_i x' hu hx
     cases hc
     obtain ⟨av, v, h1, h2, h3⟩ := vlenStr_sound (ty := o.type) (ev_sound gl tm hx) h hu
     exact ⟨av, v, h1, h2, fun w' hw' => by
      have h4 := h3 w' hw'
      simp at h4 ⊢
      rw [h4]
      rfl⟩
    ·rename_i e x' hu hx
     cases hc
     obtain ⟨av, v, h1, h2, h3⟩ := vlen_sound (ty := o.type) (ev_sound gl tm hx) h hu
     exact ⟨av, v, h1, h2, fun w' hw' => by
      have h4 := h3 w' hw'
      simp at h4 ⊢
      rw [h4]
      rfl⟩
    ·rename_i kt et x' hu hx
     cases hc
     obtain ⟨av, v, h1, h2, h3⟩ := vmlen_sound (ty := o.type) hr (ev_sound gl tm hx) hu h
     exact ⟨av, v, h1, h2, fun w' hw' => by
      have h4 := h3 w' hw'
      simp at h4 ⊢
      rw [h4]
      rfl⟩
    ·cases hc
   ·cases hc
  ·split at hc
   ·split at hc
    ·split at hc
     ·split at hc
      ·cases hc; exact h.elim
      ·cases hc
     ·cases hc
    ·split at hc
     ·split at hc
      ·cases hc; exact h.elim
      ·cases hc
     ·cases hc
    ·cases hc
   ·cases hc
  ·split at hc
   ·split at hc
    ·obtain ⟨n, _, rfl⟩ := Option.map_eq_some_iff.1 hc; exact h.elim
    ·cases hc
   ·cases hc
  ·rename_i hcal
   split at hc
   ·rename_i x y hargs
    have e1 : c.args = #[x, y] := by apply Array.ext'; simpa using hargs
    rw [execOp, ho]
    simp only [resolve, hcal, e1, invoke, builtin]
    split at hc
    ·rename_i x' y' hx hy
     cases hc
     obtain ⟨av, v, h1, h2, h3⟩ := mm_sound (P := P) (isMax := true) (ts := c.argTypes) (ty := o.type) (ev_sound gl tm hx) (ev_sound gl tm hy) h
     exact ⟨av, v, h1, h2, fun w' hw' => by
      have h4 := h3 w' hw'
      simp at h4 ⊢
      rw [h4]
      rfl⟩
    ·cases hc
   ·cases hc
  ·rename_i hcal
   split at hc
   ·rename_i x y hargs
    have e1 : c.args = #[x, y] := by apply Array.ext'; simpa using hargs
    rw [execOp, ho]
    simp only [resolve, hcal, e1, invoke, builtin]
    split at hc
    ·rename_i x' y' hx hy
     cases hc
     obtain ⟨av, v, h1, h2, h3⟩ := mm_sound (P := P) (isMax := false) (ts := c.argTypes) (ty := o.type) (ev_sound gl tm hx) (ev_sound gl tm hy) h
     exact ⟨av, v, h1, h2, fun w' hw' => by
      have h4 := h3 w' hw'
      simp at h4 ⊢
      rw [h4]
      rfl⟩
    ·cases hc
   ·cases hc
  ·split at hc
   ·split at hc
    ·split at hc
     ·split at hc
      ·cases hc; exact h.elim
      ·cases hc
     ·cases hc
    ·cases hc
   ·cases hc
  ·cases hc
 case h_24 =>
  split at hc
  ·obtain ⟨q, _, rfl⟩ := Option.map_eq_some_iff.1 hc
   exact h.elim
  ·cases hc
 case h_25 t m x ok ho =>
  rw [execOp, ho]
  split at hc
  ·rename_i kt et hu
   split at hc
   ·rename_i ag ks z m' x' hk hz hm hx
    cases hc
    exact .of (vmlook_sound hr (ev_sound gl tm hm) (ev_sound gl tm hx) hu hk hz (force_of (k := fun x => vmlook st.heap ag ks z ok (ev st m') x k) h))
   ·cases hc
  ·cases hc
 case h_26 =>
  split at hc
  ·split at hc
   ·cases hc; exact h.elim
   ·cases hc
  ·cases hc
 case h_27 =>
  split at hc
  ·split at hc
   ·cases hc; exact h.elim
   ·cases hc
  ·cases hc
 case h_28 =>
  split at hc
  ·split at hc
   ·cases hc; exact h.elim
   ·cases hc
  ·cases hc
 case h_29 =>
  split at hc
  ·cases hc; exact h.elim
  ·cases hc
 case h_30 => cases hc
end
end Hk
namespace Hk
open Go
set_option linter.unusedVariables false
set_option linter.unusedSimpArgs false
def Inj.upd (ι : Inj) (b : Nat) (p : Option (Nat × Nat × Nat)) : Inj := { ι with m := fun n => if n = b then p else ι n }
theorem Inj.upd_self (ι : Inj) (b : Nat) (p : Option (Nat × Nat × Nat)) : ι.upd b p b = p := by simp [Inj.upd]
theorem Inj.upd_ne (ι : Inj) {b n : Nat} (p : Option (Nat × Nat × Nat)) (h : n ≠ b) : ι.upd b p n = ι n := by simp [Inj.upd, h]
def Blk.cellB : Blk → Bool
 | .mx _ => true
 | .pr _ _ => true
 | _ => false
def BlkAt (w : World) (ι : Inj) (cs : Array Value) (o : Nat) : Blk → Prop
 | .dead => False
 | .mp _ _ _ => False
 | .gh _ _ => False
 | .ax n arr cells => arr.length = n ∧ o + (arr.map AV.p ++ cells).length ≤ cs.size ∧ ∀ (j : Nat) x, (arr.map AV.p ++ cells)[j]? = some x → ∃ v, cs[o + j]? = some v ∧ oneC v = true ∧ RA w ι x v
 | .mx cells => o + cells.length ≤ cs.size ∧ ∀ (j : Nat) x, cells[j]? = some x → ∃ v, cs[o + j]? = some v ∧ oneC v = true ∧ RA w ι x v
 | .pr wd rows => o + rows.length * wd ≤ cs.size ∧ (∀ (i : Nat) row, rows[i]? = some row → row.length = wd) ∧
  ∀ (i : Nat) row (j : Nat) x, rows[i]? = some row → row[j]? = some x → x.one = true ∧ ∃ v, cs[o + (i * wd + j)]? = some v ∧ RP w ι.M x v
theorem BlkAt.later {w w' : World} {ι ι' : Inj} (hL : Later ι.M w w' ι'.M) (hι : ∀ b p, ι b = some p → ι' b = some p) {cs : Array Value} {o : Nat} {x : Blk} (h : BlkAt w ι cs o x) :
 BlkAt w' ι' cs o x := by
 cases x with
 | dead => exact h
 | mp _ _ _ => exact h
 | gh _ _ => exact h
 | ax n arr cells =>
   obtain ⟨h0, h1, h2⟩ := h
   refine ⟨h0, h1, fun j x hx => ?_⟩
   obtain ⟨v, hv, ho, hr⟩ := h2 j x hx
   exact ⟨v, hv, ho, hr.later hL hι⟩
 | mx cells =>
   obtain ⟨h1, h2⟩ := h
   refine ⟨h1, fun j x hx => ?_⟩
   obtain ⟨v, hv, ho, hr⟩ := h2 j x hx
   exact ⟨v, hv, ho, hr.later hL hι⟩
 | pr wd rows =>
   obtain ⟨h1, h2, h3⟩ := h
   refine ⟨h1, h2, fun i row j x hi hx => ?_⟩
   obtain ⟨ho, v, hv, hr⟩ := h3 i row j x hi hx
   exact ⟨ho, v, hv, hr.later hL⟩
theorem BlkAt.later_pr {w w' : World} {ι ι' : Inj} (hL : Later ι.M w w' ι'.M) {cs : Array Value} {o wd : Nat} {rows : List (List PV)} (h : BlkAt w ι cs o (.pr wd rows)) :
 BlkAt w' ι' cs o (.pr wd rows) := by
 obtain ⟨h1, h2, h3⟩ := h
 refine ⟨h1, h2, fun i row j x hi hx => ?_⟩
 obtain ⟨ho, v, hv, hr⟩ := h3 i row j x hi hx
 exact ⟨ho, v, hv, hr.later hL⟩
theorem BlkAt.rb {w : World} {ι : Inj} {c o : Nat} {cs : Array Value} {ty : TypeId} {fz : Nat × Nat} {x : Blk} (h : BlkAt w ι cs o x) (hc : w.heap[c]? = some (.cells cs ty fz)) (ht : Thaw cs.size fz) :
 RB w ι (some (c, o, cs.size)) x := by
 cases x with
 | dead => exact h.elim
 | mp _ _ _ => exact h.elim
 | gh _ _ => exact h.elim
 | ax n arr cells => exact ⟨h.1, c, o, _, cs, ty, fz, rfl, hc, ht, rfl, h.2.1, h.2.2⟩
 | mx cells => exact ⟨c, o, _, cs, ty, fz, rfl, hc, ht, rfl, h.1, h.2⟩
 | pr wd rows => exact .inr ⟨c, o, _, cs, ty, fz, rfl, hc, ht, rfl, h.1, h.2.1, h.2.2⟩
theorem RB.at {w : World} {ι : Inj} {c o s : Nat} {x : Blk} (h : RB w ι (some (c, o, s)) x) (hx : x.cellB = true := by rfl) : ∃ cs ty fz, w.heap[c]? = some (.cells cs ty fz) ∧ Thaw cs.size fz ∧ cs.size = s ∧ BlkAt w ι cs o x := by
 cases x with
 | dead => cases h
 | mp _ _ _ => cases hx
 | gh _ _ => cases hx
 | ax _ _ _ => cases hx
 | mx cells =>
   obtain ⟨c', o', s', cs, ty, fz, he, h1, hf, h2, h3, h4⟩ := h
   cases he
   exact ⟨cs, ty, fz, h1, hf, h2, by rw [h2]; exact h3, h4⟩
 | pr wd rows =>
   rcases h with ⟨h0, _⟩ | ⟨c', o', s', cs, ty, fz, he, h1, hf, h2, h3, h4, h5⟩
   ·cases h0
   ·cases he
    exact ⟨cs, ty, fz, h1, hf, h2, by rw [h2]; exact h3, h4, h5⟩
def pushW (w : World) (o : Obj) : World := { w with heap := w.heap.push o }
def setW (w : World) (c : Nat) (o : Obj) : World := { w with heap := w.heap.setIfInBounds c o }
theorem pushW_old (w : World) (o : Obj) (c : Nat) (x : Obj) (h : w.heap[c]? = some x) : (pushW w o).heap[c]? = some x := by
 have hlt := (Array.getElem?_eq_some_iff.1 h).1
 simp only [pushW]
 rw [Array.getElem?_push_lt hlt]
 rw [Array.getElem?_eq_getElem hlt] at h
 exact h
theorem pushW_new (w : World) (o : Obj) : (pushW w o).heap[w.heap.size]? = some o := by
 show (w.heap.push o)[w.heap.size]? = some o
 simp
theorem setW_self (w : World) (c : Nat) (o : Obj) (h : c < w.heap.size) : (setW w c o).heap[c]? = some o := by simp [setW, h]
theorem setW_ne (w : World) {c d : Nat} (o : Obj) (h : d ≠ c) : (setW w c o).heap[d]? = w.heap[d]? := by
 simp only [setW]; exact Array.getElem?_setIfInBounds_ne (Ne.symm h)
section
variable {cx : Cx} {ι : Inj} {h : List Blk} {w : World}
theorem kill_gh {b : Nat} {x : Blk} {l : Nat} {r : Option (List (List PV))} (h : x.kill b = .gh l r) : x = .gh l r := by
 cases x <;> first | exact h | (simp [Blk.kill] at h)
theorem Mem.step (hm : Mem cx ι h w) {ι' : Inj} {h' : List Blk} {w' : World} (hr : HRel ι' h' w') (hsame : ∀ (d : Nat) (x : Obj), ¬ ι.I d → w.heap[d]? = some x → w'.heap[d]? = some x)
 (hnew : ∀ c, ι'.I c → ι.I c ∨ w.heap.size ≤ c) (hgrow : w.heap.size ≤ w'.heap.size) (hos : w'.os = w.os ∧ w'.output = w.output)
 (hX : ι'.X = ι.X) (hS : ι'.S = ι.S) (hD : ι'.D = ι.D) (hG : ι'.G = ι.G) (hfx : ∀ b, cx.E.fx b = true → ι' b = ι b) (hkl : cx.E.k ≤ h'.length)
 (hgh : ∀ l r, nth .dead h' 0 = .gh l r → nth .dead h 0 = .gh l r) : Mem cx ι' h' w' := by
 refine ⟨hr, ?_, ?_, ?_, ?_, ?_, ?_, ?_, Nat.le_trans hm.gr hgrow, ⟨hos.1.trans hm.os.1, hos.2.trans hm.os.2⟩, fun b hb => (hfx b hb).trans (hm.fx b hb), hkl, ?_, ?_, ?_, by rw [hG, hS]; exact hm.su, by rw [hD]; exact hm.dz⟩
 ·rw [hX]; exact fun c hc => Nat.lt_of_lt_of_le (hm.xl c hc) hgrow
 ·rw [hX, hS]; exact hm.xs
 ·rw [hX]; exact hm.xe
 ·rw [hS]; exact hm.se
 ·rw [hG]; exact hm.ge
 ·intro c hc
  rcases hnew c hc with h1 | h1
  ·exact hm.ow c h1
  ·exact .inr (Nat.le_trans hm.gr h1)
 ·intro c h1 h2 h3
  have hnI : ¬ ι.I c := fun hI => by
   rcases hm.ow c hI with h4 | h4
   ·exact h1 h4
   ·omega
  have h5 := hm.fr c h1 h2 h3
  have h6 : cx.w0.heap[c]? = some cx.w0.heap[c] := Array.getElem?_eq_getElem h3
  rw [h6] at h5 ⊢
  exact hsame c _ hnI h5
 ·rw [hD, hX, hS]
  intro d hd
  obtain ⟨h1, h2, h3, h4⟩ := hm.dm d hd
  exact ⟨h1, h2, h3, hsame d _ (fun ⟨b, o, s, hb⟩ => hm.hr.dis _ _ _ _ hb h1) h4⟩
 ·rw [hD]; exact hm.dn
 ·intro l r hl
  obtain ⟨h1, h2⟩ := hm.jt l r (hgh l r hl)
  refine ⟨h1, ?_⟩
  rw [hS]
  exact cx.js _ _ _ _ _ _ h2 hsame hnew (fun c hc => hr.lt hc) hgrow hos
theorem Mem.turn (hm : Mem cx ι h w) {b : Nat} (hb : b < h.length) (hfx : cx.E.fx b = false) {w' : World} {p : Option (Nat × Nat × Nat)} {blk : Blk} {c : Nat}
 (hc : (∃ o s, ι b = some (c, o, s)) ∨ w.heap.size ≤ c) (hp : ∀ c' o s, p = some (c', o, s) → c' = c)
 (hsame : ∀ (d : Nat) (x : Obj), d ≠ c → w.heap[d]? = some x → w'.heap[d]? = some x) (hgrow : w.heap.size ≤ w'.heap.size)
 (hos : w'.os = w.os ∧ w'.output = w.output) (hrb : Later ι.M w w' (ι.upd b p).M → RB w' (ι.upd b p) p blk) (hgb : ∀ l r, blk ≠ .gh l r := by intro _ _ h; cases h) :
 Mem cx (ι.upd b p) (setNth (killH b h) b blk) w' ∧ Later ι.M w w' (ι.upd b p).M := by
 have hcM : ι.I c ∨ w.heap.size ≤ c := hc.imp (fun ⟨o, s, h⟩ => ⟨b, o, s, h⟩) id
 have hM' : ∀ d, (ι.upd b p).I d → d = c ∨ ∃ b' o s, b' ≠ b ∧ ι b' = some (d, o, s) := by
  rintro d ⟨b', o, s, hb'⟩
  by_cases e : b' = b
  ·subst e; rw [Inj.upd_self] at hb'; exact .inl (hp _ _ _ hb')
  ·rw [Inj.upd_ne _ _ e] at hb'; exact .inr ⟨b', o, s, e, hb'⟩
 have hL : Later ι.M w w' (ι.upd b p).M := by
  refine ⟨fun d x hd hx => hsame d x (fun e => ?_) hx, fun d hd => ?_, hgrow⟩
  ·subst e
   rcases hcM with h1 | h1
   ·exact hd (.inl h1)
   ·have := (Array.getElem?_eq_some_iff.1 hx).1; omega
  ·rcases hd with hd | hd
   ·rcases hM' d hd with rfl | ⟨b', o, s, _, h1⟩
    ·exact hcM.imp .inl id
    ·exact .inl (.inl ⟨b', o, s, h1⟩)
   ·exact .inl (.inr hd)
 have hι : ∀ b', b' ≠ b → ∀ q, ι b' = some q → (ι.upd b p) b' = some q := fun b' e q hq => by rw [Inj.upd_ne _ _ e]; exact hq
 have hother : ∀ b' d o s, b' ≠ b → ι b' = some (d, o, s) → d ≠ c := by
  intro b' d o s e h1 e2
  subst e2
  rcases hc with ⟨o2, s2, h2⟩ | h2
  ·exact e (hm.hr.inj _ _ _ _ _ _ _ h1 h2)
  ·have := hm.hr.lt ⟨b', o, s, h1⟩; omega
 refine ⟨hm.step ⟨hm.hr.gl.later hL, fun b' => ?_, fun b1 b2 d o1 s1 o2 s2 h1 h2 => ?_, fun b1 d o1 s1 h1 => ?_⟩ (fun d x hd hx => hsame d x (fun e => ?_) hx) (fun d hd => ?_) hgrow hos rfl rfl rfl rfl
  (fun b' hb' => ?_) (by rw [setNth_eq, List.length_set, killH_len]; exact hm.kl) (fun l r hl => ?_), hL⟩
 ·rw [nth_setNth _ _ _ _ _ (by rw [killH_len]; exact hb)]
  by_cases e : b' = b
  ·rw [if_pos e]; subst e; rw [Inj.upd_self]; exact hrb hL
  ·rw [if_neg e, Inj.upd_ne _ _ e, killH_nth]
   refine (hm.hr.blk b').kill hL (fun h => h) hι fun d o s hd => ?_
   have hne := hother b' d o s e hd
   obtain ⟨ob, h1, _⟩ := hm.hr.size hd
   rw [h1, hsame _ _ hne h1]
 ·by_cases e1 : b1 = b
  ·subst e1
   rw [Inj.upd_self] at h1
   have := hp _ _ _ h1
   subst this
   by_cases e2 : b2 = b1
   ·exact e2.symm
   ·rw [Inj.upd_ne _ _ e2] at h2
    exact absurd rfl (hother _ _ _ _ e2 h2)
  ·rw [Inj.upd_ne _ _ e1] at h1
   by_cases e2 : b2 = b
   ·subst e2
    rw [Inj.upd_self] at h2
    have := hp _ _ _ h2
    subst this
    exact absurd rfl (hother _ _ _ _ e1 h1)
   ·rw [Inj.upd_ne _ _ e2] at h2
    exact hm.hr.inj _ _ _ _ _ _ _ h1 h2
 ·by_cases e1 : b1 = b
  ·subst e1
   rw [Inj.upd_self] at h1
   have := hp _ _ _ h1
   subst this
   rcases hc with ⟨o2, s2, h2⟩ | h2
   ·exact hm.hr.dis _ _ _ _ h2
   ·intro hX; have := hm.xl _ hX; omega
  ·rw [Inj.upd_ne _ _ e1] at h1
   exact hm.hr.dis _ _ _ _ h1
 ·subst e
  rcases hcM with h1 | h1
  ·exact hd h1
  ·have := (Array.getElem?_eq_some_iff.1 hx).1; omega
 ·rcases hM' d hd with rfl | ⟨b', o, s, _, h1⟩
  ·exact hcM
  ·exact .inl ⟨b', o, s, h1⟩
 ·rw [Inj.upd_ne]
  intro e; subst e; rw [hfx] at hb'; cases hb'
 ·rw [nth_setNth _ _ _ _ _ (by rw [killH_len]; exact hb)] at hl
  split at hl
  ·exact absurd hl (hgb l r)
  ·rw [killH_nth] at hl; exact kill_gh hl
theorem Mem.write (hm : Mem cx ι h w) {b c o s : Nat} (hb : ι b = some (c, o, s)) {w' : World} {blk : Blk}
 (hsame : ∀ (d : Nat) (x : Obj), d ≠ c → w.heap[d]? = some x → w'.heap[d]? = some x) (hgrow : w.heap.size ≤ w'.heap.size)
 (hos : w'.os = w.os ∧ w'.output = w.output) (hrb : Later ι.M w w' ι.M → RB w' ι (some (c, o, s)) blk) (hgb : ∀ l r, blk ≠ .gh l r := by intro _ _ h; cases h) :
 Mem cx ι (setNth h b blk) w' ∧ Later ι.M w w' ι.M := by
 have hlen : b < h.length := by
  obtain ⟨ob, _, hd⟩ := hm.hr.size hb
  exact hm.hr.blen hd
 have hL : Later ι.M w w' ι.M := ⟨fun d x hd hx => hsame d x (fun e => hd (e ▸ .inl ⟨b, o, s, hb⟩)) hx, fun d hd => .inl hd, hgrow⟩
 refine ⟨hm.step ⟨hm.hr.gl.later hL, fun b' => ?_, hm.hr.inj, hm.hr.dis⟩ (fun d x hd hx => hsame d x (fun e => ?_) hx) (fun d hd => .inl hd) hgrow hos rfl rfl rfl rfl
  (fun b' hb' => rfl) (by rw [setNth_eq, List.length_set]; exact hm.kl) (fun l r hl => ?_), hL⟩
 ·rw [nth_setNth _ _ _ _ _ hlen]
  by_cases e : b' = b
  ·rw [if_pos e]; subst e; rw [hb]; exact hrb hL
  ·rw [if_neg e]
   refine (hm.hr.blk b').later hL (fun h => h) (fun _ _ h => h) fun d o' s' hd => ?_
   have hne : d ≠ c := fun e2 => by subst e2; exact e (hm.hr.inj _ _ _ _ _ _ _ hd hb)
   obtain ⟨ob, h1, _⟩ := hm.hr.size hd
   rw [h1, hsame _ _ hne h1]
 ·subst e; exact hd ⟨b, o, s, hb⟩
 ·rw [nth_setNth _ _ _ _ _ hlen] at hl
  split at hl
  ·exact absurd hl (hgb l r)
  ·exact hl
theorem Mem.lay (hm : Mem cx ι h w) {w' : World} {c o s : Nat} {blk : Blk} (hc : w.heap.size ≤ c)
 (hold : ∀ (d : Nat) (x : Obj), w.heap[d]? = some x → w'.heap[d]? = some x)
 (hos : w'.os = w.os ∧ w'.output = w.output)
 (hrb : Later ι.M w w' (ι.upd h.length (some (c, o, s))).M → (∀ b p, ι b = some p → (ι.upd h.length (some (c, o, s))) b = some p) → RB w' (ι.upd h.length (some (c, o, s))) (some (c, o, s)) blk) (hgb : ∀ l r, blk ≠ .gh l r := by intro _ _ h; cases h) :
 Mem cx (ι.upd h.length (some (c, o, s))) (h ++ [blk]) w' ∧ Later ι.M w w' (ι.upd h.length (some (c, o, s))).M ∧
  ∀ b p, ι b = some p → (ι.upd h.length (some (c, o, s))) b = some p := by
 have hnone : ι h.length = none := by
  cases hq : ι h.length with
  | none => rfl
  | some q =>
    obtain ⟨c', o', s'⟩ := q
    obtain ⟨ob, _, hd⟩ := hm.hr.size hq
    exact absurd (hm.hr.blen hd) (Nat.lt_irrefl _)
 have hι : ∀ b p, ι b = some p → (ι.upd h.length (some (c, o, s))) b = some p := fun b p hb => by
  rw [Inj.upd_ne]
  ·exact hb
  ·intro e; subst e; rw [hnone] at hb; cases hb
 have hgrow : w.heap.size ≤ w'.heap.size := Ext.size hold
 have hM' : ∀ d, (ι.upd h.length (some (c, o, s))).I d → d = c ∨ ι.I d := by
  rintro d ⟨b', o', s', hb'⟩
  by_cases e : b' = h.length
  ·subst e; rw [Inj.upd_self] at hb'; cases hb'; exact .inl rfl
  ·rw [Inj.upd_ne _ _ e] at hb'; exact .inr ⟨b', o', s', hb'⟩
 have hL : Later ι.M w w' (ι.upd h.length (some (c, o, s))).M :=
  ⟨fun d x _ hx => hold d x hx, fun d hd => hd.elim (fun hd => (hM' d hd).elim (fun e => .inr (e ▸ hc)) fun h => .inl (.inl h)) fun h => .inl (.inr h), hgrow⟩
 refine ⟨hm.step ⟨hm.hr.gl.later hL, fun b' => ?_, fun b1 b2 d o1 s1 o2 s2 h1 h2 => ?_, fun b1 d o1 s1 h1 => ?_⟩ (fun d x _ hx => hold d x hx) (fun d hd => ?_) hgrow hos rfl rfl rfl rfl
  (fun b' hb' => ?_) (by rw [List.length_append]; exact Nat.le_trans hm.kl (Nat.le_add_right _ _)) (fun l r hl => ?_), hL, hι⟩
 ·rw [nth_append_new]
  by_cases e : b' = h.length
  ·rw [if_pos e]; subst e; rw [Inj.upd_self]; exact hrb hL hι
  ·rw [if_neg e, Inj.upd_ne _ _ e]
   refine (hm.hr.blk b').later hL (fun h => h) hι fun d o' s' hd => ?_
   obtain ⟨ob, h1, _⟩ := hm.hr.size hd
   rw [h1, hold _ _ h1]
 ·have hlt : ∀ b' d o' s', ι b' = some (d, o', s') → d ≠ c := fun b' d o' s' h3 e => by
   have := hm.hr.lt ⟨b', o', s', h3⟩; omega
  by_cases e1 : b1 = h.length
  ·subst e1
   rw [Inj.upd_self] at h1; cases h1
   by_cases e2 : b2 = h.length
   ·exact e2.symm
   ·rw [Inj.upd_ne _ _ e2] at h2; exact absurd rfl (hlt _ _ _ _ h2)
  ·rw [Inj.upd_ne _ _ e1] at h1
   by_cases e2 : b2 = h.length
   ·subst e2; rw [Inj.upd_self] at h2; cases h2; exact absurd rfl (hlt _ _ _ _ h1)
   ·rw [Inj.upd_ne _ _ e2] at h2; exact hm.hr.inj _ _ _ _ _ _ _ h1 h2
 ·by_cases e1 : b1 = h.length
  ·subst e1
   rw [Inj.upd_self] at h1; cases h1
   intro hX; have := hm.xl _ hX; omega
  ·rw [Inj.upd_ne _ _ e1] at h1
   exact hm.hr.dis _ _ _ _ h1
 ·rcases hM' d hd with rfl | h1
  ·exact .inr hc
  ·exact .inl h1
 ·rw [Inj.upd_ne]
  intro e; subst e; have := cx.fk _ hb'; have := hm.kl; omega
 ·rw [nth_append_new] at hl
  split at hl
  ·exact absurd hl (hgb l r)
  ·exact hl
theorem Mem.same (hm : Mem cx ι h w) {w' : World} (hh : w'.heap = w.heap) (hos : w'.os = w.os ∧ w'.output = w.output) : Mem cx ι h w' := by
 have hL : Later ι.M w w' ι.M := ⟨fun c o _ hc => by rw [hh]; exact hc, fun c hc => .inl hc, by rw [hh]; exact Nat.le_refl _⟩
 exact hm.step ⟨hm.hr.gl.later hL, fun b => (hm.hr.blk b).later hL (fun h => h) (fun _ _ h => h) fun c o s _ => by rw [hh], hm.hr.inj, hm.hr.dis⟩ (fun c o _ hc => by rw [hh]; exact hc) (fun c hc => .inl hc)
  (by rw [hh]; exact Nat.le_refl _) hos rfl rfl rfl rfl (fun _ _ => rfl) hm.kl (fun _ _ h => h)
end
theorem tm_later {w w' : World} {ι ι' : Inj} {t : List (Nat × AV)} {a : Act} (hL : Later ι.M w w' ι'.M) (hι : ∀ b p, ι b = some p → ι' b = some p)
 (h : ∀ s, RA w ι (lk t s) (a.tmps.getD s undef)) : ∀ s, RA w' ι' (lk t s) (a.tmps.getD s undef) := fun s => (h s).later hL hι
theorem tm_kill {w w' : World} {ι ι' : Inj} {t : List (Nat × AV)} {a : Act} {b : Nat} (hL : Later ι.M w w' ι'.M) (hι : ∀ b', b' ≠ b → ∀ p, ι b' = some p → ι' b' = some p)
 (h : ∀ s, RA w ι (lk t s) (a.tmps.getD s undef)) : ∀ s, RA w' ι' (lk (killT b t) s) (a.tmps.getD s undef) := fun s => by
 rw [lk_kill]; exact (h s).kill hL hι
end Hk
namespace Hk
open Go
set_option linter.unusedVariables false
set_option linter.unusedSimpArgs false
section
variable {cx : Cx} {ι : Inj} {st : St} {a : Act} {w : World}
def After (cx : Cx) (q : Bool) (w : World) (k : St → Prop) (a' : Act) (w' : World) : Prop := Kc cx k a' w' ∧ (q = true → Ext w w')
theorem wp_value {P : Program} {o : Oper} {K : Act → World → Prop} {Q : Exit → Act → World → Prop} {v : Value} {w' : World}
 (h : (execOp a.eval o).run P w = .ok (.value v) w') (hk : K (a.put o.dst v) w') : o.wp P a w K Q := by
 unfold Oper.wp; rw [h]; exact hk
theorem wp_skip' {P : Program} {o : Oper} {K : Act → World → Prop} {Q : Exit → Act → World → Prop} {w' : World}
 (h : (execOp a.eval o).run P w = .ok .skip w') (hk : K (a.put o.dst undef) w') : o.wp P a w K Q := by
 unfold Oper.wp; rw [h]; exact hk
theorem killH_setNth_len (b : Nat) (h : List Blk) (x : Blk) : (setNth (killH b h) b x).length = h.length := by
 rw [setNth_eq]; simp [killH_len]
theorem CellsFor.blk {cells : List AV} {cs : Array Value} (h : CellsFor w ι cells cs) : BlkAt w ι cs 0 (.mx cells) := by
 refine ⟨by have := h.1; omega, fun j x hx => ?_⟩
 obtain ⟨h1, h2⟩ := h.2 j x hx
 have hlt : j < cs.size := by rw [h.1]; exact (List.getElem?_eq_some_iff.1 hx).1
 refine ⟨cs[j], by simp [hlt], ?_, ?_⟩
 ·simpa [hlt] using h1
 ·simpa [hlt] using h2
theorem CellsFor.row {ps : List PV} {cs : Array Value} (h : CellsFor w ι (ps.map .p) cs) : BlkAt w ι cs 0 (.pr ps.length [ps]) := by
 refine ⟨by have := h.1; simp at this ⊢; omega, fun i row hi => ?_, fun i row j x hi hx => ?_⟩
 ·cases i <;> simp at hi
  subst hi; rfl
 ·cases i <;> simp at hi
  subst hi
  have hx' : (ps.map AV.p)[j]? = some (.p x) := by simp [hx]
  obtain ⟨h1, h2⟩ := h.2 j _ hx'
  have hlt : j < cs.size := by rw [h.1]; exact (List.getElem?_eq_some_iff.1 hx').1
  have hr := RA_p h2
  exact ⟨hr.one_of h1, cs.getD j undef, by simp [hlt], hr⟩
theorem lay_sound (hr : Rel cx ι st a w) {d : Option Nat} (hd : ∀ t, d = some t → cx.okb t = true) {cs : Array Value} {ty : TypeId} {blk : Blk} {wd : Nat} {k : St → Prop} {q : Bool}
 (hb : BlkAt w ι cs 0 blk) (hk : k (newSt st d (.ptr st.heap.length wd 0 0) blk)) :
 After cx q w k (a.put d (.pointer (some ⟨w.heap.size, 0, none⟩))) (pushW w (.cells cs ty)) := by
 have hpush : (pushW w (.cells cs ty)).heap[w.heap.size]? = some (.cells cs ty (0, 0)) := pushW_new _ _
 have hthaw : Thaw cs.size (0, 0) := fun o _ h => by omega
 obtain ⟨hm, hL, hι⟩ := hr.mem.lay (w' := pushW w (.cells cs ty)) (c := w.heap.size) (o := 0) (s := cs.size) (blk := blk) (Nat.le_refl _) (pushW_old w _) ⟨rfl, rfl⟩
  (fun hL hι => (hb.later hL hι).rb hpush hthaw) (fun l r e => by subst e; exact hb)
 refine ⟨⟨_, _, ⟨?_, tm_put (st := ⟨st.tmps, st.heap ++ [blk]⟩) (tm_later hL hι hr.tm) hr.sz.1 (fun t ht => cx.okn t (hd t ht)) ?_, Sz.put hr.sz hd _, by rw [Act.put_df]; exact hr.df⟩, hk⟩, fun _ => pushW_old w _⟩
 ·rw [put_heap]; exact hm
 ·have := RA.ptr (w := pushW w (.cells cs ty)) (ι := ι.upd st.heap.length (some (w.heap.size, 0, cs.size))) (wd := wd) (i := 0) (j := 0) (Inj.upd_self _ _ _)
  simpa using this
theorem alloc_sound (hr : Rel cx ι st a w) {o : Oper} {e : TypeId} {z : List PV} {arr : Bool} (ho : o.op = .alloc e) (hz : zeroT cx.P e = some z) (hd : ∀ t, o.dst = some t → cx.okb t = true)
 {q : Bool} {k : St → Prop} (h : vro cx.E q (.alloc arr z) o.dst st k) {Q : Exit → Act → World → Prop} : o.wp cx.P a w (After cx q w k) Q := by
 obtain ⟨i, v, hi, hzv, hcf, hzr, hzs⟩ := zeroT_sound (w := w) (ι := ι) hz
 have hrun : (execOp a.eval o).run cx.P w = .ok (.value (.pointer (some ⟨w.heap.size, 0, none⟩))) (pushW w (.cells v.cells e)) := by
  simp [execOp, ho, Instr.alloc, run_zeroValue hi hzv, newVar, newRow]
  rfl
 refine wp_value hrun (lay_sound hr hd ?_ h)
 cases arr with
 | true => exact hcf.row
 | false => exact hcf.blk
theorem allocx_sound (hr : Rel cx ι st a w) {o : Oper} {e : TypeId} {z rest : List PV} {n : Nat} {z0 : PV} (ho : o.op = .alloc e) (hz : zeroT cx.P e = some z) (hn : n ≤ z.length) (hall : (z.take n).all (eqPV z0) = true) (hrest : z.drop n = rest) (hd : ∀ t, o.dst = some t → cx.okb t = true)
 {q : Bool} {k : St → Prop} (h : vro cx.E q (.allocx n z0 rest) o.dst st k) {Q : Exit → Act → World → Prop} : o.wp cx.P a w (After cx q w k) Q := by
 obtain ⟨i, v, hi, hzv, hcf, hzr, hzs⟩ := zeroT_sound (w := w) (ι := ι) hz
 have hrun : (execOp a.eval o).run cx.P w = .ok (.value (.pointer (some ⟨w.heap.size, 0, none⟩))) (pushW w (.cells v.cells e)) := by
  simp [execOp, ho, Instr.alloc, run_zeroValue hi hzv, newVar, newRow]
  rfl
 refine wp_value hrun (lay_sound hr hd ?_ h)
 have e1 : List.replicate n z0 = z.take n := by
  symm
  rw [List.eq_replicate_iff]
  refine ⟨by simp; omega, fun x hx => ?_⟩
  exact (eqPV_eq (List.all_eq_true.1 hall x hx)).symm
 have e2 : (List.replicate n z0).map AV.p ++ rest.map AV.p = z.map AV.p := by
  rw [e1, ← hrest, ← List.map_append, List.take_append_drop]
 have hb := hcf.blk
 refine ⟨by simp, ?_⟩
 rw [e2]
 exact hb
theorem allP_p : ∀ l : List PV, allP (l.map .p) = some l
 | [] => rfl
 | x :: r => by simp [allP, allP_p r]
theorem aggPL_of {x : AV} {k : List PV → Prop} (h : aggPL x k) : allPL (cellsOf x) k := by
 unfold aggPL at h
 split at h
 ·rename_i l; unfold allPL; simp [cellsOf, allP_p, h]
 ·exact h
theorem boxx_sound (hr : Rel cx ι st a w) {o : Oper} {e : TypeId} {x : Operand} {x' : Opd} {n sz : Nat} (ho : o.op = .box e x) (hx : cOpd x = some x') (hd : ∀ t, o.dst = some t → cx.okb t = true)
 {q : Bool} {k : St → Prop} (h : vro cx.E q (.boxx n x' sz) o.dst st k) {Q : Exit → Act → World → Prop} : o.wp cx.P a w (After cx q w k) Q := by
 have hv := ev_sound hr.mem.hr.gl hr.tm hx
 have hrun : (execOp a.eval o).run cx.P w = .ok (.value (.pointer (some ⟨w.heap.size, 0, none⟩))) (pushW w (.cells (a.eval x).cells e)) := by
  simp [execOp, ho, Instr.box, newVar, newRow]
  rfl
 obtain ⟨arr, rest, hc, ⟨hok, hn, hsz⟩, h⟩ := h
 have hcf : CellsFor w ι (cellsOf (ev st x')) (a.eval x).cells := cells_sound hok hv
 have hb := hcf.blk
 rw [hc] at hb
 exact wp_value hrun (lay_sound (blk := .ax n arr rest) hr hd ⟨hn, hb⟩ h)
theorem box_sound (hr : Rel cx ι st a w) {o : Oper} {e : TypeId} {x : Operand} {x' : Opd} {sz : Nat} {arr : Bool} (ho : o.op = .box e x) (hx : cOpd x = some x') (hd : ∀ t, o.dst = some t → cx.okb t = true)
 {q : Bool} {k : St → Prop} (h : vro cx.E q (.box arr x' sz) o.dst st k) {Q : Exit → Act → World → Prop} : o.wp cx.P a w (After cx q w k) Q := by
 have hv := ev_sound hr.mem.hr.gl hr.tm hx
 have hrun : (execOp a.eval o).run cx.P w = .ok (.value (.pointer (some ⟨w.heap.size, 0, none⟩))) (pushW w (.cells (a.eval x).cells e)) := by
  simp [execOp, ho, Instr.box, newVar, newRow]
  rfl
 have h : vbox arr sz o.dst st (ev st x') k := force_of (k := fun v => vbox arr sz o.dst st v k) h
 unfold vbox at h
 cases arr with
 | true =>
   have h := aggPL_of h
   simp only [allPL] at h
   split at h
   ·rename_i ps hp
    obtain ⟨hsz, h⟩ := h
    have hok : vok (ev st x') = true := by
     generalize ev st x' = y at hp
     cases y <;> first | rfl | (simp [cellsOf, allP] at hp)
    have hcf : CellsFor w ι (cellsOf (ev st x')) (a.eval x).cells := cells_sound hok hv
    rw [allP_eq hp] at hcf
    subst hsz
    exact wp_value hrun (lay_sound hr hd hcf.row h)
   ·exact h.elim
 | false =>
   simp only at h
   cases hb : (vok (ev st x') && Nat.beq (cellsOf (ev st x')).length sz) with
   | false => rw [hb] at h; exact h.elim
   | true =>
     rw [hb] at h
     simp only [Bool.and_eq_true] at hb
     have hcf : CellsFor w ι (cellsOf (ev st x')) (a.eval x).cells := cells_sound hb.1 hv
     exact wp_value hrun (lay_sound hr hd hcf.blk h)
theorem run_storeCells {P : Program} (c o : Nat) (ty : TypeId) (fz : Nat × Nat) : ∀ (vs : List Value) (i : Nat) (cur : Array Value) (w : World), w.heap[c]? = some (.cells cur ty fz) →
 o + i + vs.length ≤ cur.size → Thaw cur.size fz → (∀ v ∈ vs, oneC v = true) →
 (storeCells ⟨c, o, none⟩ vs i).run P w = .ok () (setW w c (.cells (cur.toList.take (o + i) ++ vs ++ cur.toList.drop (o + i + vs.length)).toArray ty fz))
 | [], i, cur, w, hg, _, _, _ => by
   simp only [storeCells, List.append_nil, List.length_nil, Nat.add_zero, List.take_append_drop, Array.toArray_toList, setW]
   show Result.ok () w = _
   congr 1
   have : w.heap.setIfInBounds c (.cells cur ty fz) = w.heap := by
    apply Array.ext_getElem?
    intro j
    by_cases e : c = j
    ·subst e
     have hlt := (Array.getElem?_eq_some_iff.1 hg).1
     simp [hlt, hg]
     exact (Array.getElem?_eq_some_iff.1 hg).2.symm
    ·rw [Array.getElem?_setIfInBounds_ne e]
   rw [this]
 | v :: rest, i, cur, w, hg, hl, ht, h1 => by
   have hlt := (Array.getElem?_eq_some_iff.1 hg).1
   have hi : o + i < cur.size := by simp at hl; omega
   have hcell : w.cell? ⟨c, o + i, none⟩ = some cur[o + i] := by simp [World.cell?, hg, hi]
   have hfro : w.frozen? ⟨c, o + i, none⟩ = false := by
    simp only [World.frozen?, hg]
    have := ht (o + i) hi
    simp only [not_and, Nat.not_lt] at this
    simp only [Bool.and_eq_false_iff, decide_eq_false_iff_not, Nat.not_le, Nat.not_lt]
    by_cases h0 : fz.1 ≤ o + i
    ·exact .inr (this h0)
    ·exact .inl (by omega)
   have hset : w.setCell ⟨c, o + i, none⟩ v = setW w c (.cells (cur.setIfInBounds (o + i) v) ty fz) := by
    simp only [World.setCell, setW]
    congr 1
    apply Array.ext_getElem?
    intro j
    rw [Array.getElem?_modify]
    by_cases e : c = j
    ·subst e
     have e1 := (Array.getElem?_eq_some_iff.1 hg).2
     simp [hlt, e1]
    ·rw [Array.getElem?_setIfInBounds_ne e]; simp [e]
   have hst : (store ((⟨c, o, none⟩ : Addr).add i) v).run P w = .ok () (setW w c (.cells (cur.setIfInBounds (o + i) v) ty fz)) := by
    rw [add_none, run_store P w _ v _ (h1 v (by simp)), hcell]
    simp [hfro, hset]
   have ih := run_storeCells (P := P) c o ty fz rest (i + 1) (cur.setIfInBounds (o + i) v) (setW w c (.cells (cur.setIfInBounds (o + i) v) ty fz)) (setW_self _ _ _ hlt)
    (by simp at hl ⊢; omega) (by simpa using ht) (fun x hx => h1 x (by simp [hx]))
   simp only [storeCells, Sem.run_bind, hst, Result.andThen_ok, ih]
   congr 1
   simp only [setW, Array.setIfInBounds_setIfInBounds]
   congr 3
   have e := list_seg_step cur.toList (o + i) v rest (by simp at hl ⊢; omega)
   simpa [Array.toList_setIfInBounds, Nat.add_assoc] using e
end
end Hk
namespace Hk
open Go
set_option linter.unusedVariables false
set_option linter.unusedSimpArgs false
structure Frz (ι ι' : Inj) (h' : List Blk) : Prop where
 old : ∀ b p, ι b = some p → ι' b = some p ∨ nth .dead h' b = .dead
 less : ∀ c, ι'.M c → ι.M c
theorem Frz.refl (ι : Inj) (h : List Blk) : Frz ι ι h := ⟨fun _ _ h => .inl h, fun _ h => h⟩
theorem Frz.later {ι ι' : Inj} {h' : List Blk} (hf : Frz ι ι' h') (w : World) : Later ι.M w w ι'.M := ⟨fun _ _ _ h => h, fun c h => .inl (hf.less c h), Nat.le_refl _⟩
section
variable {cx : Cx} {ι ι0 : Inj} {st : St} {a : Act} {w : World}
theorem vpure_sound (hr : Rel cx ι st a w) (hf : Frz ι0 ι st.heap) {x : AV} {v : Value} (hx : RA w ι0 x v) {k : St → PV → Prop} (h : vpure cx.E st x k) :
 ∃ ι' st' y, k st' y ∧ Rel cx ι' st' a w ∧ RP w ι'.M y v ∧ Frz ι0 ι' st'.heap ∧ Later ι.M w w ι'.M := by
 unfold vpure at h
 split at h
 ·rename_i y
  exact ⟨ι, st, y, forceP_of (k := fun x => k st x) h, hr, (RA_p hx).later (hf.later w), hf, Later.refl _ _⟩
 ·rename_i b wd i len cap
  split at h
  ·rename_i wd' rows hn
   cases hw : (Nat.beq wd wd' && !cx.E.fx b) with
   | false => rw [hw] at h; exact h.elim
   | true =>
     rw [hw] at h
     obtain ⟨hw, hfx⟩ := by simpa using hw
     subst hw
     obtain ⟨rs, hrs, hlen, hk⟩ := h
     have hb : b < st.heap.length := hr.mem.hr.blen (by rw [hn]; simp)
     obtain ⟨hm, hL⟩ := hr.mem.turn (w' := w) hb hfx (p := none) (blk := .dead) (c := w.heap.size) (.inr (Nat.le_refl _)) (by simp) (fun _ _ _ h => h) (Nat.le_refl _) ⟨rfl, rfl⟩ (fun _ => rfl)
     have hι : ∀ b', b' ≠ b → ∀ q, ι b' = some q → (ι.upd b none) b' = some q := fun b' e q hq => by rw [Inj.upd_ne _ _ e]; exact hq
     refine ⟨ι.upd b none, _, _, hk, ⟨hm, tm_kill hL hι hr.tm, hr.sz, hr.df⟩, ?_, ⟨fun b' p hp => ?_, fun c hc => ?_⟩, hL⟩
     ·rw [dropN_eq] at hrs
      cases hx with
      | sl hb0 hl hcap hs' =>
        rename_i c o s cc
        have hbι : ι b = some (c, o, s) := by
         rcases hf.old _ _ hb0 with h1 | h1
         ·exact h1
         ·rw [hn] at h1; cases h1
        rw [← hlen]
        refine RP_isl_mk (ad := ⟨c, o + i * wd, none⟩) rfl ?_ ?_ (by omega) (by simp) fun n row hi => ?_
        ·rintro (⟨b', o', s', hb'⟩ | hX)
         rotate_left
         ·exact hr.mem.hr.dis _ _ _ _ hbι hX
         by_cases e : b' = b
         ·subst e; rw [Inj.upd_self] at hb'; cases hb'
         ·rw [Inj.upd_ne _ _ e] at hb'
          exact e (hr.mem.hr.inj _ _ _ _ _ _ _ hb' hbι)
        ·exact hr.mem.hr.lt ⟨b, o, s, hbι⟩
        ·have hi' : rows[i + n]? = some row := by
          have : ((rows.drop i).take len)[n]? = some row := by rw [hrs]; exact hi
          rw [List.getElem?_take] at this
          split at this
          ·rwa [List.getElem?_drop] at this
          ·cases this
         obtain ⟨h1, h2⟩ := hr.mem.hr.row hbι hn hi'
         refine ⟨h1, fun j x hx => ?_⟩
         obtain ⟨h3, v, h4, h5⟩ := h2 j x hx
         exact ⟨h3, v, by rw [← h4]; congr 2; simp [Nat.add_mul, Nat.add_assoc], h5.later hL⟩
      | slz hcap =>
        have : rs = [] := List.eq_nil_of_length_eq_zero hlen
        subst this
        exact .nil (by simp)
     ·by_cases e : b' = b
      ·right
       subst e
       rw [nth_setNth _ _ _ _ _ (by rw [killH_len]; exact hb), if_pos rfl]
      ·rcases hf.old _ _ hp with h1 | h1
       ·left; rw [Inj.upd_ne _ _ e]; exact h1
       ·right
        rw [nth_setNth _ _ _ _ _ (by rw [killH_len]; exact hb), if_neg e, killH_nth, h1]
        rfl
     ·rcases hL.new c hc with h1 | h1
      ·exact hf.less c h1
      ·rcases hc with hc | hc
       ·have := hm.hr.lt hc; omega
       ·exact hf.less c (.inr hc)
  ·exact h.elim
 ·exact h.elim
theorem vpureL_sound {val : Nat → Value} : ∀ (xs : List AV) (n : Nat) {ι : Inj} {st : St} (hr : Rel cx ι st a w) (hf : Frz ι0 ι st.heap)
 (hx : ∀ (i : Nat) x, xs[i]? = some x → RA w ι0 x (val (n + i))) {k : St → List PV → Prop} (h : vpureL cx.E st xs k),
 ∃ ι' st' ys, k st' ys ∧ Rel cx ι' st' a w ∧ ys.length = xs.length ∧ (∀ (i : Nat) y, ys[i]? = some y → RP w ι'.M y (val (n + i))) ∧ Frz ι0 ι' st'.heap ∧ Later ι.M w w ι'.M
 | [], n, ι, st, hr, hf, hx, k, h => ⟨ι, st, [], h, hr, rfl, by simp, hf, Later.refl _ _⟩
 | x :: r, n, ι, st, hr, hf, hx, k, h => by
   obtain ⟨ι1, st1, y, h1, hr1, hp1, hf1, hL1⟩ := vpure_sound hr hf (hx 0 x rfl) h
   obtain ⟨ι2, st2, ys, h2, hr2, hl2, hp2, hf2, hL2⟩ := vpureL_sound r (n + 1) hr1 hf1 (fun i x hi => by
    have := hx (i + 1) x (by simpa using hi)
    rw [Nat.add_assoc, Nat.add_comm 1 i]; exact this) h1
   refine ⟨ι2, st2, y :: ys, h2, hr2, by simp [hl2], fun i z hz => ?_, hf2, ⟨fun _ _ _ h => h, fun c hc => ?_, Nat.le_refl _⟩⟩
   ·cases i with
    | zero => simp at hz; subst hz; exact hp1.later hL2
    | succ i =>
      have := hp2 i z (by simpa using hz)
      rw [Nat.add_assoc, Nat.add_comm 1 i] at this; exact this
   ·rcases hL2.new c hc with h3 | h3
    ·exact hL1.new c h3
    ·exact .inr h3
theorem seg_get {α : Type} (l : List α) (k : Nat) (vs : List α) (hk : k + vs.length ≤ l.length) (n : Nat) :
 (l.take k ++ vs ++ l.drop (k + vs.length))[n]? = if k ≤ n ∧ n < k + vs.length then vs[n - k]? else l[n]? := by
 rw [List.append_assoc]
 by_cases h1 : n < k
 ·rw [if_neg (by omega), List.getElem?_append_left (by simp; omega), List.getElem?_take_of_lt h1]
 ·rw [List.getElem?_append_right (by simp; omega)]
  simp only [List.length_take, Nat.min_eq_left (show k ≤ l.length by omega)]
  by_cases h2 : n < k + vs.length
  ·rw [if_pos (by omega), List.getElem?_append_left (by omega)]
  ·rw [if_neg (by omega), List.getElem?_append_right (by omega), List.getElem?_drop]
   congr 1; omega
theorem seg_len {α : Type} (l : List α) (k : Nat) (vs : List α) (hk : k + vs.length ≤ l.length) : (l.take k ++ vs ++ l.drop (k + vs.length)).length = l.length := by
 simp; omega
theorem vpureL_p {E : En} {st : St} : ∀ (l : List PV) {k : St → List PV → Prop}, k st l → vpureL E st (l.map .p) k
 | [], k, h => h
 | x :: r, k, h => by
   have : vpureL E st (r.map .p) (fun st ys => k st (x :: ys)) := vpureL_p r h
   cases x <;> exact this
theorem vagg_of {E : En} {st : St} {x : AV} {k : St → List PV → Prop} (h : vagg E st x k) : vpureL E st (cellsOf x) k := by
 unfold vagg at h
 split at h
 ·rename_i l; exact vpureL_p l h
 ·exact h
def segA (cs : Array Value) (k : Nat) (vs : List Value) : Array Value := (cs.toList.take k ++ vs ++ cs.toList.drop (k + vs.length)).toArray
theorem segA_get (cs : Array Value) (k : Nat) (vs : List Value) (hk : k + vs.length ≤ cs.size) (n : Nat) : (segA cs k vs)[n]? = if k ≤ n ∧ n < k + vs.length then vs[n - k]? else cs[n]? := by
 unfold segA
 rw [List.getElem?_toArray, seg_get _ _ _ (by simpa using hk)]
 simp
theorem segA_size (cs : Array Value) (k : Nat) (vs : List Value) (hk : k + vs.length ≤ cs.size) : (segA cs k vs).size = cs.size := by
 unfold segA
 rw [List.size_toArray, seg_len _ _ _ (by simpa using hk)]
 simp
theorem storeAt_sound0 (hr : Rel cx ι st a w) {o : Oper} {t : TypeId} {x v : Operand} {ax av : AV} {sz : Nat} (ho : o.op = .store t x v) (hxv : RA w ι ax (a.eval x)) (hvv : RA w ι av (a.eval v))
 (hs : szT cx.P t = some sz) (hd : ∀ t, o.dst = some t → cx.okb t = true) {k : St → Prop} (h : vstore0 cx.E st ax av sz (fun st => k (st.put o.dst .undef)))
 {Q : Exit → Act → World → Prop} : o.wp cx.P a w (Kc cx k) Q := by
 generalize hav : a.eval x = vx at hxv
 generalize hvvv : a.eval v = vv at hvv
 have run : ∀ (c off : Nat) (cs : Array Value) (ty : TypeId) (fz : Nat × Nat), vx = .pointer (some ⟨c, off, none⟩) → w.heap[c]? = some (.cells cs ty fz) → Thaw cs.size fz → vv.cells.size = sz → off + sz ≤ cs.size →
  (∀ v ∈ vv.cells.toList, oneC v = true) → (execOp a.eval o).run cx.P w = .ok .skip (setW w c (.cells (segA cs off vv.cells.toList) ty fz)) := by
  intro c off cs ty fz hvx hc ht hsz hoff hone
  have h1 := run_storeCells (P := cx.P) c off ty fz vv.cells.toList 0 cs w hc (by simp; omega) ht hone
  simp only [Nat.add_zero] at h1
  simp only [execOp, ho, hav, hvvv, hvx, Instr.storeAt, Instr.sureAddr, Sem.run_bind, Sem.run_pure, Result.andThen_ok, storeVar, run_sizeOf hs, hsz, ne_eq, not_true_eq_false, if_false, h1]
  rfl
 unfold vstore0 at h
 split at h
 ·rename_i b wd i j
  cases hxv
  rename_i c o' s hb
  split at h
  ·rename_i cells hn
   split at h
   ·
    cases hb2 : (vok av && Nat.beq (cellsOf av).length sz && Nat.ble (j + sz) cells.length) with
    | false => rw [hb2] at h; exact h.elim
    | true =>
      rw [hb2] at h
      simp only [cond_true, forceSt_eq] at h
      simp only [Bool.and_eq_true] at hb2
      obtain ⟨⟨hok, e1⟩, e2⟩ := hb2
      have e1 := Nat.eq_of_beq_eq_true e1
      have e2 := Nat.le_of_ble_eq_true e2
      obtain ⟨hcs, hcv⟩ := cells_sound hok hvv
      have hrb := hr.mem.hr.blk b
      rw [hn, hb] at hrb
      obtain ⟨cs, ty, fz, hc, ht, hsz, hlen, hcell⟩ := hrb.at
      simp only [Nat.zero_mul, Nat.zero_add] at *
      have hvl : vv.cells.toList.length = sz := by simp; omega
      have hbound : o' + j + vv.cells.toList.length ≤ cs.size := by omega
      have hrun := run c (o' + j) cs ty fz rfl hc ht (by omega) (by omega) (fun z hz => by
       obtain ⟨n, hn', rfl⟩ := List.getElem_of_mem hz
       have := (hcv n _ (List.getElem?_eq_getElem (by simp at hn'; omega))).1
       simpa [show n < vv.cells.size by simpa using hn'] using this)
      obtain ⟨hm, hL⟩ := hr.mem.write hb (w' := setW w c (.cells (segA cs (o' + j) vv.cells.toList) ty fz))
       (blk := .mx (cells.take j ++ cellsOf av ++ cells.drop (j + sz)))
       (fun d z hd hz => by rw [setW_ne _ _ hd]; exact hz) (by simp [setW]) ⟨rfl, rfl⟩ (fun hL => by
        have hb3 : BlkAt w ι (segA cs (o' + j) vv.cells.toList) o' (.mx (cells.take j ++ cellsOf av ++ cells.drop (j + sz))) := by
         rw [← e1]
         refine ⟨by rw [segA_size _ _ _ hbound, seg_len _ _ _ (by omega)]; exact hlen, fun n z hz => ?_⟩
         rw [seg_get _ _ _ (by omega)] at hz
         rw [segA_get _ _ _ hbound]
         split at hz
         ·rename_i hin
          rw [if_pos (by omega)]
          obtain ⟨g1, g2⟩ := hcv _ _ hz
          have hlt : n - j < vv.cells.size := by omega
          refine ⟨vv.cells[n - j], ?_, ?_, ?_⟩
          ·rw [show o' + n - (o' + j) = n - j by omega]; simp [hlt]
          ·simpa [hlt] using g1
          ·simpa [hlt] using g2
         ·rename_i hin
          rw [if_neg (by omega)]
          exact hcell n z hz
        have := (hb3.later hL (fun _ _ h => h)).rb (ty := ty) (fz := fz) (setW_self w c _ (Array.getElem?_eq_some_iff.1 hc).1) (by rw [segA_size _ _ _ hbound]; exact ht)
        rw [segA_size _ _ _ hbound, hsz] at this
        exact this)
      exact wp_skip' hrun ⟨ι, _, Rel.put (st := ⟨st.tmps, setNth st.heap b (.mx (cells.take j ++ cellsOf av ++ cells.drop (j + sz)))⟩) ⟨hm, tm_later hL (fun _ _ h => h) hr.tm, hr.sz, hr.df⟩ hd (.und _), h⟩
   ·exact h.elim
  ·
   cases hok : vok av with
   | false => rw [hok] at h; exact h.elim
   | true =>
     rw [hok] at h
     simp only [cond_true] at h
     obtain ⟨hcs, hcv⟩ := cells_sound hok hvv
     have h := vagg_of h
     obtain ⟨ι', st', ys, h, hr', hly, hpy, hf, hL'⟩ := vpureL_sound (val := fun i => vv.cells.getD i undef) (cellsOf av) 0 hr (Frz.refl ι st.heap) (fun i x hx => by simpa using (hcv i x hx).2) h
     split at h
     ·rename_i wd' rows hn'
      cases hw : Nat.beq wd wd' with
      | false => rw [hw] at h; exact h.elim
      | true =>
        rw [hw] at h
        obtain rfl := Nat.eq_of_beq_eq_true hw
        obtain ⟨row, hrow, hys, hjs, h⟩ := h
        have hb' : ι' b = some (c, o', s) := by
         rcases hf.old _ _ hb with h1 | h1
         ·exact h1
         ·rw [hn'] at h1; cases h1
        have hrb := hr'.mem.hr.blk b
        rw [hn', hb'] at hrb
        obtain ⟨cs, ty, fz, hc, ht, hsz, hlen, hrl, hcell⟩ := hrb.at
        have hrw := hrl i row hrow
        have hilt : i < rows.length := (List.getElem?_eq_some_iff.1 hrow).1
        have himul : i * wd + wd ≤ rows.length * wd := by
         have := Nat.mul_le_mul_right wd (show i + 1 ≤ rows.length from hilt)
         rwa [Nat.add_mul, Nat.one_mul] at this
        have hvl : vv.cells.toList.length = sz := by simp; omega
        have hbound : o' + (i * wd + j) + vv.cells.toList.length ≤ cs.size := by omega
        have hrun := run c (o' + (i * wd + j)) cs ty fz rfl hc ht (by omega) (by omega) (fun z hz => by
         obtain ⟨n, hn', rfl⟩ := List.getElem_of_mem hz
         have := (hcv n _ (List.getElem?_eq_getElem (by simp at hn'; omega))).1
         simpa [show n < vv.cells.size by simpa using hn'] using this)
        have hrow' : (row.take j ++ ys ++ row.drop (j + sz)).length = wd := by
         rw [← hys, seg_len _ _ _ (by omega)]; exact hrw
        obtain ⟨hm, hL⟩ := hr'.mem.write hb' (w' := setW w c (.cells (segA cs (o' + (i * wd + j)) vv.cells.toList) ty fz))
         (blk := .pr wd (rows.set i (row.take j ++ ys ++ row.drop (j + sz))))
         (fun d z hd hz => by rw [setW_ne _ _ hd]; exact hz) (by simp [setW]) ⟨rfl, rfl⟩ (fun hL => by
          have hb3 : BlkAt w ι' (segA cs (o' + (i * wd + j)) vv.cells.toList) o' (.pr wd (rows.set i (row.take j ++ ys ++ row.drop (j + sz)))) := by
           refine ⟨by rw [segA_size _ _ _ hbound, List.length_set]; exact hlen, fun n r hr => ?_, fun n r m z hr hz => ?_⟩
           ·rw [List.getElem?_set] at hr
            split at hr
            ·cases hr; exact hrow'
            ·exact hrl n r hr
           ·rw [segA_get _ _ _ hbound]
            rw [List.getElem?_set] at hr
            split at hr
            ·rename_i e
             subst e
             cases hr
             ·rw [← hys, seg_get _ _ _ (by omega)] at hz
              split at hz
              ·rename_i hin
               rw [if_pos (by omega)]
               have hlt : m - j < vv.cells.size := by omega
               have g1 := hpy _ _ hz
               have g2 := (hcv (m - j) _ (List.getElem?_eq_getElem (by omega))).1
               simp only [Nat.zero_add] at g1
               refine ⟨g1.one_of g2, vv.cells.getD (m - j) undef, ?_, g1⟩
               rw [show o' + (i * wd + m) - (o' + (i * wd + j)) = m - j by omega]
               simp [hlt]
              ·rename_i hin
               rw [if_neg (by omega)]
               exact hcell i row m z hrow hz
            ·rename_i e
             have hmw : m < wd := by
              have := (List.getElem?_eq_some_iff.1 hz).1
              rw [hrl n r hr] at this; exact this
             rw [if_neg]
             ·exact hcell n r m z hr hz
             ·rintro ⟨q1, q2⟩
              rcases Nat.lt_or_gt_of_ne e with h4 | h4
              ·have := Nat.mul_le_mul_right wd (show i + 1 ≤ n from h4)
               rw [Nat.add_mul, Nat.one_mul] at this
               omega
              ·have := Nat.mul_le_mul_right wd (show n + 1 ≤ i from h4)
               rw [Nat.add_mul, Nat.one_mul] at this
               omega
          have := (hb3.later hL (fun _ _ h => h)).rb (ty := ty) (fz := fz) (setW_self w c _ (Array.getElem?_eq_some_iff.1 hc).1) (by rw [segA_size _ _ _ hbound]; exact ht)
          rw [segA_size _ _ _ hbound, hsz] at this
          exact this)
        exact wp_skip' hrun ⟨ι', _, Rel.put (st := ⟨st'.tmps, setNth st'.heap b (.pr wd (rows.set i (row.take j ++ ys ++ row.drop (j + sz))))⟩) ⟨hm, tm_later hL (fun _ _ h => h) hr'.tm, hr'.sz, hr'.df⟩ hd (.und _), h⟩
     ·exact h.elim
  ·exact h.elim
 ·exact h.elim
theorem setNth_setNth {α : Type} (l : List α) (n : Nat) (x y : α) : setNth (setNth l n x) n y = setNth l n y := by
 simp only [setNth_eq]; exact List.set_set ..
theorem Mem.toMx {h : List Blk} (hm : Mem cx ι h w) {b n : Nat} {arr : List PV} {cells : List AV} (hn : nth .dead h b = .ax n arr cells) : Mem cx ι (setNth h b (.mx (arr.map AV.p ++ cells))) w := by
 have hlt : b < h.length := hm.hr.blen (by rw [hn]; simp)
 refine hm.step ⟨hm.hr.gl, fun b' => ?_, hm.hr.inj, hm.hr.dis⟩ (fun _ _ _ h => h) (fun c h => .inl h) (Nat.le_refl _) ⟨rfl, rfl⟩ rfl rfl rfl rfl (fun _ _ => rfl) (by rw [setNth_eq]; simpa using hm.kl) (fun l r e => ?_)
 ·rw [nth_setNth _ _ _ _ _ hlt]
  have h0 := hm.hr.blk b'
  split
  ·rename_i e; subst e; rw [hn] at h0; exact h0.2
  ·exact h0
 ·rw [nth_setNth _ _ _ _ _ hlt] at e
  split at e
  ·cases e
  ·exact e
theorem Mem.toAx {h : List Blk} {b n : Nat} {arr : List PV} {cells : List AV} (hlt : b < h.length) (hm : Mem cx ι (setNth h b (.mx (arr.map AV.p ++ cells))) w) (hn : arr.length = n) : Mem cx ι (setNth h b (.ax n arr cells)) w := by
 have hl : ∀ x, (setNth h b x).length = h.length := fun x => by rw [setNth_eq, List.length_set]
 refine hm.step ⟨hm.hr.gl, fun b' => ?_, hm.hr.inj, hm.hr.dis⟩ (fun _ _ _ h => h) (fun c h => .inl h) (Nat.le_refl _) ⟨rfl, rfl⟩ rfl rfl rfl rfl (fun _ _ => rfl) (by rw [hl, ← hl (.mx (arr.map AV.p ++ cells))]; exact hm.kl) (fun l r e => ?_)
 ·rw [nth_setNth _ _ _ _ _ hlt]
  have h0 := hm.hr.blk b'
  rw [nth_setNth _ _ _ _ _ hlt] at h0
  split
  ·rename_i e; rw [if_pos e] at h0; exact ⟨hn, h0⟩
  ·rename_i e; rw [if_neg e] at h0; exact h0
 ·rw [nth_setNth _ _ _ _ _ hlt] at e ⊢
  split at e
  ·cases e
  ·rename_i hne; rw [if_neg hne]; exact e
theorem vaxs_cells {n : Nat} {arr : List PV} {cells : List AV} (hn : arr.length = n) {j sz : Nat} {v : AV} {k : List PV → List AV → Prop} (h : vaxs n arr cells j v sz k) :
 ∃ arr' cells', k arr' cells' ∧ arr'.length = n ∧ (vok v && Nat.beq (cellsOf v).length sz && Nat.ble (j + sz) (arr.map AV.p ++ cells).length) = true ∧
  (arr.map AV.p ++ cells).take j ++ cellsOf v ++ (arr.map AV.p ++ cells).drop (j + sz) = arr'.map AV.p ++ cells' := by
 subst hn
 have later : ∀ {k : List PV → List AV → Prop}, arr.length ≤ j → (bif vok v && Nat.beq (cellsOf v).length sz && Nat.ble (j - arr.length + sz) cells.length then k arr (cells.take (j - arr.length) ++ cellsOf v ++ cells.drop (j - arr.length + sz)) else False) →
  ∃ arr' cells', k arr' cells' ∧ arr'.length = arr.length ∧ (vok v && Nat.beq (cellsOf v).length sz && Nat.ble (j + sz) (arr.map AV.p ++ cells).length) = true ∧
  (arr.map AV.p ++ cells).take j ++ cellsOf v ++ (arr.map AV.p ++ cells).drop (j + sz) = arr'.map AV.p ++ cells' := by
  intro k hj h
  cases hc : (vok v && Nat.beq (cellsOf v).length sz && Nat.ble (j - arr.length + sz) cells.length) with
  | false => rw [hc] at h; exact h.elim
  | true =>
    rw [hc] at h
    simp only [Bool.and_eq_true] at hc
    have h2 := Nat.le_of_ble_eq_true hc.2
    refine ⟨arr, _, h, rfl, ?_, ?_⟩
    ·simp only [Bool.and_eq_true]
     exact ⟨hc.1, by simp only [Nat.ble_eq]; simp; omega⟩
    ·rw [List.take_append, List.drop_append, List.take_of_length_le (by simpa using hj), List.drop_eq_nil_of_le (by simp; omega), List.length_map]
     have : j + sz - arr.length = j - arr.length + sz := by omega
     rw [this]
     simp
 unfold vaxs at h
 cases h1 : Nat.beq sz 1 with
 | true =>
   rw [h1] at h
   obtain rfl := Nat.eq_of_beq_eq_true h1
   simp only [cond_true] at h
   rcases h with ⟨hj, y, hy, h⟩ | ⟨hj, h⟩
   ·have hok : vok v = true := by
     cases v <;> first | rfl | (simp [cellsOf] at hy)
    refine ⟨_, _, h, by simp, ?_, ?_⟩
    ·rw [hok, hy]
     simp only [Bool.true_and, List.length_singleton, Nat.beq_refl, Nat.ble_eq]
     simp; omega
    ·rw [hy, List.take_append_of_le_length (by simp; omega), List.drop_append_of_le_length (by simp; omega), List.set_eq_take_append_cons_drop, if_pos hj]
     simp
   ·exact later hj h
 | false =>
   rw [h1] at h
   simp only [cond_false] at h
   cases h2 : Nat.ble arr.length j with
   | true => rw [h2] at h; exact later (Nat.le_of_ble_eq_true h2) h
   | false =>
     rw [h2] at h
     obtain ⟨arr', rest, hc, ⟨hok, rfl, hl, hsz, hle⟩, h⟩ := h
     refine ⟨_, _, h, hl, ?_, ?_⟩
     ·rw [hok, hc]
      have : (arr'.map AV.p ++ rest).length = sz := by simp; omega
      rw [this]
      simp only [Bool.true_and, Nat.beq_refl, Nat.ble_eq]
      simp; omega
     ·rw [hc, List.take_zero, List.nil_append, Nat.zero_add, List.drop_append, List.drop_eq_nil_of_le (by simp; omega), List.length_map]
      have : sz - arr.length = rest.length := by omega
      rw [this]
      simp
theorem storeAt_sound (hr : Rel cx ι st a w) {o : Oper} {t : TypeId} {x v : Operand} {x' v' : Opd} {sz : Nat} (ho : o.op = .store t x v) (hx : cOpd x = some x') (hv : cOpd v = some v')
 (hs : szT cx.P t = some sz) (hd : ∀ t, o.dst = some t → cx.okb t = true) {k : St → Prop} (h : vro cx.E false (.store x' v' sz) o.dst st k)
 {Q : Exit → Act → World → Prop} : o.wp cx.P a w (Kc cx k) Q := by
 have hxv := ev_sound hr.mem.hr.gl hr.tm hx
 have hvv := ev_sound hr.mem.hr.gl hr.tm hv
 replace h : vstore cx.E st (ev st x') (ev st v') sz (fun st => k (st.put o.dst .undef)) := force_of (k := fun v => vstore cx.E st (ev st x') v sz (fun st => k (st.put o.dst .undef))) (force_of (k := fun a => force (ev st v') fun v => vstore cx.E st a v sz (fun st => k (st.put o.dst .undef))) h)
 generalize ev st x' = ax at h hxv
 generalize ev st v' = av at h hvv
 unfold vstore at h
 split at h
 ·rename_i b wd i j
  split at h
  ·rename_i n arr cells hn
   split at h
   ·have hlen : arr.length = n := by
     have := hr.mem.hr.blk b
     rw [hn] at this
     exact this.1
    have hlt : b < st.heap.length := hr.mem.hr.blen (by rw [hn]; simp)
    obtain ⟨arr', cells', hk, hl', hc, he⟩ := vaxs_cells hlen h
    have hm2 := hr.mem.toMx hn
    let st2 : St := ⟨st.tmps, setNth st.heap b (.mx (arr.map AV.p ++ cells))⟩
    have hr2 : Rel cx ι st2 a w := ⟨hm2, hr.tm, hr.sz, hr.df⟩
    let k2 : St → Prop := fun st'' => ∃ T, st'' = (⟨st.tmps, T⟩ : St).put o.dst .undef ∧ T = setNth st.heap b (.mx (arr'.map AV.p ++ cells'))
    have h2 : vstore0 cx.E st2 (.ptr b wd 0 j) av sz (fun st' => k2 (st'.put o.dst .undef)) := by
     unfold vstore0
     simp only [st2, nth_setNth _ _ _ _ _ hlt, if_true, hc, cond_true]
     rw [forceSt_eq, setNth_setNth, he]
     exact ⟨_, rfl, rfl⟩
    refine Oper.wp_mono ?_ (storeAt_sound0 (k := k2) hr2 ho hxv hvv hs hd h2)
    rintro a' w' ⟨ι', st', hr', T, rfl, rfl⟩
    refine ⟨ι', _, ?_, hk⟩
    have hm3 := hr'.mem
    rw [put_heap] at hm3
    refine ⟨by rw [put_heap]; exact Mem.toAx hlt hm3 hl', fun s => ?_, hr'.sz, hr'.df⟩
    have := hr'.tm s
    cases hd' : o.dst with
    | none => rw [hd'] at this; exact this
    | some d => rw [hd'] at this; exact this
   ·exact h.elim
  ·exact storeAt_sound0 hr ho hxv hvv hs hd h
 ·exact h.elim
end
end Hk
