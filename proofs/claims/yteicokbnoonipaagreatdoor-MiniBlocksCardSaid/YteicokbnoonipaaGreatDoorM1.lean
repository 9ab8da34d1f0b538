/- Texts of this claim, put together: Defs, Rel, Comp, Val, Val2, Val3, Val4, Val5, Mapv, Val6, Mem, Eff. -/
import Derived.OrdersHeld
import Derived.Laws.Cells
import Derived.Lib.Hide
import GoSem.Core.View
import GoSem.Dispatch
import Derived.Laws.World
import Derived.Laws.Strings
import Derived.Laws.Slices
import Derived.Laws.BytesString
import Derived.Laws.BytesArg
import Derived.Laws.StructEq
import Derived.MapKept
import Derived.Laws.Entries
import Derived.Laws.CopyRow
set_option linter.unusedSimpArgs false
set_option linter.unusedVariables false
namespace Hk
abbrev aaR:=@if_neg
abbrev aaS:=@if_pos
abbrev aaT:=@congrArg
abbrev aaU:=@List.getElem?_eq_getElem
abbrev aaV:=@Nat.le_refl
abbrev aaW:=@List.getElem?_eq_some_iff
abbrev aaX:=@Nat.zero_add
abbrev aaY:=@List.getElem?_map
abbrev aaZ:=@List.getD_eq_getElem?_getD
abbrev aa0:=@Option.map_eq_some_iff
abbrev aa1:=@Nat.zero_le
abbrev aa2:=@Bool.and_eq_true
abbrev aa3:=@List.length_map
abbrev aa4:=@List.getElem?_eq_none
abbrev aa5:=@List.mem_range
abbrev aa6:=@Nat.add_mul
abbrev aa7:=@List.length_append
abbrev aa8:=@Array.getElem?_eq_some_iff
abbrev aa9:=@Nat.add_assoc
abbrev aa_:=@List.mem_of_getElem?
abbrev abb:=@List.mem_cons
abbrev abd:=@List.getElem?_set
abbrev abe:=@List.mem_map
abbrev abf:=@List.eq_nil_of_length_eq_zero
abbrev abg:=@Nat.le_trans
abbrev abh:=@decide_eq_true
abbrev abi:=@List.take_length
abbrev abj:=@Nat.le_of_ble_eq_true
abbrev abk:=@decide_eq_true_eq
abbrev abl:=@List.all_eq_true
abbrev abm:=@List.getElem?_append_left
abbrev abn:=@decide_eq_false
abbrev abo:=@List.map_append
abbrev abp:=@List.length_set
abbrev abq:=@List.getElem?_append_right
abbrev abr:=@List.mem_append
abbrev abt:=@Nat.eq_of_beq_eq_true
abbrev abu:=@Array.getElem?_eq_getElem
abbrev abv:=@List.append_assoc
abbrev abw:=@List.ext_getElem?
abbrev abx:=@Ne.symm
abbrev aby:=@List.map_cons
abbrev abz:=@Nat.mul_le_mul_right
abbrev abA:=@if_false
abbrev abB:=@Bool.eq_iff_iff
abbrev abC:=@List.getElem?_range
abbrev abD:=@List.take_add_one
abbrev abE:=@List.mem_filter
abbrev abF:=@Array.ext'
abbrev abG:=@if_true
abbrev abH:=@beq_iff_eq
abbrev abI:=@List.getElem?_append
abbrev abJ:=@List.getElem?_drop
abbrev abK:=@Nat.le_of_eq
abbrev abL:=@Nat.lt_or_ge
abbrev abM:=@List.map_map
abbrev abN:=@List.getElem_mem
abbrev abO:=@List.length_take
abbrev abP:=@Nat.one_mul
abbrev abQ:=@List.filter_append
abbrev abR:=@List.append_nil
abbrev abS:=@List.map_congr_left
abbrev abT:=@of_decide_eq_true
abbrev abU:=@List.range_succ
abbrev abV:=@List.drop_drop
abbrev abW:=@Bool.not_eq_true'
abbrev abX:=@List.any_eq_false
abbrev abY:=@Nat.lt_of_lt_of_le
abbrev abZ:=@Bool.true_and
abbrev ab0:=@Nat.mul_one
abbrev ab1:=@List.length_filter_le
abbrev ab2:=@Bool.false_eq_true
abbrev ab3:=@List.length_range
abbrev ab4:=@List.map_set
abbrev ab5:=@List.getElem?_take
abbrev ab6:=@List.take_of_length_le
abbrev ab7:=@Array.getElem?_eq_none
abbrev ab8:=@List.getElem?_toArray
abbrev ab9:=@List.mem_singleton
abbrev ab_:=@List.take_append_drop
abbrev aca:=@List.length_drop
abbrev acb:=@List.length_eq_one_iff
abbrev acd:=@List.getElem?_replicate
abbrev ace:=@List.nodup_cons
abbrev acf:=@List.any_eq_true
abbrev acg:=@Array.getElem?_setIfInBounds_ne
abbrev ach:=@Array.getD_eq_getD_getElem?
abbrev aci:=@Nat.min_eq_left
abbrev acj:=@Option.bind_eq_some_iff
abbrev ack:=@Bool.and_assoc
abbrev acm:=@Nat.lt_irrefl
abbrev acn:=@Nat.not_lt_zero
abbrev aco:=@decide_eq_true_iff
abbrev acp:=@List.findIdx?_eq_some_iff_getElem
abbrev acq:=@List.findIdx?_eq_none_iff
abbrev acr:=@Nat.blt_eq
abbrev acs:=@Nat.zero_mul
abbrev acu:=@Array.getElem?_modify
abbrev acv:=@Array.getElem?_append
abbrev acw:=@List.mem_iff_getElem?
abbrev acx:=@Nat.ble_eq
abbrev acy:=@List.getElem?_take_of_lt
abbrev acz:=@Bool.or_eq_true
abbrev acA:=@List.take_append_of_le_length
abbrev acB:=@List.filter_congr
abbrev acC:=@List.idxOf_lt_length_iff
abbrev acD:=@decide_false
abbrev acE:=@Int.toNat_of_nonneg
abbrev acF:=@Nat.beq_refl
abbrev acG:=@Array.getElem?_push_lt
abbrev acH:=@Nat.add_comm
abbrev acI:=@List.getElem_of_mem
abbrev acJ:=@Nat.sub_self
abbrev acK:=@List.mem_of_mem_take
abbrev acL:=@List.getElem?_of_mem
abbrev acM:=@List.filter_eq_nil_iff
abbrev acN:=@List.mem_append_left
abbrev acO:=@List.length_pos_iff
abbrev acP:=@and_true
abbrev acQ:=@List.mem_cons_of_mem
abbrev acR:=@List.range'_succ
abbrev acS:=@decide_eq_false_iff_not
abbrev acT:=@List.range_eq_range'
abbrev acU:=@List.length_replicate
abbrev acV:=@Prod.mk.injEq
abbrev acW:=@List.cons.injEq
abbrev acX:=@false_or
abbrev acY:=@List.take_left
abbrev acZ:=@List.pairwise_iff_getElem
abbrev ac0:=@List.nodup_append
abbrev ac1:=@List.getElem_idxOf
abbrev ac2:=@Classical.byContradiction
abbrev ac3:=@Nat.lt_succ_self
abbrev ac4:=@Nat.mod_lt
abbrev ac5:=@Array.eq_empty_of_size_eq_zero
abbrev ac6:=@Bool.false_or
abbrev ac7:=@getElem!_pos
abbrev ac8:=@List.mem_map_of_mem
abbrev ac9:=@of_decide_eq_false
abbrev ac_:=@Eq.trans
abbrev ada:=@List.mem_iff_getElem
abbrev adb:=@List.pairwise_cons
abbrev ade:=@List.pairwise_map
abbrev adf:=@List.map_const'
abbrev adg:=@Array.getElem?_toList
abbrev adh:=@List.drop_append
abbrev adi:=@List.drop_eq_nil_of_le
abbrev adj:=@List.mapM_cons
abbrev adk:=@List.map_take
abbrev adl:=@List.drop_eq_getElem_cons
abbrev adn:=@List.size_toArray
abbrev ado:=@List.set_set
abbrev adp:=@Nat.eq_zero_or_pos
abbrev adq:=@Bool.not_false
abbrev adr:=@Option.some.inj
abbrev ads:=@List.not_mem_nil
abbrev adt:=@Option.some.injEq
abbrev adu:=@List.nodup_nil
abbrev adv:=@Bool.or_eq_false_iff
abbrev adw:=@Array.getElem?_mapIdx
abbrev adx:=@List.idxOf_append
abbrev ady:=@Int.le_refl
abbrev adz:=@Nat.mul_le_mul
abbrev adA:=@List.getElem_range
abbrev adB:=@List.foldl_append
abbrev adC:=@List.Pairwise.imp_of_mem
abbrev adD:=@Classical.not_not
abbrev adE:=@ByteArray.ext
abbrev adF:=@List.take_append
abbrev adG:=@List.eq_replicate_iff
abbrev adH:=@List.forIn_cons
abbrev adI:=@List.drop_zero
abbrev adJ:=@Array.mem_of_getElem?
abbrev adK:=@Bool.eq_false_iff
abbrev adL:=@Nat.le_add_right
abbrev adM:=@Array.ext_getElem?
abbrev adN:=@not_true_eq_false
abbrev adO:=@Nat.lt_or_gt_of_ne
abbrev adP:=@Nat.mul_comm
abbrev adQ:=@Nat.mod_eq_of_lt
abbrev adR:=@Bool.not_eq_true
abbrev adS:=@Nat.succ_pos
abbrev adT:=@Bool.and_true
abbrev adU:=@Bool.not_eq_false'
abbrev adV:=@decide_eq_decide
abbrev adW:=@List.find?_eq_none
abbrev adX:=@List.filter_cons
abbrev adY:=@List.set_append_right
abbrev adZ:=@Nat.add_sub_cancel
abbrev ad0:=@List.mem_of_mem_drop
abbrev ad1:=@List.mem_reverse
abbrev ad2:=@Nat.pos_of_ne_zero
abbrev ad3:=@Nat.le_of_not_lt
abbrev ad4:=@List.flatMap_append
abbrev ad5:=@Int.ofNat_lt
abbrev ad6:=@Array.getElem?_extract
abbrev ad7:=@Array.mapM_eq_mapM_toList
abbrev ad8:=@Option.isSome_iff_exists
abbrev ad9:=@Std.Legacy.Range.forIn_eq_forIn_range'
abbrev ad_:=@Array.getElem?_of_mem
abbrev aea:=@List.drop_append_of_le_length
abbrev aeb:=@List.set_eq_take_append_cons_drop
abbrev aec:=@BitVec.eq_of_toNat_eq
abbrev aed:=@Nat.testBit_two_pow_mul_add
abbrev aee:=@Int.fdiv_eq_ediv_of_nonneg
abbrev aef:=@List.find?_eq_some_iff_getElem
abbrev aeg:=@List.mem_take_iff_getElem
abbrev aeh:=@List.pairwise_mergeSort
abbrev aei:=@List.pairwise_singleton
abbrev aej:=@List.mem_or_eq_of_mem_set
abbrev aek:=@List.perm_append_comm
abbrev ael:=@List.length_erase_of_mem
abbrev aem:=@List.length_pos_of_mem
abbrev aen:=@List.exists_mem_of_ne_nil
end Hk
namespace Hk
open Go
inductive PV where
 |int (k:IntKind) (n:Int)
 |b (b:Bool)
 |str (l:List UInt8)
 |lit (v:Value)
 |aw (wd:Nat) (rows:List (List PV)) (cap:Option Nat)
 |b7 (row:List PV) (j:Nat)
 |agg (cells:List PV)
 |fn (f:Nat) (first captured:List PV)
 |bK (t:TypeId) (x:PV)
 deriving Inhabited
inductive Bn where
 |v (b:Nat)
 |h (b i:Nat)
 deriving DecidableEq
instance:Coe Nat Bn:=⟨.v⟩
def Bn.base:Bn→Nat
 |.v b=>b
 |.h b _=>b
def Bn.map(f:Nat→Nat):Bn→Bn
 |.v b=>.v (f b)
 |.h b i=>.h (f b) i
inductive AV where
 |p (x:PV)
 |agg (cells:List AV)
 |aD (vs:List AV)
 |fn (f:Nat) (first captured:List AV)
 |bK (t:TypeId) (x:AV)
 |ptr (b wd i j:Nat)
 |sl (b wd i len:Nat) (cap:Option Nat)
 |aF (b wd i j esz len:Nat)
 |mpr (b:Nat)
 |cd (b wd i len:Nat)
 |ip (b wd i r j:Nat)
 |undef
 deriving Inhabited
inductive aS where
 |t (n:Nat)
 |c (x:PV)
inductive CK where
 |int (k:IntKind)
 |b
 |str
inductive Blk where
 |dead
 |mx (cells:List AV)
 |pr (wd:Nat) (rows:List (List PV))
 |mp (ag:Bool) (ks:List CK) (ents:List (PV×PV))
 |ax (n:Nat) (arr:List PV) (cells:List AV)
 |gh (l:Nat) (left:Option (List (List PV)))
 |pn (wo wd:Nat) (cells:List (Bool×List (List PV))) (op:Option Nat)
 |bF (ag:Bool) (ks:List CK) (wd:Nat) (ents:List (PV×List (List PV))) (op:Option Nat)
 |mi (m:Option Nat) (n:Nat) (seen:List Nat)
 deriving Inhabited
def Blk.inner:Blk→Nat→Option (Nat×List (List PV)×Bool)
 |.pn _ wd cells op,i=>match cells[i]? with
  |some (true,rows)=>some (wd,rows,!decide (op=some i))
  |_=>none
 |.bF _ _ wd ents op,i=>match ents[i]? with
  |some (_,rows)=>some (wd,rows,!decide (op=some i))
  |none=>none
 |_,_=>none
structure St where
 tmps:List (Nat×AV)
 heap:List Blk
inductive RO where
 |bD (x:aS)
 |pick (c a b:aS)
 |bin (op:BinOp) (x y:aS)
 |xB (neg:Bool) (ks:List CK) (x y:aS)
 |AN (neg:Bool) (x y:aS)
 |AO (neg:Bool) (x y:aS)
 |AP (neg:Bool) (x:aS)
 |un (op:UnOp) (x:aS)
 |load (x:aS) (sz:Nat) (ag:Bool)
 |Fx (x:aS)
 |Fy (x i:aS) (len esz:Nat)
 |Fz (x i:aS) (esz:Nat)
 |FA (x i:aS)
 |FB (x i:aS) (len esz:Nat) (ag:Bool)
 |FD (x:aS) (off:Nat)
 |sx (x:aS) (off sz:Nat) (ag:Bool)
 |FE (x:aS) (lo hi mx:Option aS) (esz:Nat)
 |FG (x:aS) (lo hi mx:Option aS) (len esz:Nat)
 |FH (x:aS) (lo hi:Option aS)
 |len (x:aS)
 |FI (x:aS)
 |mm (isMax:Bool) (x y:aS)
 |FJ (k:IntKind) (x:aS)
 |strOf (x:aS)
 |FK (x:aS)
 |ext (x:aS) (i:Nat)
 |FL (f:Nat) (first captured:List aS)
 |FM (t:TypeId) (x:aS)
 |build (zero:List PV) (parts:List (Nat×Nat×aS))
 |xC (n:Nat) (z:PV) (rest:List PV) (parts:List (Nat×Nat×aS))
 |alloc (arr:Bool) (zero:List PV)
 |sy (n:Nat) (z:PV) (rest:List PV)
 |box (arr:Bool) (x:aS) (sz:Nat)
 |uT (n:Nat) (x:aS) (sz:Nat)
 |xD (esz:Nat) (parts:List aS)
 |xE (zero:List PV) (esz bytes:Nat) (l c:aS)
 |bytesOf (x:aS)
 |store (x v:aS) (sz:Nat)
 |app (s x:aS) (esz bytes:Nat)
 |copy (d s:aS) (esz:Nat)
 |xF (x:aS) (zero:List PV) (esz:Nat)
 |call (f:Nat) (args:List aS)
 |AQ (f:aS) (args:List aS)
 |xG (ag:Bool) (ks:List CK)
 |AR (ag:Bool) (ks:List CK) (zero:PV) (ok:Bool) (m x:aS)
 |FN (m:aS)
 |uU (ag:Bool) (ks:List CK) (m x v:aS)
 |uV (ag:Bool) (ks:List CK) (zero:PV) (m x:aS)
 |xH (m s v:aS)
 |AS (m:aS)
 |AT (x:aS)
 |FO (x:aS)
 |FP (t:TypeId) (zero:PV) (ok:Bool) (x:aS)
 |inv (uW:List (TypeId×Nat×Option (Nat×Bool))) (x:aS) (args:List aS)
structure It where
 g:Option (Nat×Bool)
 d:Option Nat
 o:RO
inductive DT where
 |done
 |take (it:It) (rest:DT)
 |alt (it:It) (last:Bool) (rest other:DT)
 |xI
inductive RC where
 |skip
 |ops (l:List It)
 |draw (t:DT)
 |seq (a b:RC)
 |cond (c:aS) (a b:RC)
 |block (id:Nat) (a:RC)
 |loop (live:List Nat) (a:RC)
 |AU (live:List Nat) (f:aS) (ps:List Nat) (asg a:RC)
 |exit (id:Nat)
 |ret
inductive sA where
 |tmp (t:Nat)
 |cell (t sz:Nat) (ag:Bool)
structure iA where
 np:Nat
 nt:Nat
 res:List sA
 body:RC
inductive Ex where
 |normal|exit (id:Nat)|ret
def uX:List PV:=[.int .u8 0,.int .u8 1,.int .u8 56,.int .u8 2,.int .u8 57,.int .u8 49,.int .u8 28,.int .u8 3,.int .u8 61,.int .u8 58,.int .u8 42,.int .u8 50,.int .u8 38,.int .u8 29,.int .u8 17,.int .u8 4,.int .u8 62,.int .u8 47,.int .u8 59,.int .u8 36,.int .u8 45,.int .u8 43,.int .u8 51,.int .u8 22,.int .u8 53,.int .u8 39,.int .u8 33,.int .u8 30,.int .u8 24,.int .u8 18,.int .u8 12,.int .u8 5,.int .u8 63,.int .u8 55,.int .u8 48,.int .u8 27,.int .u8 60,.int .u8 41,.int .u8 37,.int .u8 16,.int .u8 46,.int .u8 35,.int .u8 44,.int .u8 21,.int .u8 52,.int .u8 32,.int .u8 23,.int .u8 11,.int .u8 54,.int .u8 26,.int .u8 40,.int .u8 15,.int .u8 34,.int .u8 20,.int .u8 31,.int .u8 10,.int .u8 25,.int .u8 14,.int .u8 19,.int .u8 9,.int .u8 13,.int .u8 8,.int .u8 7,.int .u8 6]
def AW:List (Nat×List PV):=[(0,uX)]
def glbRow:List (Nat×List PV)→Nat→Option (List PV)
 |[],_=>none
 |(g,r)::l,n=>bif Nat.beq g n then some r else glbRow l n
abbrev dQ:Value→Bool:=Value.oneCell'
def lk:List (Nat×AV)→Nat→AV
 |[],_=>.undef
 |(k,v)::r,n=>bif Nat.beq k n then v else lk r n
def nth{α:Type}(d:α):List α→Nat→α
 |[],_=>d
 |x::_,0=>x
 |_::r,n+1=>nth d r n
def setNth{α:Type}:List α→Nat→α→List α
 |[],_,_=>[]
 |_::r,0,v=>v::r
 |x::r,n+1,v=>x::setNth r n v
def dropN{α:Type}:Nat→List α→List α
 |0,l=>l
 |n+1,l=>l.drop (n+1)
def ev(st:St):aS→AV
 |.t n=>lk st.tmps n
 |.c x=>.p x
def St.put(st:St)(d:Option Nat)(v:AV):St:=
 match d with
 |some d=>⟨(d,v)::st.tmps,st.heap⟩
 |none=>st
def uY(x:PV)(k:PV→Prop):Prop:=
 match x with
 |.int kk n=>k (.int kk n)
 |.b n=>k (.b n)
 |.str n=>k (.str n)
 |.lit n=>k (.lit n)
 |.aw w r c=>k (.aw w r c)
 |.b7 r j=>k (.b7 r j)
 |.agg r=>k (.agg r)
 |.fn f a c=>k (.fn f a c)
 |.bK t x=>k (.bK t x)
def force(a:AV)(k:AV→Prop):Prop:=
 match a with
 |.p x=>uY x λx=>k (.p x)
 |.agg l=>k (.agg l)
 |.aD l=>k (.aD l)
 |.fn f a c=>k (.fn f a c)
 |.bK t x=>k (.bK t x)
 |.ptr b w i j=>k (.ptr b w i j)
 |.sl b w i l c=>k (.sl b w i l c)
 |.aF b w i j e l=>k (.aF b w i j e l)
 |.mpr b=>k (.mpr b)
 |.cd b w i l=>k (.cd b w i l)
 |.ip b w i r j=>k (.ip b w i r j)
 |.undef=>k .undef
inductive bk(b:Bool)(k:Bool→Prop):Prop where
 |mk (h:k b):bk b k
theorem qD{k:Bool→Prop}(h:k true):bk true k:=⟨h⟩
theorem qE{k:Bool→Prop}(h:k false):bk false k:=⟨h⟩
theorem du{b:Bool}{k:Bool→Prop}(h1:b=true→k true)(h2:b=false→k false):bk b k:=by
 cases b
 ·exact⟨h2 rfl⟩
 ·exact⟨h1 rfl⟩
theorem AX{b:Bool}{k:Bool→Prop}(h:bk b k):k b:=h.1
def allP:List AV→Option (List PV)
 |[]=>some []
 |.p x::r=>match allP r with
  |some l=>some (x::l)
  |none=>none
 |_::_=>none
def qF(l:List AV):AV:=
 match allP l with
 |some ps=>.p (.agg ps)
 |none=>.agg l
def cellsOf:AV→List AV
 |.p (.agg l)=>l.map .p
 |.agg l=>l
 |x=>[x]
def vok:AV→Bool
 |.undef=>false
 |.aD _=>false
 |_=>true
def Bn.hitV:Bn→Nat→Bool
 |.v b,b'=>Nat.beq b' b
 |.h _ _,_=>false
def Bn.hitH:Bn→Nat→Nat→Bool
 |.v b,b',_=>Nat.beq b' b
 |.h b _,b',_=>Nat.beq b' b
mutual
def AV.kill(b:Bn):AV→AV
 |.p x=>.p x
 |.agg l=>.agg (AV.killL b l)
 |.aD l=>.aD (AV.killL b l)
 |.fn f a c=>.fn f (AV.killL b a) (AV.killL b c)
 |.bK t x=>.bK t (AV.kill b x)
 |.ptr b' w i j=>bif b.hitV b' then .undef else .ptr b' w i j
 |.sl b' w i l c=>bif b.hitV b' then .undef else .sl b' w i l c
 |.aF b' w i j e l=>bif b.hitV b' then .undef else .aF b' w i j e l
 |.mpr b'=>bif b.hitV b' then .undef else .mpr b'
 |.cd b' w i l=>bif b.hitH b' i then .undef else .cd b' w i l
 |.ip b' w i r j=>bif b.hitH b' i then .undef else .ip b' w i r j
 |.undef=>.undef
def AV.killL(b:Bn):List AV→List AV
 |[]=>[]
 |x::r=>AV.kill b x::AV.killL b r
end
def killT(b:Bn):List (Nat×AV)→List (Nat×AV)
 |[]=>[]
 |(s,x)::r=>(s,AV.kill b x)::killT b r
def Blk.kill(b:Bn):Blk→Blk
 |.dead=>.dead
 |.mx cells=>.mx (AV.killL b cells)
 |.pr wd rows=>.pr wd rows
 |.mp ag ks e=>.mp ag ks e
 |.gh l r=>.gh l r
 |.ax n a c=>.ax n a (AV.killL b c)
 |.pn wo wd c op=>.pn wo wd c op
 |.bF ag ks wd e op=>.bF ag ks wd e op
 |.mi (some m) n s=>.mi (bif b.hitV m then none else some m) n s
 |.mi none n s=>.mi none n s
def killH(b:Bn):List Blk→List Blk
 |[]=>[]
 |x::r=>Blk.kill b x::killH b r
def St.kill(b:Bn)(st:St):St:=⟨killT b st.tmps,killH b st.heap⟩
def intAr(op:BinOp)(k:IntKind)(a b:Int):Int:=
 match op with
 |.add=>k.wrap (a+b)
 |.sub=>k.wrap (a - b)
 |.mul=>k.wrap (a*b)
 |.and=>k.wrap (BitVec.ofInt k.bits a &&& BitVec.ofInt k.bits b).toNat
 |.or=>k.wrap (BitVec.ofInt k.bits a ||| BitVec.ofInt k.bits b).toNat
 |.xor=>k.wrap (BitVec.ofInt k.bits a ^^^ BitVec.ofInt k.bits b).toNat
 |.andNot=>k.wrap (BitVec.ofInt k.bits a &&& ~~~ BitVec.ofInt k.bits b).toNat
 |.quo=>k.wrap (a.tdiv b)
 |.rem=>a.tmod b
 |.shl=>k.wrap (a*2^(min b.toNat k.bits))
 |.shr=>a.fdiv (2^(min b.toNat k.bits))
 |_=>0
def intCm(op:BinOp)(a b:Int):Bool:=
 match op with
 |.eql=>a==b
 |.neq=>a !=b
 |.lss=>a<b
 |.leq=>a≤b
 |.gtr=>a>b
 |.geq=>a≥b
 |_=>false
def qG(op:BinOp)(a b:List UInt8):Bool:=
 match op with
 |.eql=>a==b
 |.neq=>!(a==b)
 |.lss=>Op.bytesLess a b
 |.leq=>Op.bytesLess a b||a==b
 |.gtr=>!(Op.bytesLess a b||a==b)
 |.geq=>!Op.bytesLess a b
 |_=>false
def nb(a b:IntKind)(A:Prop):Prop:=
 match a,b with
 |.i8,.i8=>A|.i16,.i16=>A|.i32,.i32=>A|.i64,.i64=>A
 |.u8,.u8=>A|.u16,.u16=>A|.u32,.u32=>A|.u64,.u64=>A
 |_,_=>False
def vbin(op:BinOp)(x y:AV)(k:AV→Prop):Prop:=
 match x,y with
 |.p (.int kk a),.p (.int kb b)=>
  match op with
  |.add|.sub|.mul|.and|.or|.xor|.andNot=>nb kk kb (k (.p (.int kk (intAr op kk a b))))
  |.quo|.rem=>nb kk kb (b≠0∧k (.p (.int kk (intAr op kk a b))))
  |.shl|.shr=>0≤b∧k (.p (.int kk (intAr op kk a b)))
  |.eql|.neq|.lss|.leq|.gtr|.geq=>nb kk kb (k (.p (.b (intCm op a b))))
 |.p (.str a),.p (.str b)=>
  match op with
  |.add=>a.length+b.length≤9223372036854775807∧k (.p (.str (a++b)))
  |.eql|.neq|.lss|.leq|.gtr|.geq=>k (.p (.b (qG op a b)))
  |_=>False
 |_,_=>False
def cellEq:PV→PV→Bool
 |.int _ a,.int _ b=>a==b
 |.b a,.b b=>a==b
 |.str a,.str b=>a==b
 |_,_=>false
def cellsEq:List PV→List PV→Bool
 |x::r,y::s=>cellEq x y&&cellsEq r s
 |_,_=>true
def plainCells:List CK→List PV→List PV→Prop
 |[],[],[]=>True
 |.int k::ks,.int k1 _::r,.int k2 _::s=>nb k k1 (nb k k2 (plainCells ks r s))
 |.b::ks,.b _::r,.b _::s=>plainCells ks r s
 |.str::ks,.str _::r,.str _::s=>plainCells ks r s
 |_,_,_=>False
def vun(op:UnOp)(x:AV)(k:AV→Prop):Prop:=
 match op,x with
 |.neg,.p (.int kk n)=>k (.p (.int kk (intAr .sub kk 0 n)))
 |.xor,.p (.int kk n)=>k (.p (.int kk (intAr .xor kk (if kk.signed then -1 else kk.max) n)))
 |.not,.p (.b b)=>k (.p (.b (!b)))
 |_,_=>False
def vrow(row:List PV)(j sz:Nat)(ag:Bool)(k:AV→Prop):Prop:=
 match ag with
 |true=>∃cs,(dropN j row).take sz=cs∧cs.length=sz∧k (.p (.agg cs))
 |false=>∃x,row[j]? =some x∧uY x λx=>k (.p x)
def nc(cells:List AV)(j sz:Nat)(ag:Bool)(k:AV→Prop):Prop:=
 match ag with
 |true=>(bif Nat.ble (j+sz) cells.length then k (qF ((dropN j cells).take sz))else False)
 |false=>(bif Nat.blt j cells.length then force (nth .undef cells j) k else False)
def uZ(arr:List PV)(cells:List AV):AV:=
 match allP cells with
 |some ps=>.p (.agg (arr++ps))
 |none=>.agg (arr.map .p++cells)
def AY(n:Nat)(arr:List PV)(cells:List AV)(j sz:Nat)(ag:Bool)(k:AV→Prop):Prop:=
 match ag with
 |false=>(j<n∧∃x,arr[j]? =some x∧uY x λx=>k (.p x))∨(n≤j∧∃x,cells[j - n]? =some x∧force x k)
 |true=>(bif Nat.ble n j then(bif Nat.ble (j - n+sz) cells.length then k (qF ((dropN (j - n) cells).take sz))else False)
  else bif Nat.beq j 0 then(bif Nat.beq sz n then k (.p (.agg arr))else bif Nat.ble n sz&&Nat.ble (sz - n) cells.length then k (uZ arr (cells.take (sz - n)))else False)else False)
def vload(h:List Blk)(a:AV)(sz:Nat)(ag:Bool)(k:AV→Prop):Prop:=
 match a with
 |.ptr b wd i j=>
  match nth .dead h b with
  |.mx cells=>match i with
   |0=>nc cells j sz ag k
   |_+1=>False
  |.ax n arr cells=>match i with
   |0=>AY n arr cells j sz ag k
   |_+1=>False
  |.pr b8 rows=>bif Nat.beq wd b8 then ∃row,rows[i]? =some row∧vrow row j sz ag k else False
  |.pn wo w cells op=>bif Nat.beq wd wo&&Nat.beq sz 1&&!ag then ∃fl rows,cells[i*wo+j]? =some (fl,rows)∧
   (match fl with
   |true=>op=none∧k (.cd b w (i*wo+j) rows.length)
   |false=>k (.p (.aw w rows (some rows.length))))else False
  |_=>False
 |.p (.b7 row j)=>vrow row j sz ag k
 |.ip b wd i r j=>match nth .dead h b with
  |.pn _ w cells _=>bif Nat.beq wd w then ∃rows row,cells[i]? =some (true,rows)∧rows[r]? =some row∧vrow row j sz ag k else False
  |_=>False
 |_=>False
def vidxA(x i:AV)(len esz:Nat)(k:AV→Prop):Prop:=
 match i with
 |.p (.int _ n)=>
  (0≤n∧n<(len:Int))∧
  match x with
  |.ptr b wd r j=>k (.ptr b wd r (j+n.toNat*esz))
  |.p (.b7 row j)=>k (.p (.b7 row (j+n.toNat*esz)))
  |_=>False
 |_=>False
def vidxS(x i:AV)(esz:Nat)(k:AV→Prop):Prop:=
 match i with
 |.p (.int _ n)=>
  match x with
  |.p (.aw wd rows _)=>(0≤n∧n<(rows.length:Int))∧∃row,rows[n.toNat]? =some row∧bif Nat.beq wd esz then k (.p (.b7 row 0))else False
  |.sl b wd r len _=>(0≤n∧n<(len:Int))∧bif Nat.beq wd esz then k (.ptr b wd (r+n.toNat) 0)else False
  |.aF b wd r j e len=>(0≤n∧n<(len:Int))∧bif Nat.beq e esz then k (.ptr b wd r (j+n.toNat*esz))else False
  |.cd b wd i len=>(0≤n∧n<(len:Int))∧bif Nat.beq wd esz then k (.ip b wd i n.toNat 0)else False
  |_=>False
 |_=>False
def vidxStr(x i:AV)(k:AV→Prop):Prop:=
 match x,i with
 |.p (.str l),.p (.int _ n)=>0≤n∧∃c,l[n.toNat]? =some c∧k (.p (.int .u8 c.toNat))
 |_,_=>False
def vidxArr(x i:AV)(len esz:Nat)(ag:Bool)(k:AV→Prop):Prop:=
 match x,i with
 |.p (.agg cells),.p (.int _ n)=>(0≤n∧n<(len:Int))∧vrow cells (n.toNat*esz) esz ag k
 |_,_=>False
def u0(x:AV)(off:Nat)(k:AV→Prop):Prop:=
 match x with
 |.ptr b wd i j=>k (.ptr b wd i (j+off))
 |.p (.b7 row j)=>k (.p (.b7 row (j+off)))
 |_=>False
def AZ(x:AV)(off sz:Nat)(ag:Bool)(k:AV→Prop):Prop:=
 match x with
 |.p (.agg cells)=>vrow cells off sz ag k
 |.agg cells=>nc cells off sz ag k
 |_=>False
def vbnd(o:Option AV)(d:Int)(k:Int→Prop):Prop:=
 match o with
 |none=>k d
 |some (.p (.int _ n))=>k n
 |some _=>False
def vslcS(x:AV)(lo hi mx:Option AV)(esz:Nat)(k:AV→Prop):Prop:=
 match x with
 |.p (.aw wd rows cap)=>
  match mx with
  |none=>vbnd lo 0 λl=>vbnd hi rows.length λh=>(0≤l∧l≤h∧h≤(rows.length:Int))∧
   bif Nat.beq wd esz||rows.isEmpty then ∃rs,(dropN l.toNat rows).take (h.toNat - l.toNat)=rs∧rs.length=h.toNat - l.toNat∧
    k (.p (.aw wd rs (cap.map (·- l.toNat))))else False
  |some m=>vbnd lo 0 λl=>vbnd hi rows.length λh=>vbnd (some m) 0 λm=>(0≤l∧l≤h∧h≤m∧m≤(rows.length:Int))∧
   bif Nat.beq wd esz||rows.isEmpty then ∃rs,(dropN l.toNat rows).take (h.toNat - l.toNat)=rs∧rs.length=h.toNat - l.toNat∧
    k (.p (.aw wd rs (some (m.toNat - l.toNat))))else False
 |.sl b wd i len cap=>
  match mx with
  |none=>vbnd lo 0 λl=>vbnd hi len λh=>(0≤l∧l≤h∧h≤(len:Int))∧
   bif Nat.beq wd esz then k (.sl b wd (i+l.toNat) (h.toNat - l.toNat) (cap.map (·- l.toNat)))else False
  |some m=>vbnd lo 0 λl=>vbnd hi len λh=>vbnd (some m) 0 λm=>(0≤l∧l≤h∧h≤m∧m≤(len:Int))∧
   bif Nat.beq wd esz then k (.sl b wd (i+l.toNat) (h.toNat - l.toNat) (some (m.toNat - l.toNat)))else False
 |_=>False
def vslcA(x:AV)(lo hi mx:Option AV)(len esz:Nat)(k:AV→Prop):Prop:=
 match x with
 |.ptr b wd i j=>vbnd lo 0 λl=>vbnd hi len λh=>vbnd mx len λm=>(0≤l∧l≤h∧h≤m∧m≤(len:Int))∧
  k (.aF b wd i (j+l.toNat*esz) esz (h.toNat - l.toNat))
 |_=>False
def vslcStr(x:AV)(lo hi:Option AV)(k:AV→Prop):Prop:=
 match x with
 |.p (.str s)=>vbnd lo 0 λl=>vbnd hi s.length λh=>(0≤l∧l≤h∧h≤(s.length:Int))∧
  k (.p (.str ((dropN l.toNat s).take (h.toNat - l.toNat))))
 |_=>False
def A0(x:AV)(k:AV→Prop):Prop:=
 match x with
 |.p (.aw _ r _)=>k (.p (.int .i64 r.length))
 |.sl _ _ _ l _=>k (.p (.int .i64 l))
 |.aF _ _ _ _ _ l=>k (.p (.int .i64 l))
 |.cd _ _ _ l=>k (.p (.int .i64 l))
 |_=>False
def A1(x:AV)(k:AV→Prop):Prop:=
 match x with
 |.p (.str l)=>k (.p (.int .i64 l.length))
 |_=>False
def fY(b:UInt8):List PV:=[.int .u8 b.toNat]
def vslices(h:List Blk)(x:AV)(esz:Nat)(k:List (List PV)→Prop):Prop:=
 match x with
 |.p (.aw wd rows _)=>(bif Nat.beq wd esz||rows.isEmpty then k rows else False)
 |.sl b wd i len _=>match nth .dead h b with
  |.pr b8 rows=>bif Nat.beq wd b8&&Nat.beq wd esz then ∃rs,(dropN i rows).take len=rs∧rs.length=len∧k rs else False
  |_=>False
 |.aF b wd i j e len=>match nth .dead h b with
  |.pr b8 rows=>bif Nat.beq wd b8&&Nat.beq e esz&&Nat.beq e 1 then ∃row rs,rows[i]? =some row∧((dropN j row).take len).map (λx=>[x])=rs∧rs.length=len∧k rs else False
  |_=>False
 |_=>False
def lB(h:List Blk)(x:AV)(esz:Nat)(k:List (List PV)→Prop):Prop:=
 match x with
 |.p (.str l)=>(bif Nat.beq esz 1 then k (l.map fY)else False)
 |x=>vslices h x esz k
def vext(x:AV)(i:Nat)(k:AV→Prop):Prop:=
 match x with
 |.aD l=>(bif Nat.blt i l.length then force (nth .undef l i) k else False)
 |_=>False
def evL(st:St):List aS→List AV
 |[]=>[]
 |x::r=>ev st x::evL st r
def fillA:List AV→List (Nat×Nat×AV)→Option (List AV)
 |cells,[]=>some cells
 |cells,(off,size,v)::r=>
  let cs:=cellsOf v
  bif vok v&&Nat.beq cs.length size&&Nat.ble (off+size) cells.length then fillA (cells.take off++cs++cells.drop (off+size)) r else none
def evParts(st:St):List (Nat×Nat×aS)→List (Nat×Nat×AV)
 |[]=>[]
 |(o,s,x)::r=>(o,s,ev st x)::evParts st r
abbrev FC:=Nat→List AV→List Blk→List Nat→(AV→List Blk→Prop)→Prop
structure En where
 F:FC
 fx:Nat→Bool
 k:Nat
 G:Nat→List PV→Bool→List (List PV)→Prop
 en:Bool
def AV.keep(b wd:Nat)(rows:List (List PV))(x:AV):AV:=
 match x with
 |.sl b' b8 i l c=>bif Nat.beq b' b&&Nat.beq b8 wd then .p (.aw wd ((dropN i rows).take l) none)else AV.kill (.v b) (.sl b' b8 i l c)
 |x=>AV.kill (.v b) x
def u4(b wd:Nat)(rows:List (List PV)):List (Nat×AV)→List (Nat×AV)
 |[]=>[]
 |(s,x)::r=>(s,AV.keep b wd rows x)::u4 b wd rows r
def xJ(b wd:Nat)(rows:List (List PV))(x:AV)(k:Prop):Prop:=
 match x with
 |.sl b' b8 i l _=>bif Nat.beq b' b&&Nat.beq b8 wd then i+l≤rows.length∧k else k
 |_=>k
def u5(b wd:Nat)(rows:List (List PV)):List (Nat×AV)→Prop
 |[]=>True
 |(_,x)::r=>xJ b wd rows x (u5 b wd rows r)
inductive lC(A B C:Prop):Prop
 |kill (h:A)
 |keep (h:B)
 |cap (h:C)
def vpure(E:En)(st:St)(x:AV)(k:St→PV→Prop):Prop:=
 match x with
 |.p x=>uY x λx=>k st x
 |.sl b wd i len cap=>match nth .dead st.heap b with
  |.pr b8 rows=>bif Nat.beq wd b8&&!E.fx b then ∃rs,(dropN i rows).take len=rs∧rs.length=len∧
   lC (k ⟨killT b st.tmps,setNth (killH b st.heap) b .dead⟩ (.aw wd rs none)) (u5 b wd rows st.tmps∧k ⟨u4 b wd rows st.tmps,setNth (killH b st.heap) b .dead⟩ (.aw wd rs none))
    (k ⟨killT b st.tmps,setNth (killH b st.heap) b .dead⟩ (.aw wd rs cap))else False
  |.pn wo w cells op=>bif Nat.beq wd wo&&Nat.beq wo 1&&!E.fx b then(op=none∧i=0∧len=cells.length)∧
   k ⟨killT b st.tmps,setNth (killH b st.heap) b .dead⟩ (.aw 1 (cells.map λc=>[.aw w c.2 none]) none)else False
  |_=>False
 |_=>False
def pz(E:En)(st:St):List AV→(St→List PV→Prop)→Prop
 |[],k=>k st []
 |x::r,k=>vpure E st x λst y=>pz E st r λst ys=>k st (y::ys)
def vagg(E:En)(st:St)(x:AV)(k:St→List PV→Prop):Prop:=
 match x with
 |.p (.agg l)=>k st l
 |x=>pz E st (cellsOf x) k
def xK(E:En)(st:St):List AV→(St→List (List PV)→Prop)→Prop
 |[],k=>k st []
 |x::r,k=>vagg E st x λst row=>xK E st r λst rows=>k st (row::rows)
def valsOnly(it:RO):Bool:=
 match it with
 |.alloc _ _|.sy _ _ _|.box _ _ _|.uT _ _ _|.xD _ _|.xE _ _ _ _ _|.bytesOf _|.store _ _ _|.app _ _ _ _|.copy _ _ _|.xF _ _ _|.call _ _|.AQ _ _|.xG _ _|.uU _ _ _ _ _|.uV _ _ _ _ _|.xH _ _ _|.AS _|.AT _|.inv _ _ _=>false
 |_=>true
def vcmpa(neg:Bool)(ks:List CK)(x y:AV)(k:AV→Prop):Prop:=
 match x,y with
 |.p (.agg a),.p (.agg b)=>plainCells ks a b∧k (.p (.b (bif neg then !cellsEq a b else cellsEq a b)))
 |_,_=>False
def vcmpb(neg:Bool)(x y:AV)(k:AV→Prop):Prop:=
 match x,y with
 |.p (.b a),.p (.b b)=>k (.p (.b (bif neg then !(a==b)else(a==b))))
 |_,_=>False
def vcmpp(neg:Bool)(x y:AV)(k:AV→Prop):Prop:=
 match x,y with
 |.p (.lit (.pointer none)),.p (.lit (.pointer none))=>k (.p (.b (bif neg then false else true)))
 |.ptr _ _ _ _,.p (.lit (.pointer none))=>k (.p (.b (bif neg then true else false)))
 |.p (.b7 _ _),.p (.lit (.pointer none))=>k (.p (.b (bif neg then true else false)))
 |_,_=>False
def A2(neg:Bool)(x:AV)(k:AV→Prop):Prop:=
 match x with
 |.p (.aw _ rows _)=>(rows=[]→k (.p (.b (!neg))))∧k (.p (.b neg))
 |.sl _ _ _ l _=>(l=0→k (.p (.b (!neg))))∧k (.p (.b neg))
 |_=>False
def vmm(isMax:Bool)(x y:AV)(k:AV→Prop):Prop:=
 match x,y with
 |.p (.int kk a),.p (.int kb b)=>nb kk kb (k (.p (.int kk (bif isMax then max a b else min a b))))
 |_,_=>False
def vmkfn(f:Nat)(first cap:List AV)(k:AV→Prop):Prop:=
 match allP first,allP cap with
 |some a,some c=>k (.p (.fn f a c))
 |_,_=>k (.fn f first cap)
def vbuild(o:Option (List AV))(k:AV→Prop):Prop:=
 match o with
 |some l=>k (qF l)
 |none=>False
def shiftP(n:Nat):List (Nat×Nat×AV)→Option (List (Nat×Nat×AV))
 |[]=>some []
 |(off,s,v)::r=>bif Nat.ble n off then(match shiftP n r with
  |some l=>some ((off - n,s,v)::l)
  |none=>none)else none
def u6(arr:List PV)(cells:List AV)(parts:Option (List (Nat×Nat×AV)))(k:AV→Prop):Prop:=
 match parts with
 |some ps=>match fillA cells ps with
  |some l=>k (uZ arr l)
  |none=>False
 |none=>False
def vbuildx(n:Nat)(z:PV)(rest:List PV)(parts:List (Nat×Nat×AV))(k:AV→Prop):Prop:=
 match parts with
 |(0,s,v)::r=>∃arr pA,cellsOf v=arr.map .p++pA∧(vok v=true∧arr.length=n∧n+pA.length=s∧pA.length≤rest.length)∧u6 arr (pA++(rest.drop pA.length).map .p) (shiftP n r) k
 |ps=>u6 (List.replicate n z) (rest.map .p) (shiftP n ps) k
def vpick(c a b:AV)(k:AV→Prop):Prop:=
 match c with
 |.p (.b c)=>bk c λc=>match c with
  |true=>force a k
  |false=>force b k
 |_=>False
def vnil(x:AV)(k:AV→Prop):Prop:=
 match x with
 |.ptr b wd i j=>k (.ptr b wd i j)
 |.p (.b7 row j)=>k (.p (.b7 row j))
 |.p (.fn f a c)=>k (.p (.fn f a c))
 |.fn f a c=>k (.fn f a c)
 |_=>False
def A3(kk:IntKind)(x:AV)(k:AV→Prop):Prop:=
 match x with
 |.p (.int _ n)=>k (.p (.int kk (kk.wrap n)))
 |_=>False
def A4(x:AV)(k:AV→Prop):Prop:=
 match x with
 |.p (.str l)=>k (.p (.str l))
 |_=>False
def vmkif(t:TypeId)(x:AV)(k:AV→Prop):Prop:=
 match x with
 |.p x=>k (.p (.bK t x))
 |x=>k (.bK t x)
def FQ:IntKind→IntKind→Bool
 |.i8,.i8=>true|.i16,.i16=>true|.i32,.i32=>true|.i64,.i64=>true
 |.u8,.u8=>true|.u16,.u16=>true|.u32,.u32=>true|.u64,.u64=>true
 |_,_=>false
def ckEq:CK→CK→Bool
 |.int a,.int b=>FQ a b
 |.b,.b=>true
 |.str,.str=>true
 |_,_=>false
def cksEq:List CK→List CK→Bool
 |[],[]=>true
 |a::r,c::s=>ckEq a c&&cksEq r s
 |_,_=>false
def qH:Bool→Bool→Bool
 |true,b=>b
 |false,b=>!b
def xL:CK→PV→Prop
 |.int k,.int k' _=>nb k k' True
 |.b,.b _=>True
 |.str,.str _=>True
 |_,_=>False
def cellsK:List CK→List PV→Prop
 |[],[]=>True
 |k::ks,x::r=>xL k x∧cellsK ks r
 |_,_=>False
def dR(ag:Bool)(ks:List CK)(x:PV):Prop:=
 match ag,x with
 |true,.agg l=>cellsK ks l
 |false,x=>cellsK ks [x]
 |_,_=>False
def keyEq:PV→PV→Bool
 |.agg a,.agg b=>cellsEq a b
 |x,y=>cellEq x y
def mfind:List (PV×PV)→PV→Nat→Option (Nat×PV)
 |[],_,_=>none
 |(k,v)::r,x,i=>bif keyEq x k then some (i,v)else mfind r x (i+1)
def mput:List (PV×PV)→PV→PV→List (PV×PV)
 |[],x,v=>[(x,v)]
 |(k,u)::r,x,v=>bif keyEq x k then(x,v)::r else(k,u)::mput r x v
def setVal:List (PV×PV)→Nat→PV→List (PV×PV)
 |[],_,_=>[]
 |(k,_)::r,0,v=>(k,v)::r
 |e::r,n+1,v=>e::setVal r n v
def mfindN:List (PV×List (List PV))→PV→Nat→Option (Nat×List (List PV))
 |[],_,_=>none
 |(k,v)::r,x,i=>bif keyEq x k then some (i,v)else mfindN r x (i+1)
def A5(zero:PV):Option (Nat×PV)→PV
 |some (_,v)=>v
 |none=>zero
@[reducible] def FR {α:Type}:Option α→Bool
 |some _=>true
 |none=>false
def xM(zero:PV)(ok:Bool)(o:Option (Nat×PV)):AV:=
 match ok with
 |true=>.aD [.p (A5 zero o),.p (.b (FR o))]
 |false=>.p (A5 zero o)
def qI(x:AV)(k:PV→Prop):Prop:=
 match x with
 |.p x=>k x
 |_=>False
def vmap(h:List Blk)(m:AV)(ag:Bool)(ks:List CK)(k:Nat→List (PV×PV)→Prop):Prop:=
 match m with
 |.mpr b=>match nth .dead h b with
  |.mp l9 l_ ents=>(bif qH ag l9&&cksEq ks l_ then k b ents else False)
  |_=>False
 |_=>False
def vmapn(h:List Blk)(m:AV)(ag:Bool)(ks:List CK)(k1:Nat→List (PV×PV)→Prop)(k2:Nat→Nat→List (PV×List (List PV))→Option Nat→Prop):Prop:=
 match m with
 |.mpr b=>match nth .dead h b with
  |.mp l9 l_ ents=>(bif qH ag l9&&cksEq ks l_ then k1 b ents else False)
  |.bF l9 l_ wd ents op=>(bif qH ag l9&&cksEq ks l_ then k2 b wd ents op else False)
  |_=>False
 |_=>False
def mb(ok:Bool)(v:AV)(f:Bool):AV:=
 match ok with
 |true=>.aD [v,.p (.b f)]
 |false=>v
def A6(h:List Blk)(ag:Bool)(ks:List CK)(zero:PV)(ok:Bool)(m x:AV)(k:AV→Prop):Prop:=
 qI x λx=>dR ag ks x∧vmapn h m ag ks (λ_ ents=>∃o,mfind ents x 0=o∧k (xM zero ok o))
  λb wd ents op=>∃o,mfindN ents x 0=o∧match o with
   |some (i,rows)=>op=none∧k (mb ok (.cd b wd i rows.length) true)
   |none=>k (mb ok (.p zero) false)
def A7(h:List Blk)(m:AV)(k:AV→Prop):Prop:=
 match m with
 |.mpr b=>match nth .dead h b with
  |.mp _ _ ents=>k (.p (.int .i64 ents.length))
  |_=>False
 |_=>False
def vtas(t:TypeId)(zero:PV)(ok:Bool)(x:AV)(k:AV→Prop):Prop:=
 match x with
 |.p (.bK t' y)=>(bif Nat.beq t' t then k (mb ok (.p y) true)else bif ok then k (mb true (.p zero) false)else False)
 |.bK t' y=>(bif Nat.beq t' t then k (mb ok y true)else bif ok then k (mb true (.p zero) false)else False)
 |_=>False
def vmentry(h:List Blk)(x:AV)(k:AV→Prop):Prop:=
 match x with
 |.ptr b _ 0 0=>match nth .dead h b with
  |.mi (some m) n (i::_)=>match nth .dead h m with
   |.mp _ _ ents=>n=ents.length∧∃y v,ents[i]? =some (y,v)∧k (.aD [.p y,.p v])
   |_=>False
  |_=>False
 |_=>False
def sB(o:RO)(st:St)(k:AV→Prop):Prop:=
 match o with
 |.bD x=>force (ev st x) k
 |.pick c a b=>vpick (ev st c) (ev st a) (ev st b) k
 |.bin op x y=>force (ev st x) λx=>force (ev st y) λy=>vbin op x y k
 |.xB neg ks x y=>vcmpa neg ks (ev st x) (ev st y) k
 |.AN neg x y=>vcmpb neg (ev st x) (ev st y) k
 |.AO neg x y=>vcmpp neg (ev st x) (ev st y) k
 |.AP neg x=>A2 neg (ev st x) k
 |.un op x=>vun op (ev st x) k
 |.load x sz ag=>force (ev st x) λa=>vload st.heap a sz ag k
 |.Fx x=>vnil (ev st x) k
 |.Fy x i len esz=>vidxA (ev st x) (ev st i) len esz k
 |.Fz x i esz=>force (ev st x) λx=>vidxS x (ev st i) esz k
 |.FA x i=>vidxStr (ev st x) (ev st i) k
 |.FB x i len esz ag=>vidxArr (ev st x) (ev st i) len esz ag k
 |.FD x off=>u0 (ev st x) off k
 |.sx x off sz ag=>AZ (ev st x) off sz ag k
 |.FE x lo hi mx esz=>force (ev st x) λx=>vslcS x (lo.map (ev st)) (hi.map (ev st)) (mx.map (ev st)) esz k
 |.FG x lo hi mx len esz=>vslcA (ev st x) (lo.map (ev st)) (hi.map (ev st)) (mx.map (ev st)) len esz k
 |.FH x lo hi=>vslcStr (ev st x) (lo.map (ev st)) (hi.map (ev st)) k
 |.len x=>A0 (ev st x) k
 |.FI x=>A1 (ev st x) k
 |.mm isMax x y=>vmm isMax (ev st x) (ev st y) k
 |.FJ kk x=>A3 kk (ev st x) k
 |.strOf x=>force (ev st x) λx=>vslices st.heap x 1 λrows=>∃l:List UInt8,rows=l.map fY∧k (.p (.str l))
 |.FK x=>A4 (ev st x) k
 |.ext x i=>vext (ev st x) i k
 |.FL f first cap=>vmkfn f (evL st first) (evL st cap) k
 |.FM t x=>force (ev st x) λx=>vmkif t x k
 |.build zero parts=>vbuild (fillA (zero.map .p) (evParts st parts)) k
 |.xC n z rest parts=>vbuildx n z rest (evParts st parts) k
 |.AR ag ks zero ok m x=>force (ev st x) λx=>A6 st.heap ag ks zero ok (ev st m) x k
 |.FN m=>A7 st.heap (ev st m) k
 |.FP t zero ok x=>vtas t zero ok (ev st x) k
 |.FO x=>force (ev st x) λx=>vmentry st.heap x k
 |_=>False
mutual
inductive cQ:PV→PV→Prop
 |refl (x:PV):cQ x x
 |aw {wd:Nat} {rows rows':List (List PV)} {cap gH:Option Nat}:kH rows rows'→(gH=none∨gH=cap)→cQ (.aw wd rows cap) (.aw wd rows' gH)
 |nil {wd b8:Nat} {cap gH:Option Nat}:(gH=none∨gH=cap)→cQ (.aw wd [] cap) (.aw b8 [] gH)
 |agg {xs ys:List PV}:fZ xs ys→cQ (.agg xs) (.agg ys)
inductive fZ:List PV→List PV→Prop
 |refl (l:List PV):fZ l l
 |cons {x y:PV} {xs ys:List PV}:cQ x y→fZ xs ys→fZ (x::xs) (y::ys)
inductive kH:List (List PV)→List (List PV)→Prop
 |refl (l:List (List PV)):kH l l
 |cons {x y:List PV} {xs ys:List (List PV)}:fZ x y→kH xs ys→kH (x::xs) (y::ys)
end
mutual
inductive ah(h:List Blk)(fz kp:Nat→Bool):AV→AV→Prop
 |p {x y:PV}:cQ x y→ah h fz kp (.p x) (.p y)
 |aE (x:AV):ah h fz kp x .undef
 |ptr {b w i j:Nat}:kp b=true→ah h fz kp (.ptr b w i j) (.ptr b w i j)
 |sl {b w i l:Nat} {cap gH:Option Nat}:kp b=true→(gH=none∨gH=cap)→ah h fz kp (.sl b w i l cap) (.sl b w i l gH)
 |aF {b w i j e l:Nat}:kp b=true→ah h fz kp (.aF b w i j e l) (.aF b w i j e l)
 |mpr {b:Nat}:kp b=true→ah h fz kp (.mpr b) (.mpr b)
 |dJ {b w i l:Nat} {cap:Option Nat} {rows rs:List (List PV)} {y:PV}:fz b=true→nth .dead h b=.pr w rows→(dropN i rows).take l=rs→
  rs.length=l→cQ (.aw w rs none) y→ah h fz kp (.sl b w i l cap) (.p y)
 |xN {b l wd:Nat} {cap:Option Nat} {cells:List (Bool×List (List PV))} {y:PV}:fz b=true→nth .dead h b=.pn 1 wd cells none→l=cells.length→
  cQ (.aw 1 (cells.map λc=>[.aw wd c.2 none]) none) y→ah h fz kp (.sl b 1 0 l cap) (.p y)
 |A8 {b w i j:Nat} {rows:List (List PV)} {row:List PV}:fz b=true→nth .dead h b=.pr w rows→rows[i]? =some row→ah h fz kp (.ptr b w i j) (.p (.b7 row j))
 |od {b w j:Nat} {row:List PV}:fz b=true→nth .dead h b=.mx (row.map .p)→ah h fz kp (.ptr b w 0 j) (.p (.b7 row j))
 |sC {b w n j:Nat} {arr row:List PV}:fz b=true→nth .dead h b=.ax n arr (row.map .p)→ah h fz kp (.ptr b w 0 j) (.p (.b7 (arr++row) j))
 |agg {l l':List AV}:ak h fz kp l l'→ah h fz kp (.agg l) (.agg l')
 |qJ {l:List AV} {ys:List PV}:ak h fz kp l (ys.map .p)→ah h fz kp (.agg l) (.p (.agg ys))
 |aD {l l':List AV}:ak h fz kp l l'→ah h fz kp (.aD l) (.aD l')
 |fn {f:Nat} {a a' c c':List AV}:ak h fz kp a a'→ak h fz kp c c'→ah h fz kp (.fn f a c) (.fn f a' c')
 |nf {f:Nat} {a c:List AV} {a' c':List PV}:ak h fz kp a (a'.map .p)→ak h fz kp c (c'.map .p)→ah h fz kp (.fn f a c) (.p (.fn f a' c'))
 |bK {t:TypeId} {x y:AV}:ah h fz kp x y→ah h fz kp (.bK t x) (.bK t y)
 |Nq {t:TypeId} {x:AV} {y:PV}:ah h fz kp x (.p y)→ah h fz kp (.bK t x) (.p (.bK t y))
inductive ak(h:List Blk)(fz kp:Nat→Bool):List AV→List AV→Prop
 |nil:ak h fz kp [] []
 |cons {x y:AV} {xs ys:List AV}:ah h fz kp x y→ak h fz kp xs ys→ak h fz kp (x::xs) (y::ys)
end
def Nr(wd:Nat)(x:PV)(c:Option (Bool×List (List PV))):Prop:=
 (c=some (true,[])∧∃w0,x=.aw w0 [] (some 0))∨∃rs,c=some (false,rs)∧x=.aw wd rs (some rs.length)
inductive aj(h:List Blk)(fz kp:Nat→Bool):Blk→Blk→Prop
 |dead (x:Blk):aj h fz kp x .dead
 |mx {l l':List AV}:ak h fz kp l l'→aj h fz kp (.mx l) (.mx l')
 |pr {wd:Nat} {r r':List (List PV)}:kH r r'→aj h fz kp (.pr wd r) (.pr wd r')
 |prt {wd:Nat} {r s:List (List PV)}:aj h fz kp (.pr wd (r++s)) (.pr wd r)
 |mp {ag:Bool} {ks:List CK} {e:List (PV×PV)}:aj h fz kp (.mp ag ks e) (.mp ag ks e)
 |ax {n:Nat} {a a':List PV} {c c':List AV}:fZ a a'→ak h fz kp c c'→aj h fz kp (.ax n a c) (.ax n a' c')
 |gh {l:Nat} {r:Option (List (List PV))}:aj h fz kp (.gh l r) (.gh l r)
 |pn {wo wd:Nat} {c:List (Bool×List (List PV))} {op:Option Nat}:aj h fz kp (.pn wo wd c op) (.pn wo wd c op)
 |bF {ag:Bool} {ks:List CK} {wd:Nat} {e:List (PV×List (List PV))} {op:Option Nat}:aj h fz kp (.bF ag ks wd e op) (.bF ag ks wd e op)
 |u7 {wo wd:Nat} {rows:List (List PV)} {c:List (Bool×List (List PV))}:c.length=rows.length*wo→(∀(i j:Nat) row x,rows[i]? =some row→row[j]? =some x→Nr wd x c[i*wo+j]?)→aj h fz kp (.pr wo rows) (.pn wo wd c none)
 |FT {wo wd:Nat} {rows:List (List PV)} {c:List (Bool×List (List PV))}:c.length=rows.length*(wo+1)→(∀(i:Nat) row,rows[i]? =some row→row.length=wo+1)→
  (∀(i j:Nat) row x,rows[i]? =some row→row[j]? =some x→∃fl rs,c[i*(wo+1)+j]? =some (fl,rs)∧x=.aw wd rs none)→aj h fz kp (.pn (wo+1) wd c none) (.pr (wo+1) rows)
 |mi {m m':Option Nat} {n:Nat} {s:List Nat}:(∀b,m'=some b→m=some b∧kp b=true)→aj h fz kp (.mi m n s) (.mi m' n s)
 |FU {ag:Bool} {ks:List CK} {wd:Nat}:aj h fz kp (.mp ag ks []) (.bF ag ks wd [] none)
 |FV {ag:Bool} {ks:List CK} {wd:Nat} {e:List (PV×List (List PV))} {e':List (PV×PV)}:e'=(e.map λp=>(p.1,.aw wd p.2 none))→aj h fz kp (.bF ag ks wd e none) (.mp ag ks e')
inductive ar(h:List Blk)(fz kp:Nat→Bool):List Blk→List Blk→Prop
 |nil (l:List Blk):ar h fz kp l []
 |cons {x y:Blk} {xs ys:List Blk}:aj h fz kp x y→ar h fz kp xs ys→ar h fz kp (x::xs) (y::ys)
inductive aA(h:List Blk)(fz kp:Nat→Bool)(t:List (Nat×AV)):List (Nat×AV)→Prop
 |nil:aA h fz kp t []
 |cons {s:Nat} {y:AV} {r:List (Nat×AV)}:ah h fz kp (lk t s) y→aA h fz kp t r→aA h fz kp t ((s,y)::r)
def fixOk(fx:Nat→Bool)(h:List Blk):Nat→Bool
 |0=>true
 |k+1=>(!fx k||(match nth .dead h k with|.dead=>false|_=>true))&&fixOk fx h k
def da(h:List Blk)(b:Nat):Bool:=
 match nth .dead h b with
 |.dead=>false
 |_=>true
def cZ(E:En)(st st':St):Prop:=
 (Nat.ble E.k st'.heap.length=true∧fixOk E.fx st'.heap E.k=true)∧
 aA st.heap (λb=>!da st'.heap b) (λb=>da st'.heap b) st.tmps st'.tmps∧
 ar st.heap (λb=>!da st'.heap b) (λb=>da st'.heap b) st.heap st'.heap
def trim(live:List Nat)(st:St):St:=⟨live.map λs=>(s,lk st.tmps s),st.heap⟩
def matV(n wd:Nat):AV→AV×List Blk
 |.p (.aw _ [] (some 0))=>(.sl n wd 0 0 none,[.pr wd []])
 |x=>(x,[])
def setT:List (Nat×AV)→Nat→AV→List (Nat×AV)
 |[],_,_=>[]
 |(k,v)::r,n,x=>bif Nat.beq k n then(k,x)::r else(k,v)::setT r n x
inductive pB where
 |slot (s wd:Nat)
 |cell (b j wd:Nat)
def St.mat1(st:St):pB→St
 |.slot s wd=>match matV st.heap.length wd (lk st.tmps s)with
  |(x,bs)=>⟨setT st.tmps s x,st.heap++bs⟩
 |.cell b j wd=>match nth .dead st.heap b with
  |.mx cells=>match matV st.heap.length wd (nth .undef cells j)with
   |(x,bs)=>⟨st.tmps,setNth st.heap b (.mx (setNth cells j x))++bs⟩
  |.ax n arr cells=>bif Nat.ble n j then match matV st.heap.length wd (nth .undef cells (j - n))with
   |(x,bs)=>⟨st.tmps,setNth st.heap b (.ax n arr (setNth cells (j - n) x))++bs⟩
   else st
  |_=>st
def St.kJ(st:St):List pB→St
 |[]=>st
 |m::r=>(st.mat1 m).kJ r
mutual
def AV.ren(ids:List Nat)(n:Nat):AV→AV
 |.p x=>.p x
 |.agg l=>.agg (AV.dX ids n l)
 |.aD l=>.aD (AV.dX ids n l)
 |.fn f a c=>.fn f (AV.dX ids n a) (AV.dX ids n c)
 |.bK t x=>.bK t (AV.ren ids n x)
 |.ptr b w i j=>.ptr (renB ids n b) w i j
 |.sl b w i l c=>.sl (renB ids n b) w i l c
 |.aF b w i j e l=>.aF (renB ids n b) w i j e l
 |.mpr b=>.mpr (renB ids n b)
 |.cd b w i l=>.cd (renB ids n b) w i l
 |.ip b w i r j=>.ip (renB ids n b) w i r j
 |.undef=>.undef
def AV.dX(ids:List Nat)(n:Nat):List AV→List AV
 |[]=>[]
 |x::r=>AV.ren ids n x::AV.dX ids n r
def renB:List Nat→Nat→Nat→Nat
 |[],n,b=>n+b
 |x::_,_,0=>x
 |_::r,n,b+1=>renB r n b
end
def Blk.ren(ids:List Nat)(n:Nat):Blk→Blk
 |.dead=>.dead
 |.mx cells=>.mx (AV.dX ids n cells)
 |.pr wd rows=>.pr wd rows
 |.mp ag ks e=>.mp ag ks e
 |.gh l r=>.gh l r
 |.ax m a c=>.ax m a (AV.dX ids n c)
 |.pn wo wd c op=>.pn wo wd c op
 |.bF ag ks wd e op=>.bF ag ks wd e op
 |.mi m k s=>.mi (m.map (renB ids n)) k s
def fA(ids:List Nat)(n:Nat):List Blk→List Blk
 |[]=>[]
 |x::r=>Blk.ren ids n x::fA ids n r
def getIds(h:List Blk):List Nat→List Blk
 |[]=>[]
 |i::r=>nth .dead h i::getIds h r
def backH(h:List Blk):List Nat→List Blk→List Blk
 |[],new=>h++new
 |i::r,x::new=>backH (setNth h i x) r new
 |_::_,[]=>h
def killAll:List Nat→St→St
 |[],st=>st
 |b::r,st=>killAll r (st.kill b)
def memN:List Nat→Nat→Bool
 |[],_=>false
 |x::r,n=>Nat.beq x n||memN r n
def lD:List Nat→Bool
 |[]=>true
 |x::r=>!memN r x&&lD r
def liveIds(h:List Blk):List Nat→Bool
 |[]=>true
 |i::r=>(match nth .dead h i with|.dead=>false|.gh _ _=>false|.pn _ _ _ _=>false|.bF _ _ _ _ _=>false|.mi _ _ _=>false|_=>true)&&liveIds h r
def eU(ids:List Nat):List Nat→List Nat
 |[]=>[]
 |k::r=>nth 0 ids k::eU ids r
def oe(fx:Nat→Bool):List Nat→Bool
 |[]=>true
 |b::r=>!fx b&&oe fx r
def og(n:Nat):List Nat→Bool
 |[]=>true
 |b::r=>Nat.blt b n&&og n r
mutual
def flatP:PV→Bool
 |.aw _ _ _=>false
 |.b7 _ _=>false
 |.agg l=>flatPL l
 |.fn _ a c=>flatPL a&&flatPL c
 |.bK _ x=>flatP x
 |_=>true
def flatPL:List PV→Bool
 |[]=>true
 |x::r=>flatP x&&flatPL r
end
mutual
def flatV:AV→Bool
 |.p x=>flatP x
 |.aD l=>xO l
 |_=>false
def xO:List AV→Bool
 |[]=>true
 |x::r=>flatV x&&xO r
end
def isNil{α:Type}:List α→Bool
 |[]=>true
 |_::_=>false
def ng(l:List Nat):List Nat→Bool
 |[]=>true
 |x::r=>!memN l x&&ng l r
def eV:List Nat→St→St
 |[],st=>st
 |b::r,st=>eV r ⟨killT b st.tmps,setNth (killH b st.heap) b .dead⟩
def mc(E:En)(q:Bool)(f:Nat)(args:List AV)(d:Option Nat)(st:St)(k:St→Prop):Prop:=
 ∃(ids:List Nat) (H:List Blk) (gI:List AV) (mv:List Nat) (cI:AV→List Blk→Prop) (fr:List Nat) (flat:Bool),
  E.F f gI H mv cI∧
  ((bif q then isNil ids else true)=true∧(bif flat then isNil ids&&isNil fr else true)=true∧oe E.fx (eU ids mv)=true∧oe E.fx fr=true∧
    og H.length mv=true∧og st.heap.length fr=true∧ids.length=H.length∧lD ids=true∧ng ids fr=true∧liveIds st.heap ids=true)∧
  fA ids st.heap.length H=getIds st.heap ids∧
  ak st.heap (λb=>flat||memN fr b) (memN ids) args (AV.dX ids st.heap.length gI)∧
  ∀r H',cI r H'→H.length≤H'.length→(flat=true→flatV r=true∧H'=[])∧
   k ((⟨(killAll (eU ids mv) (eV fr st)).tmps,backH (killAll (eU ids mv) (eV fr st)).heap ids (fA ids st.heap.length H')⟩:St).put d (AV.ren ids st.heap.length r))
inductive iW(E:En)(q:Bool)(f:Nat)(args:List AV)(d:Option Nat)(st:St)(k:St→Prop):Prop where
 |mk (h:mc E q f args d st k):iW E q f args d st k
def iX(st:St)(d:Option Nat)(v:AV)(b:Blk):St:=(⟨st.tmps,st.heap++[b]⟩:St).put d v
def forceN(n:Nat)(k:Nat→Prop):Prop:=
 match n with
 |0=>k 0
 |1=>k 1
 |2=>k 2
 |3=>k 3
 |4=>k 4
 |5=>k 5
 |6=>k 6
 |7=>k 7
 |8=>k 8
 |9=>k 9
 |10=>k 10
 |11=>k 11
 |12=>k 12
 |13=>k 13
 |14=>k 14
 |15=>k 15
 |16=>k 16
 |17=>k 17
 |18=>k 18
 |19=>k 19
 |20=>k 20
 |21=>k 21
 |22=>k 22
 |23=>k 23
 |n=>k n
theorem Ns(n:Nat)(k:Nat→Prop):forceN n k=k n:=by unfold forceN;split<;>rfl
def sD(x:AV)(k:AV→Prop):Prop:=
 match x with
 |.p x=>k (.p x)
 |.agg l=>k (.agg l)
 |.aD l=>k (.aD l)
 |.fn f a c=>k (.fn f a c)
 |.bK t x=>k (.bK t x)
 |.ptr b w i j=>forceN b λb=>k (.ptr b w i j)
 |.sl b w i l c=>forceN b λb=>k (.sl b w i l c)
 |.aF b w i j e l=>forceN b λb=>k (.aF b w i j e l)
 |.mpr b=>forceN b λb=>k (.mpr b)
 |.cd b w i l=>forceN b λb=>k (.cd b w i l)
 |.ip b w i r j=>forceN b λb=>k (.ip b w i r j)
 |.undef=>k .undef
def forceT:List (Nat×AV)→(List (Nat×AV)→Prop)→Prop
 |[],k=>k []
 |(s,x)::r,k=>sD x λx=>forceT r λr=>k ((s,x)::r)
def forceCs:List AV→(List AV→Prop)→Prop
 |[],k=>k []
 |x::r,k=>sD x λx=>forceCs r λr=>k (x::r)
def forceB(x:Blk)(k:Blk→Prop):Prop:=
 match x with
 |.dead=>k .dead
 |.mx cells=>forceCs cells λc=>k (.mx c)
 |.pr wd rows=>k (.pr wd rows)
 |.mp ag ks e=>k (.mp ag ks e)
 |.ax n a c=>forceCs c λc=>k (.ax n a c)
 |.gh l r=>k (.gh l r)
 |.pn wo wd c op=>k (.pn wo wd c op)
 |.bF ag ks wd e op=>k (.bF ag ks wd e op)
 |.mi m n s=>k (.mi m n s)
def forceH:List Blk→(List Blk→Prop)→Prop
 |[],k=>k []
 |x::r,k=>forceB x λx=>forceH r λr=>k (x::r)
def forceSt(st:St)(k:St→Prop):Prop:=
 match st with
 |⟨t,h⟩=>forceT t λt=>forceH h λh=>k ⟨t,h⟩
theorem xP(x:AV)(k:AV→Prop):sD x k=k x:=by cases x<;>first|rfl|(rw[sD,Ns])
theorem FW:∀(t:List (Nat×AV)) (k:List (Nat×AV)→Prop),forceT t k=k t
 |[],k=>rfl
 |(s,x)::r,k=>by rw[forceT,xP,FW r]
theorem FX:∀(t:List AV) (k:List AV→Prop),forceCs t k=k t
 |[],k=>rfl
 |x::r,k=>by rw[forceCs,xP,FX r]
theorem Nt(x:Blk)(k:Blk→Prop):forceB x k=k x:=by cases x<;>first|rfl|(rw[forceB,FX])
theorem FY:∀(t:List Blk) (k:List Blk→Prop),forceH t k=k t
 |[],k=>rfl
 |x::r,k=>by rw[forceH,Nt,FY r]
theorem nh(st:St)(k:St→Prop):forceSt st k=k st:=by obtain⟨t,h⟩:=st;rw[forceSt,FW,FY]
def vstore0(E:En)(st:St)(a v:AV)(sz:Nat)(k:St→Prop):Prop:=
 match a with
 |.ptr b wd i j=>
  match nth .dead st.heap b with
  |.mx cells=>match i with
   |0=>(bif vok v&&Nat.beq (cellsOf v).length sz&&Nat.ble (j+sz) cells.length then
    forceSt ⟨st.tmps,setNth st.heap b (.mx (cells.take j++cellsOf v++cells.drop (j+sz)))⟩ k else False)
   |_+1=>False
  |.pr _ _=>bif vok v then vagg E st v λst ys=>(match nth .dead st.heap b with
   |.pr b8 rows=>bif Nat.beq wd b8 then ∃row,rows[i]? =some row∧
    ys.length=sz∧j+sz≤row.length∧k ⟨st.tmps,setNth st.heap b (.pr wd (rows.set i (row.take j++ys++row.drop (j+sz))))⟩else False
   |_=>False)else False
  |_=>False
 |_=>False
def A9(n:Nat)(arr:List PV)(cells:List AV)(j:Nat)(v:AV)(sz:Nat)(k:List PV→List AV→Prop):Prop:=
 bif Nat.beq sz 1 then(j<n∧∃y,cellsOf v=[.p y]∧k (arr.set j y) cells)∨
  (n≤j∧(bif vok v&&Nat.beq (cellsOf v).length sz&&Nat.ble (j - n+sz) cells.length then k arr (cells.take (j - n)++cellsOf v++cells.drop (j - n+sz))else False))
 else bif Nat.ble n j then(bif vok v&&Nat.beq (cellsOf v).length sz&&Nat.ble (j - n+sz) cells.length then k arr (cells.take (j - n)++cellsOf v++cells.drop (j - n+sz))else False)
 else ∃jI rest,cellsOf v=jI.map .p++rest∧(vok v=true∧j=0∧jI.length=n∧n+rest.length=sz∧rest.length≤cells.length)∧k jI (rest++cells.drop rest.length)
def vpnst(E:En)(st:St)(b wo wd:Nat)(cells:List (Bool×List (List PV)))(op:Option Nat)(i:Nat)(v:AV)(k:St→Prop):Prop:=
 match v with
 |.cd b' w' i' len=>bif Nat.beq b' b&&Nat.beq w' wd then(i'=i∧(op=none∨op=some i))∧∃rows,cells[i]? =some (true,rows)∧rows.length=len∧
  k ⟨st.tmps,setNth st.heap b (.pn wo wd cells none)⟩else False
 |.sl m w' i0 len _=>match nth .dead st.heap m with
  |.pr w2 rows=>bif Nat.beq w' wd&&Nat.beq w2 wd&&!E.fx m&&!Nat.beq m b then(i0+len=rows.length∧(op=none∨op=some i)∧i<cells.length)∧
   forceSt ⟨killT m (killT (.h b i) st.tmps),setNth (setNth (killH m (killH (.h b i) st.heap)) m .dead) b (.pn wo wd (cells.set i (true,dropN i0 rows)) none)⟩ k else False
  |_=>False
 |_=>False
def vstore(E:En)(st:St)(a v:AV)(sz:Nat)(k:St→Prop):Prop:=
 match a with
 |.ptr b wd i j=>
  match nth .dead st.heap b with
  |.pn wo w cells op=>bif Nat.beq wd wo&&Nat.beq sz 1 then vpnst E st b wo w cells op (i*wo+j) v k else False
  |.ax n arr cells=>match i with
   |0=>A9 n arr cells j v sz λarr cells=>k ⟨st.tmps,setNth st.heap b (.ax n arr cells)⟩
   |_+1=>False
  |_=>vstore0 E st (.ptr b wd i j) v sz k
 |.ip b wd i r j=>match nth .dead st.heap b with
  |.pn wo w cells op=>bif Nat.beq wd w&&Nat.beq sz 1 then ∃rows row y,(cells[i]? =some (true,rows)∧rows[r]? =some row∧j<row.length)∧cellsOf v=[.p y]∧
   k ⟨st.tmps,setNth st.heap b (.pn wo w (cells.set i (true,rows.set r (row.set j y))) op)⟩else False
  |_=>False
 |_=>False
def cL:Nat:=70368744177664
def vapp(E:En)(st:St)(s x:AV)(esz bytes:Nat)(d:Option Nat)(k:St→Prop):Prop:=
 match s with
 |.p (.aw _ [] (some 0))=>lB st.heap x esz λxs=>xs.length*bytes≤cL∧
  k (iX st d (.sl st.heap.length esz 0 xs.length none) (.pr esz xs))
 |.p (.aw wd rows (some c))=>lB st.heap x esz λxs=>(c<rows.length+xs.length∧(rows.length+xs.length)*bytes≤cL)∧
  (bif Nat.beq wd esz then k (iX st d (.sl st.heap.length esz 0 (rows.length+xs.length) none) (.pr esz (rows++xs)))else False)
 |.p (.aw wd rows none)=>lB st.heap x esz λxs=>xs=[]∧k (st.put d (.p (.aw wd rows none)))
 |.sl b wd i len _=>match nth .dead st.heap b with
  |.pr b8 rows=>bif Nat.beq wd b8&&Nat.beq wd esz&&!E.fx b then lB st.heap x esz λxs=>
   i+len=rows.length∧(len+xs.length)*bytes≤cL∧
   forceSt ⟨killT b st.tmps,setNth (killH b st.heap) b (.pr wd (dropN i rows++xs))⟩ λst=>k (st.put d (.sl b wd 0 (len+xs.length) none))else False
  |.pn wo w cells op=>bif Nat.beq wd wo&&Nat.beq wo esz&&Nat.beq esz 1&&!E.fx b then lB st.heap x esz λxs=>∃n w0,xs=List.replicate n [.aw w0 [] (some 0)]∧
   (op=none∧i=0∧len=cells.length∧(len+n)*bytes≤cL)∧
   forceSt ⟨killT b st.tmps,setNth (killH b st.heap) b (.pn wo w (cells++List.replicate n (true,[])) none)⟩ λst=>k (st.put d (.sl b wo 0 (len+n) none))else False
  |_=>False
 |.cd b wd i len=>match nth .dead st.heap b with
  |.pn wo b8 cells op=>bif Nat.beq wd b8&&Nat.beq wd esz then lB st.heap x esz λxs=>∃rows,cells[i]? =some (true,rows)∧(op=none∧rows.length=len∧(len+xs.length)*bytes≤cL)∧
   forceSt ⟨killT (.h b i) st.tmps,setNth (killH (.h b i) st.heap) b (.pn wo wd (cells.set i (true,rows++xs)) (some i))⟩ λst=>k (st.put d (.cd b wd i (len+xs.length)))else False
  |.bF ag ks b8 ents op=>bif Nat.beq wd b8&&Nat.beq wd esz then lB st.heap x esz λxs=>∃y rows,ents[i]? =some (y,rows)∧(op=none∧rows.length=len∧(len+xs.length)*bytes≤cL)∧
   forceSt ⟨killT (.h b i) st.tmps,setNth (killH (.h b i) st.heap) b (.bF ag ks wd (ents.set i (y,rows++xs)) (some i))⟩ λst=>k (st.put d (.cd b wd i (len+xs.length)))else False
  |_=>False
 |_=>False
def vcopy(st:St)(a s:AV)(esz:Nat)(d:Option Nat)(k:St→Prop):Prop:=
 match a with
 |.sl b wd i len _=>match nth .dead st.heap b with
  |.pr b8 rows=>bif Nat.beq wd b8&&Nat.beq wd esz then lB st.heap s esz λxs=>i+len≤rows.length∧
   k ((⟨st.tmps,setNth st.heap b (.pr wd (rows.take i++xs.take (min xs.length len)++rows.drop (i+min xs.length len)))⟩:St).put d (.p (.int .i64 (min xs.length len:Nat))))else False
  |_=>False
 |.aF b wd i j e len=>match nth .dead st.heap b with
  |.pr b8 rows=>bif Nat.beq wd b8&&Nat.beq e esz&&Nat.beq e 1 then lB st.heap s esz λxs=>∃row ys,rows[i]? =some row∧j+len≤row.length∧
   xs.take (min xs.length len)=ys.map (λx=>[x])∧
   k ((⟨st.tmps,setNth st.heap b (.pr wd (rows.set i (row.take j++ys++row.drop (j+min xs.length len))))⟩:St).put d (.p (.int .i64 (min xs.length len:Nat))))else False
  |_=>False
 |_=>False
def xQ(st:St)(x:AV)(zero:List PV)(esz:Nat)(d:Option Nat)(k:St→Prop):Prop:=
 match x with
 |.sl b wd i len _=>match nth .dead st.heap b with
  |.pr b8 rows=>bif Nat.beq wd b8&&Nat.beq wd esz then i+len≤rows.length∧
   k ((⟨st.tmps,setNth st.heap b (.pr wd (rows.take i++List.replicate len zero++rows.drop (i+len)))⟩:St).put d (.aD []))else False
  |_=>False
 |_=>False
def qK(l:List AV)(k:List PV→Prop):Prop:=
 match allP l with
 |some ps=>k ps
 |none=>False
def A_(x:AV)(k:List PV→Prop):Prop:=
 match x with
 |.p (.agg l)=>k l
 |x=>qK (cellsOf x) k
def xR(arr:Bool)(sz:Nat)(d:Option Nat)(st:St)(v:AV)(k:St→Prop):Prop:=
 match arr with
 |true=>A_ v λps=>ps.length=sz∧k (iX st d (.ptr st.heap.length sz 0 0) (.pr sz [ps]))
 |false=>(bif vok v&&Nat.beq (cellsOf v).length sz then k (iX st d (.ptr st.heap.length sz 0 0) (.mx (cellsOf v)))else False)
def Nu(n sz:Nat)(d:Option Nat)(st:St)(v:AV)(k:St→Prop):Prop:=
 ∃arr rest,cellsOf v=arr.map .p++rest∧(vok v=true∧arr.length=n∧n+rest.length=sz)∧k (iX st d (.ptr st.heap.length sz 0 0) (.ax n arr rest))
def Ba(zero:List PV)(esz bytes:Nat)(d:Option Nat)(st:St)(l c:AV)(k:St→Prop):Prop:=
 match l,c with
 |.p (.int _ n),.p (.int _ m)=>(0≤n∧n≤m∧m*bytes≤cL∧m≤cL)∧
  k (iX st d (.sl st.heap.length esz 0 n.toNat (some m.toNat)) (.pr esz (List.replicate n.toNat zero)))
 |_,_=>False
def Bb(d:Option Nat)(st:St)(x:AV)(k:St→Prop):Prop:=
 match x with
 |.p (.str l)=>k (iX st d (.sl st.heap.length 1 0 l.length none) (.pr 1 (l.map fY)))
 |_=>False
def vyield(en:Bool)(l:Nat)(args:List AV)(d:Option Nat)(st:St)(k:St→Prop):Prop:=
 match st.heap with
 |.gh l' (some (y::r))::h=>l=l'∧qK args λps=>ps=y∧
  ((bif en&&isNil r then True else k ((⟨st.tmps,.gh l' (some r)::h⟩:St).put d (.p (.b true))))∧k ((⟨st.tmps,.gh l' none::h⟩:St).put d (.p (.b false))))
 |_=>False
def vcallv(E:En)(q:Bool)(f:AV)(args:List AV)(d:Option Nat)(st:St)(k:St→Prop):Prop:=
 match f with
 |.p (.fn f a c)=>iW E q f (a.map .p++args++c.map .p) d st k
 |.fn f a c=>iW E q f (a++args++c) d st k
 |.p (.lit (.func (.yield l) fi _))=>match q with
  |true=>False
  |false=>fi= #[]∧vyield E.en l args d st k
 |_=>False
def Bc(E:En)(st:St)(ag:Bool)(ks:List CK)(b wd:Nat)(ents:List (PV×List (List PV)))(op:Option Nat)(x:PV)(v:AV)(k:St→Prop):Prop:=
 match v with
 |.cd b' w' i len=>bif Nat.beq b' b&&Nat.beq w' wd then ∃rows,mfindN ents x 0=some (i,rows)∧(rows.length=len∧(op=none∨op=some i))∧
  k ⟨st.tmps,setNth st.heap b (.bF ag ks wd ents none)⟩else False
 |.sl m w' i0 len _=>match nth .dead st.heap m with
  |.pr w2 rows=>bif Nat.beq w' wd&&Nat.beq w2 wd&&!E.fx m&&!Nat.beq m b then(i0+len=rows.length∧op=none∧mfindN ents x 0=none)∧
   forceSt ⟨killT m (killT (.h b ents.length) st.tmps),setNth (setNth (killH m (killH (.h b ents.length) st.heap)) m .dead) b (.bF ag ks wd (ents++[(x,dropN i0 rows)]) none)⟩ k else False
  |_=>False
 |_=>False
def xS(E:En)(ag:Bool)(ks:List CK)(m x v:AV)(d:Option Nat)(st:St)(k:St→Prop):Prop:=
 qI x λx=>dR ag ks x∧vmapn st.heap m ag ks (λb ents=>qI v λv=>k ((⟨st.tmps,setNth st.heap b (.mp ag ks (mput ents x v))⟩:St).put d .undef))
  λb wd ents op=>Bc E st ag ks b wd ents op x v λst=>k (st.put d .undef)
def Be(ag:Bool)(ks:List CK)(zero:PV)(m x:AV)(d:Option Nat)(st:St)(k:St→Prop):Prop:=
 qI x λx=>dR ag ks x∧vmap st.heap m ag ks λb ents=>∃o,mfind ents x 0=o∧
  match o with
  |some (i,v)=>k (st.put d (.aD [.p v,.p (.int .i64 (i:Nat))]))
  |none=>k ((⟨st.tmps,setNth st.heap b (.mp ag ks (ents++[(x,zero)]))⟩:St).put d (.aD [.p zero,.p (.int .i64 ents.length)]))
def vestore(m s v:AV)(d:Option Nat)(st:St)(k:St→Prop):Prop:=
 qI v λv=>match m,s with
 |.mpr b,.p (.int _ n)=>match nth .dead st.heap b with
  |.mp ag ks ents=>(0≤n∧n<(ents.length:Int))∧k ((⟨st.tmps,setNth st.heap b (.mp ag ks (setVal ents n.toNat v))⟩:St).put d .undef)
  |_=>False
 |_,_=>False
def Bf(d:Option Nat)(st:St)(m:AV)(k:St→Prop):Prop:=
 match m with
 |.mpr b=>match nth .dead st.heap b with
  |.mp _ _ ents=>k (iX st d (.ptr st.heap.length 1 0 0) (.mi (some b) ents.length []))
  |_=>False
 |_=>False
def vmnext(st:St)(x:AV)(d:Option Nat)(k:St→Prop):Prop:=
 match x with
 |.ptr b _ 0 0=>match nth .dead st.heap b with
  |.mi (some m) n seen=>match nth .dead st.heap m with
   |.mp _ _ ents=>n=ents.length∧
    (∀i y v,ents[i]? =some (y,v)→i∉seen→k ((⟨st.tmps,setNth st.heap b (.mi (some m) n (i::seen))⟩:St).put d (.aD [.p (.b true),.p y,.p v])))∧
    ((∀i,i<n→i∈seen)→k (st.put d (.aD [.p (.b false)])))
   |_=>False
  |_=>False
 |_=>False
def findTab:List (TypeId×Nat×Option (Nat×Bool))→TypeId→Option (Nat×Option (Nat×Bool))
 |[],_=>none
 |(t',r)::l,t=>bif Nat.beq t' t then some r else findTab l t
def vinv1(E:En)(q:Bool)(r:Option (Nat×Option (Nat×Bool)))(y:AV)(args:List AV)(d:Option Nat)(st:St)(k:St→Prop):Prop:=
 match r with
 |some (f,none)=>iW E q f (y::args) d st k
 |some (f,some (sz,ag))=>vload st.heap y sz ag λx=>iW E q f (x::args) d st k
 |none=>False
def xU(E:En)(q:Bool)(uW:List (TypeId×Nat×Option (Nat×Bool)))(x:AV)(args:List AV)(d:Option Nat)(st:St)(k:St→Prop):Prop:=
 match x with
 |.p (.bK t y)=>vinv1 E q (findTab uW t) (.p y) args d st k
 |.bK t y=>vinv1 E q (findTab uW t) y args d st k
 |_=>False
def iB(E:En)(q:Bool)(o:RO)(d:Option Nat)(st:St)(k:St→Prop):Prop:=
 match o with
 |.alloc arr zero=>k (iX st d (.ptr st.heap.length zero.length 0 0) (bif arr then .pr zero.length [zero]else .mx (zero.map .p)))
 |.sy n z rest=>k (iX st d (.ptr st.heap.length (n+rest.length) 0 0) (.ax n (List.replicate n z) (rest.map .p)))
 |.box arr x sz=>force (ev st x) λv=>xR arr sz d st v k
 |.uT n x sz=>Nu n sz d st (ev st x) k
 |.xD esz parts=>xK E st (evL st parts) λst rows=>(∀r∈rows,r.length=esz)∧
  k (iX st d (.sl st.heap.length esz 0 rows.length (some rows.length)) (.pr esz rows))
 |.xE zero esz bytes l c=>Ba zero esz bytes d st (ev st l) (ev st c) k
 |.bytesOf x=>Bb d st (ev st x) k
 |.store a v sz=>match q with
  |true=>False
  |false=>force (ev st a) λa=>force (ev st v) λv=>vstore E st a v sz λst=>k (st.put d .undef)
 |.app s x esz bytes=>match q with
  |true=>False
  |false=>force (ev st s) λs=>force (ev st x) λx=>vapp E st s x esz bytes d k
 |.copy a s esz=>match q with
  |true=>False
  |false=>force (ev st a) λa=>force (ev st s) λs=>vcopy st a s esz d k
 |.xF x zero esz=>match q with
  |true=>False
  |false=>force (ev st x) λx=>xQ st x zero esz d k
 |.call f args=>iW E q f (evL st args) d st k
 |.AQ f args=>vcallv E q (ev st f) (evL st args) d st k
 |.xG ag ks=>k (iX st d (.mpr st.heap.length) (.mp ag ks []))
 |.uU ag ks m x v=>match q with
  |true=>False
  |false=>force (ev st x) λx=>force (ev st v) λv=>xS E ag ks (ev st m) x v d st k
 |.uV ag ks zero m x=>match q with
  |true=>False
  |false=>force (ev st x) λx=>Be ag ks zero (ev st m) x d st k
 |.xH m s v=>match q with
  |true=>False
  |false=>force (ev st v) λv=>vestore (ev st m) (ev st s) v d st k
 |.AS m=>Bf d st (ev st m) k
 |.AT x=>match q with
  |true=>False
  |false=>force (ev st x) λx=>vmnext st x d k
 |.inv uW x args=>force (ev st x) λx=>xU E q uW x (evL st args) d st k
 |o=>sB o st λv=>k (st.put d v)
def guarded(g:Option (Nat×Bool))(d:Option Nat)(st:St)(k:St→Prop)(yes:St→Prop):Prop:=
 match g with
 |none=>yes st
 |some (s,want)=>match lk st.tmps s with
  |.p (.b c)=>bk c λc=>match c,want with
   |true,true|false,false=>yes ⟨(s,.p (.b c))::st.tmps,st.heap⟩
   |_,_=>k ((⟨(s,.p (.b c))::st.tmps,st.heap⟩:St).put d (.aD []))
  |.aD []=>k (st.put d (.aD []))
  |_=>False
def vops(E:En):List It→St→(St→Prop)→Prop
 |[],st,k=>k st
 |⟨g,d,o⟩::r,st,k=>guarded g d st (λst=>vops E r st k) λst=>iB E false o d st λst=>vops E r st k
def vdt(E:En):DT→St→(St→Prop)→Prop
 |.done,st,k=>k st
 |.take ⟨g,d,o⟩ r,st,k=>guarded g d st (λst=>vdt E r st k) λst=>sB o st λv=>vdt E r (st.put d v) k
 |.alt ⟨g,d,o⟩ last r other,st,k=>
  (guarded g d st (λst=>vdt E r st k) λst=>iB E (!last) o d st λst=>vdt E r st k)∧vdt E other st k
 |.xI,_,_=>True
def u9(ids:List Nat)(n:Nat):List (Nat×AV)→List (Nat×AV)
 |[]=>[]
 |(s,x)::r=>(s,AV.ren ids n x)::u9 ids n r
def St.perm(st:St)(ids:List Nat):St:=⟨u9 ids ids.length st.tmps,getIds (fA ids ids.length st.heap) ids⟩
def xV(fx:Nat→Bool)(ids:List Nat):Nat→Bool
 |0=>true
 |k+1=>(Nat.beq (nth 0 ids (nth 0 ids k)) k&&Nat.blt (nth 0 ids k) ids.length&&(!(fx k||Nat.beq k 0)||Nat.beq (nth 0 ids k) k))&&xV fx ids k
def Bg(fx:Nat→Bool)(n:Nat)(ids:List Nat):Bool:=Nat.beq ids.length n&&xV fx ids n
inductive fB(E:En)(K:St→Prop)(st:St):Prop
 |here (h:K st)
 |via (st':St) (h:K st') (hle:cZ E st st')
 |perm (ids:List Nat) (st':St) (h:K st') (hp:Bg E.fx st.heap.length ids=true) (hle:cZ E (st.perm ids) st')
def inBlk(id:Nat)(K:Ex→St→Prop):Ex→St→Prop
 |.exit n,st=>bif Nat.beq n id then K .normal st else K (.exit n) st
 |e,st=>K e st
def FZ(n:St→Prop)(K:Ex→St→Prop):Ex→St→Prop
 |.normal,st=>n st
 |e,st=>K e st
def F0(c:AV)(k:Bool→Prop):Prop:=
 match c with
 |.p (.b c)=>bk c k
 |_=>False
def Bh(c:aS)(b:Bool)(st:St):St:=
 match c with
 |.t s=>⟨(s,.p (.b b))::st.tmps,st.heap⟩
 |.c _=>st
def onIter(f:AV)(k:Nat→List PV→Prop):Prop:=
 match f with
 |.p (.fn g [] bu)=>k g bu
 |_=>False
def zipP:List Nat→List PV→List (Nat×AV)→List (Nat×AV)
 |p::ps,y::ys,t=>(p,.p y)::zipP ps ys t
 |_,_,t=>t
def xW(n:St→Prop):Ex→St→Prop
 |.normal,st=>n st
 |_,_=>False
def xX(live:List Nat)(K:Ex→St→Prop)(n:St→Prop):Ex→St→Prop
 |.normal,st=>n st
 |e,st=>K e (trim live st)
def awp(E:En):RC→(Ex→St→Prop)→St→Prop
 |.skip,K,st=>K .normal st
 |.ops l,K,st=>vops E l st (K .normal)
 |.draw t,K,st=>vdt E t st (fB E (K .normal))
 |.seq a b,K,st=>awp E a (FZ (awp E b K) K) st
 |.cond c a b,K,st=>F0 (ev st c) λv=>match v with
  |true=>awp E a K (Bh c true st)
  |false=>awp E b K (Bh c false st)
 |.block id a,K,st=>awp E a (inBlk id K) st
 |.loop live a,K,st=>∃(ms:List pB) (α:Type) (mk:α→St) (ok:α→Prop) (mu:α→Nat),
  (∃x,ok x∧cZ E ((trim live st).kJ ms) (mk x))∧
  ∀x,ok x→awp E a (FZ (λst=>∃y,ok y∧mu y<mu x∧cZ E (trim live st) (mk y)) K) (mk x)
 |.AU live f ps asg a,K,st=>onIter (ev st f) λg bu=>∃(en:Bool) (ys:List (List PV)) (ms:List pB) (α:Type) (mk:α→St) (ok:List (List PV)→α→Prop),
  E.G g bu en ys∧(en=true→∀x,¬ok [] x)∧(∀y∈ys,y.length=ps.length)∧
  (∃x,ok ys x∧cZ E ((trim live st).kJ ms) (mk x))∧
  (∀y r x,ok (y::r) x→awp E asg (xW λst=>awp E a (xX live K λst=>∃x,ok r x∧cZ E (trim live st) (mk x)) st) ⟨zipP ps y (mk x).tmps,(mk x).heap⟩)∧
  ∀x,ok [] x→K .normal (mk x)
 |.exit id,K,st=>K (.exit id) st
 |.ret,K,st=>K .ret st
def vres1(st:St)(r:sA)(k:AV→Prop):Prop:=
 match r with
 |.tmp t=>force (lk st.tmps t) k
 |.cell t sz ag=>vload st.heap (lk st.tmps t) sz ag k
def vres(st:St):List sA→(List AV→Prop)→Prop
 |[],k=>k []
 |r::rs,k=>vres1 st r λx=>vres st rs λxs=>k (x::xs)
def resV:List AV→AV
 |[x]=>x
 |l=>.aD l
def u_(E:En)(res:List sA)(cI:AV→List Blk→Prop):Ex→St→Prop
 |.exit _,_=>False
 |_,st=>vres st res λxs=>∃r H',cI r H'∧(Nat.ble E.k H'.length=true∧fixOk E.fx H' E.k=true)∧
  ah st.heap (λb=>!da H' b) (λb=>da H' b) (resV xs) r∧
  ar st.heap (λb=>!da H' b) (λb=>da H' b) st.heap H'
def params:Nat→List AV→List (Nat×AV)
 |_,[]=>[]
 |n,x::r=>(n,x)::params (n+1) r
theorem f_{a b:Nat}(h:a≠b):Nat.beq a b=false:=by
 cases hb:Nat.beq a b
 ·rfl
 ·exact absurd (abt hb) h
structure az where
 m:Bn→Option (Nat×Nat×Nat)
 X:Nat→Prop
 S:Nat→Prop
 D:List Nat
 G:Prop
instance:CoeFun az (λ_=>Bn→Option (Nat×Nat×Nat)):=⟨az.m⟩
def az.I(ι:az)(c:Nat):Prop:=∃b o s,ι b=some (c,o,s)
def az.M(ι:az)(c:Nat):Prop:=ι.I c∨ι.X c
def PV.one:PV→Bool
 |.agg _=>false
 |_=>true
inductive RP(w:World)(M:Nat→Prop):PV→Value→Prop
 |int (k:IntKind) (n:Int):RP w M (.int k n) (.int k n)
 |b (x:Bool):RP w M (.b x) (.bool x)
 |str (l:List UInt8):RP w M (.str l) (.string ⟨⟨l⟩⟩)
 |lit (v:Value) (h:dQ v=true):RP w M (.lit v) v
 |nil {wd:Nat} {cap:Option Nat} {a:Option Addr} {c:Nat} (h:∀k,cap=some k→c=k):RP w M (.aw wd [] cap) (.slice a 0 c)
 |aw {wd:Nat} {rows:List (List PV)} {cap:Option Nat} {a:Addr} {c:Nat} {cv:Nat→Nat→Value} (hs:a.spot=none) (hM:¬M a.block)
  (hb:a.block<w.heap.size) (hc:rows.length≤c) (aR:∀k,cap=some k→c=k)
  (bm:∀(i:Nat) (row:List PV),rows[i]? =some row→row.length=wd)
  (bA:∀(i:Nat) (row:List PV) (j:Nat) (x:PV),rows[i]? =some row→row[j]? =some x→PV.one x=true)
  (bn:∀(i:Nat) (row:List PV) (j:Nat) (x:PV),rows[i]? =some row→row[j]? =some x→w.cell? ⟨a.block,a.off+(i*wd+j),none⟩=some (cv i j))
  (dv:∀(i:Nat) (row:List PV) (j:Nat) (x:PV),rows[i]? =some row→row[j]? =some x→RP w M x (cv i j)):RP w M (.aw wd rows cap) (.slice (some a) rows.length c)
 |b7 {row:List PV} {j:Nat} {a:Addr} {cv:Nat→Value} (hs:a.spot=none) (hM:¬M a.block) (hb:a.block<w.heap.size)
  (bA:∀(i:Nat) x,row[i]? =some x→PV.one x=true)
  (bn:∀(i:Nat) x,row[i]? =some x→w.cell? ⟨a.block,a.off+i,none⟩=some (cv i))
  (dv:∀(i:Nat) x,row[i]? =some x→RP w M x (cv i)):RP w M (.b7 row j) (.pointer (some ⟨a.block,a.off+j,none⟩))
 |agg {cells:List PV} {cs:Array Value} (hl:cs.size=cells.length) (bA:∀(i:Nat) x,cells[i]? =some x→PV.one x=true)
  (h:∀(i:Nat) x,cells[i]? =some x→RP w M x (cs.getD i undef)):RP w M (.agg cells) (.agg cs)
 |fn {f:Nat} {first cap:List PV} {fa ca:Array Value} (h1:fa.size=first.length) (h2:ca.size=cap.length)
  (h3:∀(i:Nat) x,first[i]? =some x→RP w M x (fa.getD i undef)) (h4:∀(i:Nat) x,cap[i]? =some x→RP w M x (ca.getD i undef)):
  RP w M (.fn f first cap) (.func (.func f) fa ca)
 |bK {t:TypeId} {x:PV} {v:Value} (h:RP w M x v):RP w M (.bK t x) (.iface t v)
theorem RP.sE{w:World}{M:Nat→Prop}{x:PV}{v:Value}(h:RP w M x v)(h1:x.one=true):dQ v=true:=by
 cases h<;>first|rfl|assumption|(simp[PV.one]at h1)
structure bc(M:Nat→Prop)(w w':World)(M':Nat→Prop):Prop where
 keep:∀(c:Nat) (o:Obj),¬M c→w.heap[c]? =some o→w'.heap[c]? =some o
 new:∀c,M' c→M c∨w.heap.size≤c
 grow:w.heap.size≤w'.heap.size
theorem bc.cell{M M':Nat→Prop}{w w':World}(h:bc M w w' M'){a:Addr}{v:Value}(hM:¬M a.block)(hc:w.cell? a=some v):
 w'.cell? a=some v:=by
 unfold World.cell? at*
 cases ho:w.heap[a.block]? with
 |none=>simp[ho]at hc
 |some o=>rw[h.keep _ _ hM ho];rw[ho]at hc;exact hc
theorem bc.refl(M:Nat→Prop)(w:World):bc M w w M:=⟨λ_ _ _ h=>h,λ_ h=>.inl h,aaV _⟩
theorem RP.later{w w':World}{M M':Nat→Prop}(hL:bc M w w' M'){x:PV}{v:Value}(h:RP w M x v):RP w' M' x v:=by
 induction h with
 |int k n=>exact .int k n
 |b x=>exact .b x
 |str l=>exact .str l
 |lit v h=>exact .lit v h
 |nil h=>exact .nil h
 |aw hs hM hb hc aR bm bA bn dv ih=>
  refine .aw hs (λh'=>?_) (abY hb hL.grow) hc aR bm bA (λi row j x h1 h2=>hL.cell hM (bn i row j x h1 h2)) ih
  rcases hL.new _ h' with h'|h'
  ·exact hM h'
  ·omega
 |b7 hs hM hb bA bn dv ih=>
  refine .b7 hs (λh'=>?_) (abY hb hL.grow) bA (λi x h1=>hL.cell hM (bn i x h1)) ih
  rcases hL.new _ h' with h'|h'
  ·exact hM h'
  ·omega
 |agg hl bA h ih=>exact .agg hl bA ih
 |fn h1 h2 h3 h4 iY iZ=>exact .fn h1 h2 iY iZ
 |bK h ih=>exact .bK ih
inductive RA(w:World)(ι:az):AV→Value→Prop
 |p {x:PV} {v:Value} (h:RP w ι.M x v):RA w ι (.p x) v
 |aE (v:Value):RA w ι .undef v
 |ptr {b wd i j c o s:Nat} (h:ι b=some (c,o,s)):RA w ι (.ptr b wd i j) (.pointer (some ⟨c,o+(i*wd+j),none⟩))
 |sl {b wd i len c o s cc:Nat} {cap:Option Nat} (h:ι b=some (c,o,s)) (hl:len≤cc) (aR:∀k,cap=some k→cc=k)
  (hs:o+(i+cc)*wd≤s):RA w ι (.sl b wd i len cap) (.slice (some ⟨c,o+i*wd,none⟩) len cc)
 |db {b wd i:Nat} {cap:Option Nat} {oa:Option Addr} (aR:∀k,cap=some k→k=0):RA w ι (.sl b wd i 0 cap) (.slice oa 0 0)
 |aF {b wd i j esz len c o s cc:Nat} (h:ι b=some (c,o,s)) (hl:len≤cc):
  RA w ι (.aF b wd i j esz len) (.slice (some ⟨c,o+(i*wd+j),none⟩) len cc)
 |i_ {b wd i j esz cc:Nat} {oa:Option Addr}:RA w ι (.aF b wd i j esz 0) (.slice oa 0 cc)
 |mpr {b c o s:Nat} (h:ι b=some (c,o,s)):RA w ι (.mpr b) (.map (some c))
 |cd {b wd i len c o s cc:Nat} (h:ι (.h b i)=some (c,o,s)) (hl:len≤cc) (hs:o+cc*wd≤s):RA w ι (.cd b wd i len) (.slice (some ⟨c,o,none⟩) len cc)
 |iC {b wd i:Nat} {oa:Option Addr}:RA w ι (.cd b wd i 0) (.slice oa 0 0)
 |ip {b wd i r j c o s:Nat} (h:ι (.h b i)=some (c,o,s)):RA w ι (.ip b wd i r j) (.pointer (some ⟨c,o+(r*wd+j),none⟩))
 |agg {cells:List AV} {cs:Array Value} (hl:cs.size=cells.length) (bA:∀(i:Nat) x,cells[i]? =some x→dQ (cs.getD i undef)=true)
  (h:∀(i:Nat) x,cells[i]? =some x→RA w ι x (cs.getD i undef)):RA w ι (.agg cells) (.agg cs)
 |aD {vs:List AV} {cs:Array Value} (hl:cs.size=vs.length) (h:∀(i:Nat) x,vs[i]? =some x→RA w ι x (cs.getD i undef)):RA w ι (.aD vs) (.tuple cs)
 |fn {f:Nat} {first cap:List AV} {fa ca:Array Value} (h1:fa.size=first.length) (h2:ca.size=cap.length)
  (h3:∀(i:Nat) x,first[i]? =some x→RA w ι x (fa.getD i undef)) (h4:∀(i:Nat) x,cap[i]? =some x→RA w ι x (ca.getD i undef)):
  RA w ι (.fn f first cap) (.func (.func f) fa ca)
 |bK {t:TypeId} {x:AV} {v:Value} (h:RA w ι x v):RA w ι (.bK t x) (.iface t v)
theorem RA.later{w w':World}{ι aC:az}(hL:bc ι.M w w' aC.M)(bh:∀b p,ι b=some p→aC b=some p){x:AV}{v:Value}(h:RA w ι x v):RA w' aC x v:=by
 induction h with
 |p h=>exact .p (h.later hL)
 |aE v=>exact .aE v
 |ptr h=>exact .ptr (bh _ _ h)
 |sl h hl aR hs=>exact .sl (bh _ _ h) hl aR hs
 |db aR=>exact .db aR
 |aF h hl=>exact .aF (bh _ _ h) hl
 |i_=>exact .i_
 |mpr h=>exact .mpr (bh _ _ h)
 |cd h hl hs=>exact .cd (bh _ _ h) hl hs
 |iC=>exact .iC
 |ip h=>exact .ip (bh _ _ h)
 |agg hl bA h ih=>exact .agg hl bA ih
 |aD hl h ih=>exact .aD hl ih
 |fn h1 h2 h3 h4 iY iZ=>exact .fn h1 h2 iY iZ
 |bK h ih=>exact .bK ih
theorem sF(b:Bn)(l:List AV)(i:Nat):(AV.killL b l)[i]? =(l[i]?).map (AV.kill b):=by
 induction l generalizing i with
 |nil=>simp[AV.killL]
 |cons x r ih=>cases i<;>simp[AV.killL,ih]
theorem qL(b:Bn)(l:List AV):(AV.killL b l).length=l.length:=by
 induction l with
 |nil=>rfl
 |cons x r ih=>simp[AV.killL,ih]
def Bn.hit(k:Bn):Bn→Bool
 |.v b=>k.hitV b
 |.h b i=>k.hitH b i
theorem Bn.Nv(b:Nat)(x:Bn):(Bn.v b).hit x=Nat.beq x.base b:=by cases x<;>rfl
theorem Bn.oh{b:Nat}{x:Bn}(h:(Bn.v b).hit x=false):x.base≠b:=λe=>by rw[Bn.Nv,e]at h;simp at h
theorem Bn.qM{b b':Nat}(h:b'≠b):(Bn.v b')≠.v b:=λe=>h (Bn.v.inj e)
theorem RA.kill{w w':World}{ι aC:az}{b:Bn}(hL:bc ι.M w w' aC.M)(bh:∀b',b.hit b'=false→∀p,ι b'=some p→aC b'=some p){x:AV}{v:Value}(h:RA w ι x v):
 RA w' aC (x.kill b) v:=by
 induction h with
 |p h=>exact .p (h.later hL)
 |aE v=>exact .aE v
 |ptr h=>
  rename_i b' wd i j c o s
  unfold AV.kill
  cases e:b.hitV b' with
  |true=>exact .aE _
  |false=>exact .ptr (bh (.v b') e _ h)
 |sl h hl aR hs=>
  rename_i b' wd i len c o s cc cap
  unfold AV.kill
  cases e:b.hitV b' with
  |true=>exact .aE _
  |false=>exact .sl (bh (.v b') e _ h) hl aR hs
 |db aR=>
  rename_i b' wd i cap oa
  unfold AV.kill
  cases e:b.hitV b' with
  |true=>exact .aE _
  |false=>exact .db aR
 |aF h hl=>
  rename_i b' wd i j esz len c o s cc
  unfold AV.kill
  cases e:b.hitV b' with
  |true=>exact .aE _
  |false=>exact .aF (bh (.v b') e _ h) hl
 |i_=>
  rename_i b' wd i j esz cc oa
  unfold AV.kill
  cases e:b.hitV b' with
  |true=>exact .aE _
  |false=>exact .i_
 |mpr h=>
  rename_i b' c o s
  unfold AV.kill
  cases e:b.hitV b' with
  |true=>exact .aE _
  |false=>exact .mpr (bh (.v b') e _ h)
 |cd h hl hs=>
  rename_i b' wd i len c o s cc
  unfold AV.kill
  cases e:b.hitH b' i with
  |true=>exact .aE _
  |false=>exact .cd (bh (.h b' i) e _ h) hl hs
 |iC=>
  rename_i b' wd i oa
  unfold AV.kill
  cases e:b.hitH b' i with
  |true=>exact .aE _
  |false=>exact .iC
 |ip h=>
  rename_i b' wd i r j c o s
  unfold AV.kill
  cases e:b.hitH b' i with
  |true=>exact .aE _
  |false=>exact .ip (bh (.h b' i) e _ h)
 |agg hl bA h ih=>
  rw[AV.kill]
  refine .agg (by rw[qL];exact hl) (λi x hx=>?_) (λi x hx=>?_)
  all_goals rw[sF]at hx;obtain⟨y,hy,rfl⟩:=aa0.1 hx
  ·exact bA i y hy
  ·exact ih i y hy
 |aD hl h ih=>
  rw[AV.kill]
  refine .aD (by rw[qL];exact hl) (λi x hx=>?_)
  rw[sF]at hx;obtain⟨y,hy,rfl⟩:=aa0.1 hx
  exact ih i y hy
 |fn h1 h2 h3 h4 iY iZ=>
  rw[AV.kill]
  refine .fn (by rw[qL];exact h1) (by rw[qL];exact h2) (λi x hx=>?_) (λi x hx=>?_)
  all_goals rw[sF]at hx;obtain⟨y,hy,rfl⟩:=aa0.1 hx
  ·exact iY i y hy
  ·exact iZ i y hy
 |bK h ih=>rw[AV.kill];exact .bK ih
def kK(n:Nat)(fz:Nat×Nat):Prop:=∀o,o<n→¬(fz.1≤o∧o<fz.2)
def om(w:World)(ι:az)(c:Nat)(ag:Bool)(ks:List CK)(ents:List (PV×PV)):Prop:=
 ∃es,w.heap[c]? =some (.map es ents.length)∧es.size=ents.length∧
  ∀(i:Nat) k v,ents[i]? =some (k,v)→dR ag ks k∧∃e,es[i]? =some e∧e.born=i∧RP w ι.M k e.key∧RP w ι.M v e.val
def RB(w:World)(ι:az)(p:Option (Nat×Nat×Nat)):Blk→Prop
 |.dead=>p=none
 |.mx cells=>∃c o s cs ty fz,p=some (c,o,s)∧w.heap[c]? =some (.cells cs ty fz)∧kK cs.size fz∧cs.size=s∧o+cells.length≤s∧
  ∀(j:Nat) x,cells[j]? =some x→∃v,cs[o+j]? =some v∧dQ v=true∧RA w ι x v
 |.pr wd rows=>(p=none∧rows=[])∨∃c o s cs ty fz,p=some (c,o,s)∧w.heap[c]? =some (.cells cs ty fz)∧kK cs.size fz∧cs.size=s∧o+rows.length*wd≤s∧
  (∀(i:Nat) (row:List PV),rows[i]? =some row→row.length=wd)∧
  ∀(i:Nat) (row:List PV) (j:Nat) (x:PV),rows[i]? =some row→row[j]? =some x→x.one=true∧∃v,cs[o+(i*wd+j)]? =some v∧RP w ι.M x v
 |.mp ag ks ents=>∃c o s,p=some (c,o,s)∧om w ι c ag ks ents
 |.gh _ _=>p=none∧ι.G
 |.pn _ wd cells _=>(p=none∧cells=[])∨∃c o s cs ty fz,p=some (c,o,s)∧w.heap[c]? =some (.cells cs ty fz)∧kK cs.size fz∧cs.size=s∧o+cells.length≤s∧
  ∀(j:Nat) fl rows,cells[j]? =some (fl,rows)→∃v,cs[o+j]? =some v∧dQ v=true∧(fl=false→RP w ι.M (.aw wd rows (some rows.length)) v)
 |.bF ag ks _ ents _=>∃c o s,p=some (c,o,s)∧∃es,w.heap[c]? =some (.map es ents.length)∧es.size=ents.length∧
  ∀(i:Nat) k rows,ents[i]? =some (k,rows)→dR ag ks k∧∃e,es[i]? =some e∧e.born=i∧RP w ι.M k e.key
 |.mi m n seen=>∃c s cm sn,p=some (c,0,s)∧w.heap[c]? =some (.mapIter (some cm) n sn n)∧sn.toList.reverse=seen∧∀b,m=some b→∃o2 s2,ι (.v b)=some (cm,o2,s2)
 |.ax n arr cells=>arr.length=n∧∃c o s cs ty fz,p=some (c,o,s)∧w.heap[c]? =some (.cells cs ty fz)∧kK cs.size fz∧cs.size=s∧o+(arr.map AV.p++cells).length≤s∧
  ∀(j:Nat) x,(arr.map AV.p++cells)[j]? =some x→∃v,cs[o+j]? =some v∧dQ v=true∧RA w ι x v
def ga(w:World)(M:Nat→Prop):Prop:=
 ∀g row,(g,row)∈AW→¬M g∧g<w.heap.size∧∀(i:Nat) x,row[i]? =some x→PV.one x=true∧∃v,w.cell? ⟨g,i,none⟩=some v∧RP w M x v
theorem ga.later{w w':World}{M M':Nat→Prop}(h:ga w M)(hL:bc M w w' M'):ga w' M':=λg row hg=>by
 obtain⟨h1,h2,h3⟩:=h g row hg
 refine⟨λh'=>?_,abY h2 hL.grow,λi x hx=>?_⟩
 ·rcases hL.new _ h' with h'|h'
  ·exact h1 h'
  ·omega
 ·obtain⟨ho,v,hv,hr⟩:=h3 i x hx
  exact⟨ho,v,hL.cell h1 hv,hr.later hL⟩
def lE(w:World)(p:Option (Nat×Nat×Nat)):Blk→Nat→Value→Prop
 |.pn _ _ _ _,i,v=>∃c o s,p=some (c,o,s)∧w.cell? ⟨c,o+i,none⟩=some v
 |.bF _ _ _ ents _,i,v=>∃c o s es e,p=some (c,o,s)∧w.heap[c]? =some (.map es ents.length)∧es[i]? =some e∧e.val=v
 |_,_,_=>False
def pC(q:Option (Nat×Nat×Nat))(wd len:Nat)(v:Value):Prop:=
 (∃c o s cc,q=some (c,o,s)∧v=.slice (some ⟨c,o,none⟩) len cc∧len≤cc∧o+cc*wd≤s)∨(len=0∧∃oa,v=.slice oa 0 0)
def HB(w:World)(ι:az)(p q:Option (Nat×Nat×Nat))(i:Nat)(x:Blk):Prop:=
 match x.inner i with
 |none=>q=none
 |some (wd,rows,t)=>RB w ι q (.pr wd rows)∧(t=true→∃v,lE w p x i v∧pC q wd rows.length v)
structure bL(ι:az)(h:List Blk)(w:World):Prop where
 gl:ga w ι.M
 blk:∀b:Nat,RB w ι (ι b) (nth .dead h b)
 inj:∀b b' c o s o' s',ι b=some (c,o,s)→ι b'=some (c,o',s')→b=b'
 cD:∀b c o s,ι b=some (c,o,s)→¬ι.X c
 hid:∀b i,HB w ι (ι (.v b)) (ι (.h b i)) i (nth .dead h b)
theorem bL.size{ι:az}{h:List Blk}{w:World}(hr:bL ι h w){x:Bn}{c o s:Nat}(hb:ι x=some (c,o,s)):
 ∃ob,w.heap[c]? =some ob∧nth .dead h x.base≠.dead:=by
 cases x with
 |h b i=>
  have:=hr.hid b i
  unfold HB at this
  show ∃ob,w.heap[c]? =some ob∧nth .dead h b≠.dead
  cases hk:(nth .dead h b).inner i with
  |none=>rw[hk]at this;rw[hb]at this;cases this
  |some y=>
   obtain⟨wd,rows,t⟩:=y
   rw[hk]at this
   obtain⟨h1,_⟩:=this
   rw[hb,RB]at h1
   rcases h1 with⟨h0,_⟩|⟨c',o',s',cs,ty,fz,he,h1,_⟩
   ·cases h0
   ·cases he
    exact⟨_,h1,λe=>by rw[e]at hk;cases hk⟩
 |v b=>
 show ∃ob,w.heap[c]? =some ob∧nth .dead h b≠.dead
 have:=hr.blk b
 cases hk:nth .dead h b with
 |dead=>rw[hk,RB,hb]at this;cases this
 |mx cells=>
  rw[hk,RB,hb]at this
  obtain⟨c',o',s',cs,ty,fz,he,h1,hf,h2,_⟩:=this
  cases he
  exact⟨_,h1,by simp⟩
 |pr wd rows=>
  rw[hk,RB,hb]at this
  rcases this with⟨h0,_⟩|⟨c',o',s',cs,ty,fz,he,h1,hf,h2,_⟩
  ·cases h0
  ·cases he
   exact⟨_,h1,by simp⟩
 |mp ag ks ents=>
  rw[hk,RB,hb]at this
  obtain⟨c',o',s',he,es,h1,_⟩:=this
  cases he
  exact⟨_,h1,by simp⟩
 |gh l r=>
  rw[hk,RB,hb]at this
  cases this.1
 |ax n arr cells=>
  rw[hk,RB,hb]at this
  obtain⟨_,c',o',s',cs,ty,fz,he,h1,hf,h2,_⟩:=this
  cases he
  exact⟨_,h1,by simp⟩
 |pn wo wd cells op=>
  rw[hk,RB,hb]at this
  rcases this with⟨h0,_⟩|⟨c',o',s',cs,ty,fz,he,h1,_⟩
  ·cases h0
  cases he
  exact⟨_,h1,by simp⟩
 |bF ag ks wd ents op=>
  rw[hk,RB,hb]at this
  obtain⟨c',o',s',he,es,h1,_⟩:=this
  cases he
  exact⟨_,h1,by simp⟩
 |mi m n seen=>
  rw[hk,RB,hb]at this
  obtain⟨c',s',cm,sn,he,h1,_⟩:=this
  cases he
  exact⟨_,h1,by simp⟩
theorem bL.lt{ι:az}{h:List Blk}{w:World}(hr:bL ι h w){c:Nat}(hc:ι.I c):c<w.heap.size:=by
 obtain⟨b,o,s,hb⟩:=hc
 obtain⟨ob,h1,_⟩:=hr.size hb
 exact(aa8.1 h1).1
theorem mg{α:Type}(d:α)(l:List α)(n:Nat)(h:l.length≤n):nth d l n=d:=by
 induction l generalizing n with
 |nil=>rfl
 |cons x r ih=>cases n with
  |zero=>simp at h
  |succ n=>simp[nth];exact ih n (by simpa using h)
theorem iD{α:Type}(d:α)(l:List α)(n:Nat):nth d l n=(l[n]?).getD d:=by
 induction l generalizing n with
 |nil=>simp[nth]
 |cons x r ih=>cases n with
  |zero=>simp[nth]
  |succ n=>simp[nth,ih]
theorem eA{α:Type}(l:List α)(n:Nat)(v:α):setNth l n v=l.set n v:=by
 induction l generalizing n with
 |nil=>rfl
 |cons x r ih=>cases n with
  |zero=>rfl
  |succ n=>simp[setNth,ih]
theorem gJ{α:Type}(n:Nat)(l:List α):dropN n l=l.drop n:=by cases n<;>rfl
theorem pD{α:Type}(d:α)(l:List α)(x:α)(n:Nat):nth d (l++[x]) n=if n=l.length then x else nth d l n:=by
 rw[iD,iD,abI]
 by_cases h:n<l.length
 ·simp[h,Nat.ne_of_lt h]
 ·by_cases e:n=l.length
  ·subst e;simp
  ·have h1:l[n]? =none:=aa4 (by omega)
   have h2:([x]:List α)[n - l.length]? =none:=aa4 (by simp;omega)
   simp[h,e,h2]
theorem dc{α:Type}(d:α)(l:List α)(n m:Nat)(v:α)(h:n<l.length):nth d (setNth l n v) m=if m=n then v else nth d l m:=by
 rw[eA,iD,iD,abd]
 by_cases e:n=m
 ·subst e;simp[h]
 ·simp[e,abx e]
theorem bL.fO{ι:az}{h:List Blk}{w:World}(hr:bL ι h w){b:Nat}(hb:nth .dead h b≠.dead):b<h.length:=by
 rcases abL b h.length with h'|h'
 ·exact h'
 ·exact absurd (mg _ _ _ h') hb
theorem om.later{w w':World}{ι aC:az}{c:Nat}{ag:Bool}{ks:List CK}{ents:List (PV×PV)}(hL:bc ι.M w w' aC.M)(hk:w'.heap[c]? =w.heap[c]?)(h:om w ι c ag ks ents):om w' aC c ag ks ents:=by
 obtain⟨es,h1,h2,h3⟩:=h
 refine⟨es,by rw[hk];exact h1,h2,λi k v hi=>?_⟩
 obtain⟨g0,e,g1,g2,g3,g4⟩:=h3 i k v hi
 exact⟨g0,e,g1,g2,g3.later hL,g4.later hL⟩
theorem RB.sG{w w':World}{ι aC:az}{p:Option (Nat×Nat×Nat)}{wo wd:Nat}{cells:List (Bool×List (List PV))}{op Bi:Option Nat}(hL:bc ι.M w w' aC.M)
 (hk:∀c o s,p=some (c,o,s)→w'.heap[c]? =w.heap[c]?) (h:RB w ι p (.pn wo wd cells op)):RB w' aC p (.pn wo wd cells Bi):=by
 rcases h with h|⟨c,o,s,cs,ty,fz,hp,h1,hf,h2,h3,h4⟩
 ·exact .inl h
 refine .inr ⟨c,o,s,cs,ty,fz,hp,by rw[hk _ _ _ hp,h1],hf,h2,h3,λj fl rows hx=>?_⟩
 obtain⟨v,hv,ho,hr⟩:=h4 j fl rows hx
 exact⟨v,hv,ho,λe=>(hr e).later hL⟩
theorem RB.sH{w w':World}{ι aC:az}{p:Option (Nat×Nat×Nat)}{ag:Bool}{ks:List CK}{wd:Nat}{ents:List (PV×List (List PV))}{op Bi:Option Nat}(hL:bc ι.M w w' aC.M)
 (hk:∀c o s,p=some (c,o,s)→w'.heap[c]? =w.heap[c]?) (h:RB w ι p (.bF ag ks wd ents op)):RB w' aC p (.bF ag ks wd ents Bi):=by
 obtain⟨c,o,s,hp,es,h1,h2,h3⟩:=h
 refine⟨c,o,s,hp,es,by rw[hk _ _ _ hp];exact h1,h2,λi k rows hi=>?_⟩
 obtain⟨g0,e,g1,g2,g3⟩:=h3 i k rows hi
 exact⟨g0,e,g1,g2,g3.later hL⟩
theorem RB.kL{w w':World}{ι aC:az}{p:Option (Nat×Nat×Nat)}{wd:Nat}{rows:List (List PV)}(hL:bc ι.M w w' aC.M)
 (hk:∀c o s,p=some (c,o,s)→w'.heap[c]? =w.heap[c]?) (h:RB w ι p (.pr wd rows)):RB w' aC p (.pr wd rows):=by
 rcases h with h|⟨c,o,s,cs,ty,fz,hp,h1,hf,h2,h3,h4,h5⟩
 ·exact .inl h
 ·refine .inr ⟨c,o,s,cs,ty,fz,hp,by rw[hk _ _ _ hp,h1],hf,h2,h3,h4,λi row j x hi hx=>?_⟩
  obtain⟨ho,v,hv,hr⟩:=h5 i row j x hi hx
  exact⟨ho,v,hv,hr.later hL⟩
theorem RB.qN{w w':World}{ι aC:az}{p:Option (Nat×Nat×Nat)}{m m':Option Nat}{n:Nat}{seen:List Nat}(hm:∀b,m'=some b→∃b',m=some b'∧∀p,ι (.v b')=some p→aC (.v b)=some p)
 (hk:∀c o s,p=some (c,o,s)→w'.heap[c]? =w.heap[c]?) (h:RB w ι p (.mi m n seen)):RB w' aC p (.mi m' n seen):=by
 obtain⟨c,s,cm,sn,hp,h1,h2,h3⟩:=h
 refine⟨c,s,cm,sn,hp,by rw[hk _ _ _ hp];exact h1,h2,λb hb=>?_⟩
 obtain⟨b',e,bh⟩:=hm b hb
 obtain⟨o2,s2,h4⟩:=h3 b' e
 exact⟨o2,s2,bh _ h4⟩
theorem lE.later{w w':World}{p:Option (Nat×Nat×Nat)}{x:Blk}{i:Nat}{v:Value}(hk:∀c o s,p=some (c,o,s)→w'.heap[c]? =w.heap[c]?)(h:lE w p x i v):lE w' p x i v:=by
 cases x with
 |pn wo wd cells op=>
  obtain⟨c,o,s,hp,hv⟩:=h
  exact⟨c,o,s,hp,by unfold World.cell? at*;rw[hk _ _ _ hp];exact hv⟩
 |bF ag ks wd ents op=>
  obtain⟨c,o,s,es,e,hp,h1,h2⟩:=h
  exact⟨c,o,s,es,e,hp,by rw[hk _ _ _ hp];exact h1,h2⟩
 |_=>exact h.elim
theorem HB.later{w w':World}{ι aC:az}{p q:Option (Nat×Nat×Nat)}{i:Nat}{x:Blk}(hL:bc ι.M w w' aC.M)(hk:∀c o s,p=some (c,o,s)→w'.heap[c]? =w.heap[c]?)
 (Nw:∀c o s,q=some (c,o,s)→w'.heap[c]? =w.heap[c]?) (h:HB w ι p q i x):HB w' aC p q i x:=by
 unfold HB at*
 cases hx:x.inner i with
 |none=>rw[hx]at h;exact h
 |some y=>
  obtain⟨wd,rows,t⟩:=y
  rw[hx]at h
  exact⟨h.1.kL hL Nw,λht=>let ⟨v,h1,h2⟩:=h.2 ht;⟨v,h1.later hk,h2⟩⟩
theorem Nx(b:Bn)(x:Blk):(x.kill b).inner=x.inner:=by
 cases x with
 |mi m n s=>cases m<;>rfl
 |_=>rfl
theorem Ny{w:World}{p:Option (Nat×Nat×Nat)}(b:Bn){x:Blk}{i:Nat}{v:Value}(h:lE w p x i v):lE w p (x.kill b) i v:=by cases x<;>first|exact h|exact h.elim
theorem HB.kill{w:World}{ι:az}{p q:Option (Nat×Nat×Nat)}{i:Nat}{x:Blk}(b:Bn)(h:HB w ι p q i x):HB w ι p q i (x.kill b):=by
 unfold HB at*
 rw[Nx]
 cases hx:x.inner i with
 |none=>rw[hx]at h;exact h
 |some y=>
  obtain⟨wd,rows,t⟩:=y
  rw[hx]at h
  exact⟨h.1,λht=>let ⟨v,h1,h2⟩:=h.2 ht;⟨v,Ny b h1,h2⟩⟩
def Blk.bare:Blk→Bool
 |.pn _ _ _ _=>false
 |.bF _ _ _ _ _=>false
 |_=>true
theorem HB.bare{w:World}{ι:az}{p q:Option (Nat×Nat×Nat)}{i:Nat}{x:Blk}(hb:x.bare=true)(h:q=none):HB w ι p q i x:=by
 cases x<;>first|exact h|cases hb
theorem HB.none{w:World}{ι:az}{p q:Option (Nat×Nat×Nat)}{i:Nat}{x:Blk}(hb:x.bare=true)(h:HB w ι p q i x):q=none:=by
 cases x<;>first|exact h|cases hb
theorem RB.later{w w':World}{ι aC:az}{p:Option (Nat×Nat×Nat)}(hL:bc ι.M w w' aC.M)(hG:ι.G→aC.G)(bh:∀b p,ι b=some p→aC b=some p)
 (hk:∀c o s,p=some (c,o,s)→w'.heap[c]? =w.heap[c]?) {x:Blk} (h:RB w ι p x):RB w' aC p x:=by
 cases x with
 |dead=>exact h
 |mx cells=>
  obtain⟨c,o,s,cs,ty,fz,hp,h1,hf,h2,h3,h4⟩:=h
  refine⟨c,o,s,cs,ty,fz,hp,by rw[hk _ _ _ hp,h1],hf,h2,h3,λj x hx=>?_⟩
  obtain⟨v,hv,ho,hr⟩:=h4 j x hx
  exact⟨v,hv,ho,hr.later hL bh⟩
 |pr wd rows=>
  rcases h with h|⟨c,o,s,cs,ty,fz,hp,h1,hf,h2,h3,h4,h5⟩
  ·exact .inl h
  ·refine .inr ⟨c,o,s,cs,ty,fz,hp,by rw[hk _ _ _ hp,h1],hf,h2,h3,h4,λi row j x hi hx=>?_⟩
   obtain⟨ho,v,hv,hr⟩:=h5 i row j x hi hx
   exact⟨ho,v,hv,hr.later hL⟩
 |mp ag ks ents=>
  obtain⟨c,o,s,hp,h1⟩:=h
  exact⟨c,o,s,hp,h1.later hL (hk _ _ _ hp)⟩
 |gh l r=>exact⟨h.1,hG h.2⟩
 |pn wo wd cells op=>exact RB.sG hL hk h
 |bF ag ks wd ents op=>exact RB.sH hL hk h
 |mi m n seen=>exact RB.qN (λb hb=>⟨b,hb,λp hp=>bh _ _ hp⟩) hk h
 |ax n arr cells=>
  obtain⟨hn,c,o,s,cs,ty,fz,hp,h1,hf,h2,h3,h4⟩:=h
  refine⟨hn,c,o,s,cs,ty,fz,hp,by rw[hk _ _ _ hp,h1],hf,h2,h3,λj x hx=>?_⟩
  obtain⟨v,hv,ho,hr⟩:=h4 j x hx
  exact⟨v,hv,ho,hr.later hL bh⟩
theorem F1(b:Bn)(l:List PV):AV.killL b (l.map .p)=l.map .p:=by
 induction l with
 |nil=>rfl
 |cons x r ih=>simp[AV.killL,AV.kill,ih]
theorem F2(b:Bn)(l m:List AV):AV.killL b (l++m)=AV.killL b l++AV.killL b m:=by
 induction l with
 |nil=>rfl
 |cons x r ih=>simp[AV.killL,ih]
theorem RB.kill{w w':World}{ι aC:az}{b:Bn}{p:Option (Nat×Nat×Nat)}(hL:bc ι.M w w' aC.M)(hG:ι.G→aC.G)(bh:∀b',b.hit b'=false→∀p,ι b'=some p→aC b'=some p)
 (hk:∀c o s,p=some (c,o,s)→w'.heap[c]? =w.heap[c]?) {x:Blk} (h:RB w ι p x):
 RB w' aC p (x.kill b):=by
 cases x with
 |dead=>exact h
 |mx cells=>
  obtain⟨c,o,s,cs,ty,fz,hp,h1,hf,h2,h3,h4⟩:=h
  refine⟨c,o,s,cs,ty,fz,hp,by rw[hk _ _ _ hp,h1],hf,h2,by rw[qL];exact h3,λj x hx=>?_⟩
  rw[sF]at hx;obtain⟨y,hy,rfl⟩:=aa0.1 hx
  obtain⟨v,hv,ho,hr⟩:=h4 j y hy
  exact⟨v,hv,ho,hr.kill hL bh⟩
 |pr wd rows=>
  rcases h with h|⟨c,o,s,cs,ty,fz,hp,h1,hf,h2,h3,h4,h5⟩
  ·exact .inl h
  ·refine .inr ⟨c,o,s,cs,ty,fz,hp,by rw[hk _ _ _ hp,h1],hf,h2,h3,h4,λi row j x hi hx=>?_⟩
   obtain⟨ho,v,hv,hr⟩:=h5 i row j x hi hx
   exact⟨ho,v,hv,hr.later hL⟩
 |mp ag ks ents=>
  obtain⟨c,o,s,hp,h1⟩:=h
  exact⟨c,o,s,hp,h1.later hL (hk _ _ _ hp)⟩
 |gh l r=>exact⟨h.1,hG h.2⟩
 |pn wo wd cells op=>exact RB.sG hL hk h
 |bF ag ks wd ents op=>exact RB.sH hL hk h
 |mi m n seen=>
  cases m with
  |none=>exact RB.qN (λb hb=>by cases hb) hk h
  |some m=>
   refine RB.qN (λb' hb=>?_) hk h
   cases e:b.hitV m with
   |true=>simp[e]at hb
   |false=>
    simp[e]at hb
    subst hb
    exact⟨m,rfl,λp hp=>bh (.v m) e _ hp⟩
 |ax n arr cells=>
  obtain⟨hn,c,o,s,cs,ty,fz,hp,h1,hf,h2,h3,h4⟩:=h
  have e:arr.map AV.p++AV.killL b cells=AV.killL b (arr.map AV.p++cells):=by rw[F2,F1]
  refine⟨hn,c,o,s,cs,ty,fz,hp,by rw[hk _ _ _ hp,h1],hf,h2,by rw[e,qL];exact h3,λj x hx=>?_⟩
  rw[e,sF]at hx;obtain⟨y,hy,rfl⟩:=aa0.1 hx
  obtain⟨v,hv,ho,hr⟩:=h4 j y hy
  exact⟨v,hv,ho,hr.kill hL bh⟩
theorem j0(b:Bn)(h:List Blk)(n:Nat):nth .dead (killH b h) n=(nth .dead h n).kill b:=by
 induction h generalizing n with
 |nil=>rfl
 |cons x r ih=>cases n with
  |zero=>rfl
  |succ n=>simp[killH,nth,ih]
theorem fc(b:Bn)(h:List Blk):(killH b h).length=h.length:=by
 induction h with
 |nil=>rfl
 |cons x r ih=>simp[killH,ih]
theorem Nz(b:Bn)(h:List Blk):killH b h=h.map (Blk.kill b):=by
 induction h with
 |nil=>rfl
 |cons x r ih=>simp[killH,ih]
theorem qO(b:Bn)(t:List (Nat×AV))(s:Nat):lk (killT b t) s=(lk t s).kill b:=by
 induction t with
 |nil=>rfl
 |cons x r ih=>
  obtain⟨k,v⟩:=x
  simp only[killT,lk,ih]
  cases Nat.beq k s<;>rfl
abbrev Jn:=Option (List (List PV))→World→(Nat→Prop)→(Nat→Prop)→Prop
def Jn.va(J:Jn):Prop:=∀l (w w':World) (T T' S:Nat→Prop),J l w T S→(∀(c:Nat) (o:Obj),¬T c→w.heap[c]? =some o→w'.heap[c]? =some o)→
 (∀c,T' c→T c∨w.heap.size≤c)→(∀c,T' c→c<w'.heap.size)→w.heap.size≤w'.heap.size→(w'.os=w.os∧w'.output=w.output)→J l w' T' S
structure qP(S:Nat→Prop)(w w':World)(S':Nat→Prop):Prop where
 up:∀c,S c→S' c
 new:∀c,S' c→S c∨w.heap.size≤c
 lt:∀c,S' c→c<w'.heap.size
 keep:∀(c:Nat) (o:Obj),¬S c→w.heap[c]? =some o→w'.heap[c]? =some o
 grow:w.heap.size≤w'.heap.size
 os:w'.os=w.os∧w'.output=w.output
structure Cx where
 P:Program
 w0:World
 own:Nat→Prop
 n:Nat
 bw:Nat→Bool
 E:En
 bX:az
 J:Jn
 yl:Nat
 vb:Nat
 vd:Bool
 a0:Nat→Value
 fk:∀b,E.fx b=true→b<E.k
 eI:∀t,bw t=true→t<n
 js:J.va
 je:E.en=true→∀w T S,¬J (some []) w T S
structure Mem(cx:Cx)(ι:az)(h:List Blk)(w:World):Prop where
 hr:bL ι h w
 xl:∀c,ι.X c→c<w.heap.size
 xs:∀c,ι.S c→ι.X c
 xe:∀c,cx.bX.X c→ι.X c
 se:∀c,ι.S c→cx.bX.S c∨cx.w0.heap.size≤c
 ge:ι.G=cx.bX.G
 ow:∀c,ι.I c→cx.own c∨cx.w0.heap.size≤c
 fr:∀(c:Nat),¬cx.own c→¬cx.bX.S c→c<cx.w0.heap.size→w.heap[c]? =cx.w0.heap[c]?
 gr:cx.w0.heap.size≤w.heap.size
 os:w.os=cx.w0.os∧w.output=cx.w0.output
 fx:∀b:Nat,cx.E.fx b=true→ι b=cx.bX b
 kl:cx.E.k≤h.length
 dm:∀d∈ι.D,ι.X d∧¬ι.S d∧cx.vb≤d∧w.heap[d]? =some (.deferred (some []))
 dn:ι.D.Nodup
 jt:∀l r,nth .dead h 0=.gh l r→l=cx.yl∧cx.J r w ι.I ι.S
 su:ι.G→∀c,cx.bX.S c→ι.S c
 dz:cx.vd=true→ι.D=[]
def xY(d:Nat):Deferred:={target:=.collected d,args:= #[]}
structure Rel(cx:Cx)(ι:az)(st:St)(a:Act)(w:World):Prop where
 mem:Mem cx ι st.heap w
 tm:∀s,RA w ι (lk st.tmps s) (a.tmps.getD s undef)
 sz:a.tmps.size=cx.n∧∀s,cx.bw s=false→a.tmps.getD s undef=cx.a0 s
 df:a.defers=ι.D.map xY
def Kc(cx:Cx)(K:St→Prop)(a:Act)(w:World):Prop:=∃ι st,Rel cx ι st a w∧K st
def Ext(w w':World):Prop:=∀(c:Nat) (o:Obj),w.heap[c]? =some o→w'.heap[c]? =some o
theorem Ext.refl(w:World):Ext w w:=λ_ _ h=>h
theorem Ext.trans{w w' j4:World}(h:Ext w w')(h':Ext w' j4):Ext w j4:=λc o hc=>h' c o (h c o hc)
theorem Ext.cell{w w':World}(h:Ext w w'){a:Addr}{v:Value}(hc:w.cell? a=some v):w'.cell? a=some v:=by
 unfold World.cell? at*
 cases ho:w.heap[a.block]? with
 |none=>simp[ho]at hc
 |some o=>rw[h _ _ ho];rw[ho]at hc;exact hc
theorem Ext.size{w w':World}(h:Ext w w'):w.heap.size≤w'.heap.size:=by
 rcases abL w'.heap.size w.heap.size with aq|dH
 ·have h1:w.heap[w'.heap.size]? =some w.heap[w'.heap.size]:=abu aq
  have h2:=h _ _ h1
  simp at h2
 ·exact dH
theorem Act.NA(a:Act)(d:Option Tmp)(v:Value):(a.put d v).tmps.size=a.tmps.size:=by cases d<;>simp[Act.put]
theorem Act.sI(a:Act)(d:Option Tmp)(v:Value):(a.put d v).defers=a.defers:=by cases d<;>rfl
theorem sJ{w:World}{ι:az}{st:St}{a:Act}{n:Nat}(h:∀s,RA w ι (lk st.tmps s) (a.tmps.getD s undef))(bM:a.tmps.size=n){d:Option Nat}
 (hd:∀t,d=some t→t<n) {x:AV} {v:Value} (hx:RA w ι x v):∀s,RA w ι (lk (st.put d x).tmps s) ((a.put d v).tmps.getD s undef):=by
 intro s
 cases d with
 |none=>exact h s
 |some d=>
  simp only[St.put,lk,Act.put]
  have aq:=hd d rfl
  by_cases e:d=s
  ·subst e
   rw[show Nat.beq d d=true from by simp]
   simp[bM,aq,hx]
  ·rw[f_ e]
   have:=h s
   simpa [acg e]using this
theorem pE(st:St)(d:Option Nat)(x:AV):(st.put d x).heap=st.heap:=by cases d<;>rfl
def Sz(cx:Cx)(a:Act):Prop:=a.tmps.size=cx.n∧∀s,cx.bw s=false→a.tmps.getD s undef=cx.a0 s
theorem Sz.put{cx:Cx}{a:Act}(h:Sz cx a){d:Option Nat}(hd:∀t,d=some t→cx.bw t=true)(v:Value):Sz cx (a.put d v):=by
 refine⟨by rw[Act.NA];exact h.1,λs hs=>?_⟩
 rw[←h.2 s hs]
 cases d with
 |none=>rfl
 |some d=>
  have e:d≠s:=λe=>by subst e;rw[hd d rfl]at hs;cases hs
  simp[Act.put,acg e]
theorem Rel.put{cx:Cx}{ι:az}{st:St}{a:Act}{w:World}(h:Rel cx ι st a w){d:Option Nat}(hd:∀t,d=some t→cx.bw t=true){x:AV}{v:Value}
 (hx:RA w ι x v):Rel cx ι (st.put d x) (a.put d v) w:=
 ⟨by rw[pE];exact h.mem,sJ h.tm h.sz.1 (λt ht=>cx.eI t (hd t ht)) hx,Sz.put h.sz hd v,by rw[Act.sI];exact h.df⟩
def pv1:Value→Option PV
 |.int k n=>some (.int k n)
 |.bool x=>some (.b x)
 |.string s=>some (.str s.data.toList)
 |.float k b=>some (.lit (.float k b))
 |.pointer none=>some (.lit (.pointer none))
 |.slice none 0 0=>some (.aw 0 [] (some 0))
 |.map none=>some (.lit (.map none))
 |.nilFunc=>some (.lit .nilFunc)
 |.nilIface=>some (.lit .nilIface)
 |_=>none
def pvL:List Value→Option (List PV)
 |[]=>some []
 |v::r=>match pv1 v,pvL r with
  |some x,some l=>some (x::l)
  |_,_=>none
def pvOf:Value→Option PV
 |.agg cs=>(pvL cs.toList).map .agg
 |v=>pv1 v
def cOpd:Operand→Option aS
 |.tmp t=>some (.t t)
 |.const v=>(pvOf v).map .c
 |.func f=>some (.c (.fn f [] []))
 |.global g=>(glbRow AW g).map λr=>.c (.b7 r 0)
def cOpds:List Operand→Option (List aS)
 |[]=>some []
 |x::r=>match cOpd x,cOpds r with
  |some y,some l=>some (y::l)
  |_,_=>none
def cOpdO:Option Operand→Option (Option aS)
 |none=>some none
 |some x=>(cOpd x).map some
def aggT(P:Program)(t:TypeId):Option Bool:=
 match P.underlying t with
 |some (.struct _)|some (.array _ _)=>some true
 |some _=>some false
 |none=>none
def bI(P:Program)(t:TypeId):Option Nat:=(P.info? t).map (·.size)
def qQ(P:Program)(t:TypeId):Option Nat:=(P.info? t).map (·.bytes)
def zeroT(P:Program)(t:TypeId):Option (List PV):=
 match (P.info? t).bind (·.zero)with
 |some v=>pvL v.cells.toList
 |none=>none
def sK(P:Program)(t:TypeId):Bool:=
 match P.underlying t with
 |some (.array _ _)=>true
 |_=>false
def plainF(sz:TypeId→Option (List CK)):Nat→List Field→Option (List CK)
 |_,[]=>some []
 |off,f::r=>if f.name= "_" ∨f.offset≠off then none else match sz f.type with
  |some ks=>if ks.length=0 then none else match plainF sz (off+ks.length) r with
   |some ls=>some (ks++ls)
   |none=>none
  |none=>none
def plainK(P:Program):Nat→TypeId→Option (List CK)
 |0,_=>none
 |d+1,t=>match P.underlying t with
  |some .bool=>if bI P t=some 1 then some [.b]else none
  |some (.int k)=>if bI P t=some 1 then some [.int k]else none
  |some .string=>if bI P t=some 1 then some [.str]else none
  |some (.array len e)=>match plainK P d e with
   |some ks=>if ks.length≠0∧bI P e=some ks.length∧bI P t=some (len*ks.length)then some (List.replicate len ks).flatten else none
   |none=>none
  |some (.struct fs)=>if P.stoodInHeld t then none else match plainF (plainK P d) 0 fs.toList with
   |some ks=>if bI P t=some ks.length then some ks else none
   |none=>none
  |_=>none
def keyK(P:Program)(t:TypeId):Option (Bool×List CK):=
 match plainK P 20 t,aggT P t with
 |some ks,some ag=>some (ag,ks)
 |_,_=>none
def zeroV(P:Program)(t:TypeId):Option PV:=((P.info? t).bind (·.zero)).bind pvOf
def sL(P:Program):Nat→TypeId→Nat
 |0,_=>0
 |d+1,t=>match P.underlying t with
  |some (.array n e)=>if 16≤n∧bI P e=some 1 then n else 0
  |some (.struct fs)=>match fs.toList with
   |f::_=>if f.offset=0 then sL P d f.type else 0
   |[]=>0
  |_=>0
def Bj(P:Program)(t:TypeId):Bool:=
 match P.underlying t with
 |some (.struct _)=>true
 |_=>false
def eqPV:PV→PV→Bool
 |.int k a,.int l b=>decide (k=l)&&decide (a=b)
 |.b a,.b b=>a==b
 |_,_=>false
def xZ(P:Program)(t:TypeId)(z:List PV):RO:=
 let n:=sL P 10 t
 match z with
 |[]=>.alloc (sK P t) z
 |z0::_=>if Bj P t=true∧0<n∧n≤z.length∧(z.take n).all (eqPV z0)=true then .sy n z0 (z.drop n)else .alloc (sK P t) z
def x5(P:Program)(t:TypeId)(x:aS)(s:Nat):RO:=
 let n:=sL P 10 t
 if Bj P t=true∧0<n∧n≤s then .uT n x s else .box (sK P t) x s
def x6(P:Program)(t:TypeId)(z:List PV)(parts:List (Nat×Nat×aS)):RO:=
 let n:=sL P 10 t
 match z with
 |[]=>.build z parts
 |z0::_=>if 0<n∧n≤z.length∧(z.take n).all (eqPV z0)=true then .xC n z0 (z.drop n) parts else .build z parts
theorem F3(P:Program)(t:TypeId)(z:List PV)(ps:List (Nat×Nat×aS)):x6 P t z ps=.build z ps∨
 ∃n z0 rest,x6 P t z ps=.xC n z0 rest ps∧n≤z.length∧(z.take n).all (eqPV z0)=true∧z.drop n=rest:=by
 unfold x6
 cases z with
 |nil=>exact .inl rfl
 |cons z0 r=>
  simp only
  split
  ·rename_i h;exact .inr ⟨_,_,_,rfl,h.2.1,h.2.2,rfl⟩
  ·exact .inl rfl
theorem F4(P:Program)(t:TypeId)(z:List PV):xZ P t z=.alloc (sK P t) z∨
 ∃n z0 rest,xZ P t z=.sy n z0 rest∧n≤z.length∧(z.take n).all (eqPV z0)=true∧z.drop n=rest:=by
 unfold xZ
 cases z with
 |nil=>exact .inl rfl
 |cons z0 r=>
  simp only
  split
  ·rename_i h;exact .inr ⟨_,_,_,rfl,h.2.2.1,h.2.2.2,rfl⟩
  ·exact .inl rfl
theorem F5(P:Program)(t:TypeId)(x:aS)(s:Nat):x5 P t x s=.box (sK P t) x s∨∃n,x5 P t x s=.uT n x s:=by
 unfold x5
 simp only
 split
 ·exact .inr ⟨_,rfl⟩
 ·exact .inl rfl
def cParts(places:Nat→Option (Nat×Nat)):List (Nat×Operand)→Option (List (Nat×Nat×aS))
 |[]=>some []
 |(i,x)::r=>match places i,cOpd x,cParts places r with
  |some (o,s),some y,some l=>some ((o,s,y)::l)
  |_,_,_=>none
def sM(n:Nat):List (Nat×Operand)→Option (List aS)
 |[]=>some []
 |(i,x)::r=>if i=n then match cOpd x,sM (n+1) r with
  |some y,some l=>some (y::l)
  |_,_=>none else none
def cBin(P:Program)(op:BinOp)(t:TypeId)(x y:aS):Option RO:=
 match P.underlying t with
 |some (.int _)|some .string=>some (.bin op x y)
 |some .bool=>match op with
  |.eql=>some (.AN false x y)
  |.neq=>some (.AN true x y)
  |_=>none
 |some (.slice _)=>match y,op with
  |.c (.aw 0 [] (some 0)),.eql=>some (.AP false x)
  |.c (.aw 0 [] (some 0)),.neq=>some (.AP true x)
  |_,_=>none
 |some (.pointer e)=>if(bI P e).getD 0=0 then none else match op with
  |.eql=>some (.AO false x y)
  |.neq=>some (.AO true x y)
  |_=>none
 |some (.struct _)|some (.array _ _)=>match plainK P 20 t with
  |some ks=>if P.eqGuardType P.depth t=false then match op with
   |.eql=>some (.xB false ks x y)
   |.neq=>some (.xB true ks x y)
   |_=>none else none
  |none=>none
 |_=>none
def invT(P:Program)(name:String)(t:TypeId):Option (TypeId×Nat×Option (Nat×Bool)):=
 match P.info? t with
 |some i=>match i.methods.find? (λm=>m.name==name)with
  |some m=>if m.path.isEmpty then match m.func,P.underlying t with
   |some (f,true),some (.pointer _)=>some (t,f,none)
   |some (f,false),some (.pointer e)=>match bI P e,aggT P e with
    |some s,some g=>some (t,f,some (s,g))
    |_,_=>none
   |_,_=>none
   else none
  |none=>none
 |none=>none
def ve(P:Program)(name:String):List (TypeId×Nat×Option (Nat×Bool)):=(List.range P.types.size).filterMap (invT P name)
def cop(P:Program)(o:Oper):Option RO:=
 match o.op with
 |.move x|.assign x=>(cOpd x).map .bD
 |.pick c a b=>match cOpd c,cOpd a,cOpd b with
  |some c,some a,some b=>some (.pick c a b)
  |_,_,_=>none
 |.binOp op t x y _=>match cOpd x,cOpd y with
  |some x,some y=>cBin P op t x y
  |_,_=>none
 |.unOp op _ x=>(cOpd x).map (.un op)
 |.alloc e=>(zeroT P e).map (xZ P e)
 |.box e x=>match cOpd x,bI P e with
  |some x,some s=>some (x5 P e x s)
  |_,_=>none
 |.build t parts=>match P.underlying t,zeroT P t with
  |some (.struct fs),some z=>if fs.toList.all (λf=>(bI P f.type).isSome)then
   (cParts (λi=>(fs.map λf=>(f.offset,(bI P f.type).getD 0))[i]?) parts.toList).map (x6 P t z)else none
  |some (.array _ e),some z=>match bI P e with
   |some s=>(cParts (λi=>some (i*s,s)) parts.toList).map (.build z)
   |none=>none
  |_,_=>none
 |.buildSlice t len parts=>match P.underlying t with
  |some (.slice e)=>match bI P e,sM 0 parts.toList with
   |some s,some l=>if l.length=len∧len*s≤2^24∧0<s∧(zeroT P e).isSome then some (.xD s l)else none
   |_,_=>none
  |_=>none
 |.load t x=>match cOpd x,bI P t,aggT P t with
  |some x,some s,some g=>some (.load x s g)
  |_,_,_=>none
 |.store t x v=>match cOpd x,cOpd v,bI P t with
  |some x,some v,some s=>some (.store x v s)
  |_,_,_=>none
 |.nilCheck x=>(cOpd x).map .Fx
 |.fieldAddr t x f=>match P.underlying t,cOpd x with
  |some (.struct fs),some x=>match fs[f]? with
   |some fd=>match bI P fd.type with
    |some (_+1)=>some (.FD x fd.offset)
    |_=>none
   |none=>none
  |_,_=>none
 |.field t x f=>match P.underlying t,cOpd x with
  |some (.struct fs),some x=>match fs[f]? with
   |some fd=>match bI P fd.type,aggT P fd.type with
    |some s,some g=>some (.sx x fd.offset s g)
    |_,_=>none
   |none=>none
  |_,_=>none
 |.indexAddr t x i=>match P.underlying t,cOpd x,cOpd i with
  |some (.array n e),some x,some i=>(bI P e).map (.Fy x i n)
  |some (.slice e),some x,some i=>(bI P e).map (.Fz x i)
  |_,_,_=>none
 |.index t x i=>match P.underlying t,cOpd x,cOpd i with
  |some (.array n e),some x,some i=>match bI P e,aggT P e with
   |some s,some g=>some (.FB x i n s g)
   |_,_=>none
  |some .string,some x,some i=>some (.FA x i)
  |_,_,_=>none
 |.slice t x lo hi mx=>match P.underlying t,cOpd x,cOpdO lo,cOpdO hi,cOpdO mx with
  |some (.array n e),some x,some lo,some hi,some mx=>(bI P e).bind λs=>if mx.isSome&&hi.isNone then none else some (.FG x lo hi mx n s)
  |some (.slice e),some x,some lo,some hi,some mx=>(bI P e).bind λs=>if mx.isSome&&hi.isNone then none else some (.FE x lo hi mx s)
  |some .string,some x,some lo,some hi,some none=>some (.FH x lo hi)
  |_,_,_,_,_=>none
 |.convert s d x=>match P.underlying s,P.underlying d,cOpd x with
  |some (.int _),some (.int k),some x=>some (.FJ k x)
  |some .string,some .string,some x=>some (.FK x)
  |some (.slice e),some .string,some x=>match P.underlying e with
   |some (.int .u8)=>some (.strOf x)
   |_=>none
  |some .string,some (.slice e),some x=>match P.underlying e with
   |some (.int .u8)=>some (.bytesOf x)
   |_=>none
  |_,_,_=>none
 |.makeInterface t x=>match P.underlying t,cOpd x with
  |some (.interface _),_=>none
  |some _,some x=>some (.FM t x)
  |_,_=>none
 |.makeFunc (.func f) first cap=>match cOpds first.toList,cOpds cap.toList with
  |some a,some c=>some (.FL f a c)
  |_,_=>none
 |.makeSlice t l c=>match P.underlying t,cOpd l,cOpd c with
  |some (.slice e),some l,some c=>match zeroT P e,bI P e,qQ P e with
   |some z,some s,some b=>if z.length=s∧0<s∧0<b then some (.xE z s b l c)else none
   |_,_,_=>none
  |_,_,_=>none
 |.extract x i=>(cOpd x).map λx=>.ext x i
 |.call c=>match c.callee with
  |.value (.func f)=>(cOpds c.args.toList).map (.call f)
  |.value x=>match cOpd x,cOpds c.args.toList with
   |some x,some l=>some (.AQ x l)
   |_,_=>none
  |.builtin .len=>match c.args.toList,c.argTypes.toList with
   |[x],[t]=>match P.underlying t,cOpd x with
    |some .string,some x=>some (.FI x)
    |some (.slice _),some x=>some (.len x)
    |some (.map _ _),some x=>some (.FN x)
    |_,_=>none
   |_,_=>none
  |.builtin .append=>match c.args.toList,c.argTypes.toList with
   |[s,x],[t,u]=>match P.underlying t,P.underlying u,cOpd s,cOpd x with
    |some (.slice e),some (.slice _),some s,some x|some (.slice e),some .string,some s,some x=>match zeroT P e,bI P e,qQ P e with
     |some z,some n,some b=>if z.length=n∧0<n∧0<b then some (.app s x n b)else none
     |_,_,_=>none
    |_,_,_,_=>none
   |_,_=>none
  |.builtin .copy=>match c.args.toList,c.argTypes.toList with
   |[a,s],[t,_]=>match P.underlying t,cOpd a,cOpd s with
    |some (.slice e),some a,some s=>(bI P e).map λn=>.copy a s n
    |_,_,_=>none
   |_,_=>none
  |.builtin .max=>match c.args.toList with
   |[x,y]=>match cOpd x,cOpd y with
    |some x,some y=>some (.mm true x y)
    |_,_=>none
   |_=>none
  |.builtin .min=>match c.args.toList with
   |[x,y]=>match cOpd x,cOpd y with
    |some x,some y=>some (.mm false x y)
    |_,_=>none
   |_=>none
  |.builtin .clear=>match c.args.toList,c.argTypes.toList with
   |[x],[t]=>match P.underlying t,cOpd x with
    |some (.slice e),some x=>match zeroT P e,bI P e with
     |some z,some n=>if z.length=n∧0<n then some (.xF x z n)else none
     |_,_=>none
    |_,_=>none
   |_,_=>none
  |.invoke r name=>match cOpd r,cOpds c.args.toList with
   |some x,some l=>some (.inv (ve P name) x l)
   |_,_=>none
  |_=>none
 |.makeMap t none=>match P.underlying t with
  |some (.map k _)=>(keyK P k).map λ(ag,ks)=>.xG ag ks
  |_=>none
 |.lookup t m x ok=>match P.underlying t with
  |some (.map k e)=>match keyK P k,zeroV P e,cOpd m,cOpd x with
   |some (ag,ks),some z,some m,some x=>some (.AR ag ks z ok m x)
   |_,_,_,_=>none
  |_=>none
 |.mapUpdate t m x v|.insert t m x v=>match P.underlying t with
  |some (.map k _)=>match keyK P k,cOpd m,cOpd x,cOpd v with
   |some (ag,ks),some m,some x,some v=>some (.uU ag ks m x v)
   |_,_,_,_=>none
  |_=>none
 |.mapEntry t m x=>match P.underlying t with
  |some (.map k e)=>match keyK P k,zeroV P e,cOpd m,cOpd x with
   |some (ag,ks),some z,some m,some x=>some (.uV ag ks z m x)
   |_,_,_,_=>none
  |_=>none
 |.entryStore _ m s v=>match cOpd m,cOpd s,cOpd v with
  |some m,some s,some v=>some (.xH m s v)
  |_,_,_=>none
 |.range t x=>match P.underlying t,cOpd x with
  |some (.map _ _),some m=>some (.AS m)
  |_,_=>none
 |.next x false=>(cOpd x).map .AT
 |.entry x=>(cOpd x).map .FO
 |.typeAssert x _ t ok=>match P.underlying t,zeroV P t,cOpd x with
  |some (.interface _),_,_=>none
  |some _,some z,some x=>some (.FP t z ok x)
  |_,_,_=>none
 |_=>none
theorem dj{v:AV}{k:AV→Prop}(h:force v k):k v:=by
 cases v with
 |p x=>cases x<;>exact h
 |_=>exact h
theorem Bk{v:PV}{k:PV→Prop}(h:uY v k):k v:=by cases v<;>exact h
theorem eC{a b:IntKind}{A:Prop}(h:nb a b A):a=b∧A:=by
 cases a<;>cases b<;>first|exact⟨rfl,h⟩|exact h.elim
theorem gK(c x n:Nat):(⟨c,x,none⟩:Addr).add n=⟨c,x+n,none⟩:=by
 unfold Addr.add
 by_cases h:n=0<;>simp[h]
theorem x7{a:Addr}(h:a.spot=none)(n:Nat):a.add n=⟨a.block,a.off+n,none⟩:=by
 obtain⟨b,o,s⟩:=a
 simp at h;subst h
 exact gK b o n
theorem Bl{w:World}{M:Nat→Prop}{v:Value}{x:PV}(h:pv1 v=some x):RP w M x v∧x.one=true:=by
 unfold pv1 at h
 split at h<;>first
  |(cases h;exact⟨.int _ _,rfl⟩)
  |(cases h;exact⟨.b _,rfl⟩)
  |(cases h;exact⟨.str _,rfl⟩)
  |(cases h;exact⟨.lit _ rfl,rfl⟩)
  |(cases h;exact⟨.nil (by simp),rfl⟩)
  |cases h
theorem F6{w:World}{M:Nat→Prop}{l:List Value}{xs:List PV}(h:pvL l=some xs):
 xs.length=l.length∧∀(i:Nat) x,xs[i]? =some x→x.one=true∧∃v,l[i]? =some v∧RP w M x v:=by
 induction l generalizing xs with
 |nil=>simp[pvL]at h;subst h;simp
 |cons v r ih=>
  unfold pvL at h
  split at h
  ·rename_i x l h1 h2
   cases h
   obtain⟨hl,hi⟩:=ih h2
   refine⟨by simp[hl],λi y hy=>?_⟩
   cases i with
   |zero=>simp at hy;subst hy;exact⟨(Bl (w:=w) (M:=M) h1).2,v,by simp,(Bl h1).1⟩
   |succ i=>simp at hy;simpa using hi i y hy
  ·cases h
theorem F7{w:World}{M:Nat→Prop}{v:Value}{x:PV}(h:pvOf v=some x):RP w M x v:=by
 unfold pvOf at h
 split at h
 ·rename_i cs
  obtain⟨xs,h1,rfl⟩:=aa0.1 h
  obtain⟨hl,hi⟩:=F6 (w:=w) (M:=M) h1
  refine .agg (by rw[hl];simp) (λi x hx=>(hi i x hx).1) (λi x hx=>?_)
  obtain⟨_,v,hv,hr⟩:=hi i x hx
  have:cs.getD i undef=v:=by
   simp only[ach]
   rw[←adg,hv];rfl
  rw[this];exact hr
 ·exact(Bl h).1
theorem jJ{w:World}{ι:az}{k:IntKind}{n:Int}{v:Value}(h:RA w ι (.p (.int k n)) v):v=.int k n:=by
 obtain⟨⟨⟩⟩|_:=h;rfl
theorem pF{w:World}{ι:az}{x:Bool}{v:Value}(h:RA w ι (.p (.b x)) v):v=.bool x:=by
 obtain⟨⟨⟩⟩|_:=h;rfl
theorem pG{w:World}{ι:az}{l:List UInt8}{v:Value}(h:RA w ι (.p (.str l)) v):v=.string ⟨⟨l⟩⟩:=by
 obtain⟨⟨⟩⟩|_:=h;rfl
theorem vf{w:World}{ι:az}{u v:Value}(h:RA w ι (.p (.lit u)) v):v=u:=by
 obtain⟨⟨⟩⟩|_:=h;rfl
section
variable {cx:Cx} {ι:az} {st:St} {a:Act} {w:World}
theorem NB{l:List (Nat×List PV)}{g:Nat}{r:List PV}(h:glbRow l g=some r):(g,r)∈l:=by
 induction l with
 |nil=>cases h
 |cons x s ih=>
  obtain⟨n,q⟩:=x
  unfold glbRow at h
  by_cases e:n=g
  ·subst e;simp at h;subst h;simp
  ·rw[f_ e]at h;exact acQ _ (ih h)
theorem NC(gl:ga w ι.M){g:Nat}{r:List PV}(h:glbRow AW g=some r):RA w ι (.p (.b7 r 0)) (a.eval (.global g)):=by
 obtain⟨h1,h2,h3⟩:=gl g r (NB h)
 let cv:Nat→Value:=λi=>(w.cell? ⟨g,i,none⟩).getD undef
 have dY:∀(i:Nat) x,r[i]? =some x→w.cell? ⟨g,i,none⟩=some (cv i)∧RP w ι.M x (cv i):=λi x hx=>by
  obtain⟨_,v,hv,hr⟩:=h3 i x hx
  have e:cv i=v:=by show(w.cell? _).getD undef=v;rw[hv];rfl
  rw[e];exact⟨hv,hr⟩
 exact .p (.b7 (a:=⟨g,0,none⟩) (cv:=cv) rfl h1 h2 (λi x hx=>(h3 i x hx).1) (λi x hx=>by simpa using (dY i x hx).1) (λi x hx=>(dY i x hx).2))
theorem bt(gl:ga w ι.M)(tm:∀s,RA w ι (lk st.tmps s) (a.tmps.getD s undef)){o:Operand}{o':aS}(h:cOpd o=some o'):RA w ι (ev st o') (a.eval o):=by
 unfold cOpd at h
 split at h
 ·cases h;exact tm _
 ·obtain⟨x,h1,rfl⟩:=aa0.1 h
  exact .p (F7 h1)
 ·cases h;exact .p (.fn (by simp) (by simp) (by simp) (by simp))
 ·obtain⟨r,h1,rfl⟩:=aa0.1 h
  exact NC gl h1
theorem x8(gl:ga w ι.M)(tm:∀s,RA w ι (lk st.tmps s) (a.tmps.getD s undef)){l:List Operand}{l':List aS}(h:cOpds l=some l'):
 (evL st l').length=l.length∧∀(i:Nat) x,(evL st l')[i]? =some x→RA w ι x ((l.map a.eval).toArray.getD i undef):=by
 induction l generalizing l' with
 |nil=>simp[cOpds]at h;subst h;simp[evL]
 |cons o r ih=>
  unfold cOpds at h
  split at h
  ·rename_i y l h1 h2
   cases h
   obtain⟨hl,hi⟩:=ih h2
   refine⟨by simp[evL,hl],λi x hx=>?_⟩
   cases i with
   |zero=>simp[evL]at hx;subst hx;simpa using bt gl tm h1
   |succ i=>simp[evL]at hx;simpa using hi i x hx
  ·cases h
def cU(P:Program)(w:World)(ι:az)(k:AV→Prop)(s:Sem Value):Prop:=
 ∃av v,k av∧RA w ι av v∧∀w',Ext w w'→s.run P w'=.ok v w'
theorem cU.mk{P:Program}{k:AV→Prop}{s:Sem Value}{av:AV}{v:Value}(hk:k av)(hr:RA w ι av v)
 (h:∀w',Ext w w'→s.run P w'=.ok v w'):cU P w ι k s:=⟨av,v,hk,hr,h⟩
theorem run_underlying{P:Program}{t:TypeId}{d:TypeDesc}(h:P.underlying t=some d)(w:World):(underlying t).run P w=.ok d w:=by
 simp[underlying,h]
theorem run_typeInfo{P:Program}{t:TypeId}{i:TypeInfo}(h:P.info? t=some i)(w:World):(typeInfo t).run P w=.ok i w:=by
 simp[typeInfo,h]
theorem run_sizeOf{P:Program}{t:TypeId}{s:Nat}(h:bI P t=some s)(w:World):(Go.sizeOf t).run P w=.ok s w:=by
 unfold bI at h
 obtain⟨i,h1,rfl⟩:=aa0.1 h
 simp[Go.sizeOf,run_typeInfo h1]
theorem pH{P:Program}{t:TypeId}{g:Bool}(h:aggT P t=some g)(w:World):(isAgg t).run P w=.ok g w:=by
 unfold aggT at h
 unfold isAgg
 split at h
 ·cases h;rename_i h1;simp[run_underlying h1]
 ·cases h;rename_i h1;simp[run_underlying h1]
 ·cases h;rename_i d h1 h2 h3
  simp only[Sem.run_bind,run_underlying h3,Result.andThen_ok]
  cases d<;>first|rfl|exact absurd h3 (by simp_all)
 ·cases h
theorem F8{P:Program}{op:BinOp}{t:TypeId}{xo yo:Operand}{x y:AV}{v u:Value}{k:AV→Prop}(hx:RA w ι x v)(hy:RA w ι y u)(h:vbin op x y k):
 cU P w ι k (do eqGuard op t xo yo v u;binOp op t v u):=by
 unfold vbin at h
 split at h
 ·
  rw[jJ hx,jJ hy]
  cases op
  case add=>obtain⟨e,h1⟩:=eC h;subst e;exact .mk h1 (.p (.int _ _)) λw' _=>by simp[eqGuard,Go.binOp,Op.intArith,intAr]
  case sub=>obtain⟨e,h1⟩:=eC h;subst e;exact .mk h1 (.p (.int _ _)) λw' _=>by simp[eqGuard,Go.binOp,Op.intArith,intAr]
  case mul=>obtain⟨e,h1⟩:=eC h;subst e;exact .mk h1 (.p (.int _ _)) λw' _=>by simp[eqGuard,Go.binOp,Op.intArith,intAr]
  case and=>obtain⟨e,h1⟩:=eC h;subst e;exact .mk h1 (.p (.int _ _)) λw' _=>by simp[eqGuard,Go.binOp,Op.intBits,intAr]
  case or=>obtain⟨e,h1⟩:=eC h;subst e;exact .mk h1 (.p (.int _ _)) λw' _=>by simp[eqGuard,Go.binOp,Op.intBits,intAr]
  case xor=>obtain⟨e,h1⟩:=eC h;subst e;exact .mk h1 (.p (.int _ _)) λw' _=>by simp[eqGuard,Go.binOp,Op.intBits,intAr]
  case andNot=>obtain⟨e,h1⟩:=eC h;subst e;exact .mk h1 (.p (.int _ _)) λw' _=>by simp[eqGuard,Go.binOp,Op.intBits,intAr]
  case quo=>obtain⟨e,h0,h1⟩:=eC h;subst e;exact .mk h1 (.p (.int _ _)) λw' _=>by simp[eqGuard,Go.binOp,Op.intDiv,intAr,h0]
  case rem=>obtain⟨e,h0,h1⟩:=eC h;subst e;exact .mk h1 (.p (.int _ _)) λw' _=>by simp[eqGuard,Go.binOp,Op.intDiv,intAr,h0]
  case shl=>obtain⟨h0,h1⟩:=h;exact .mk h1 (.p (.int _ _)) λw' _=>by simp[eqGuard,Go.binOp,Op.shift,intAr,Int.not_lt.2 h0]
  case shr=>obtain⟨h0,h1⟩:=h;exact .mk h1 (.p (.int _ _)) λw' _=>by simp[eqGuard,Go.binOp,Op.shift,intAr,Int.not_lt.2 h0]
  case eql=>obtain⟨e,h1⟩:=eC h;subst e;exact .mk h1 (.p (.b _)) λw' _=>by simp[eqGuard,Go.binOp,Op.intCmp,intCm]
  case neq=>obtain⟨e,h1⟩:=eC h;subst e;exact .mk h1 (.p (.b _)) λw' _=>by simp[eqGuard,Go.binOp,Op.intCmp,intCm]
  case lss=>obtain⟨e,h1⟩:=eC h;subst e;exact .mk h1 (.p (.b _)) λw' _=>by simp[eqGuard,Go.binOp,Op.intCmp,intCm]
  case leq=>obtain⟨e,h1⟩:=eC h;subst e;exact .mk h1 (.p (.b _)) λw' _=>by simp[eqGuard,Go.binOp,Op.intCmp,intCm]
  case gtr=>obtain⟨e,h1⟩:=eC h;subst e;exact .mk h1 (.p (.b _)) λw' _=>by simp[eqGuard,Go.binOp,Op.intCmp,intCm]
  case geq=>obtain⟨e,h1⟩:=eC h;subst e;exact .mk h1 (.p (.b _)) λw' _=>by simp[eqGuard,Go.binOp,Op.intCmp,intCm]
 ·
  rw[pG hx,pG hy]
  rename_i la lb
  have e3:∀l:List UInt8,(⟨⟨l⟩⟩:ByteArray).toList=l:=λl=>ByteArray.toList_mk l
  cases op<;>simp only at h
  case add=>
   obtain⟨h0,h⟩:=h
   refine .mk h (.p (.str _)) λw' _=>?_
   have hs:¬((((⟨⟨la⟩⟩:ByteArray).size+(⟨⟨lb⟩⟩:ByteArray).size:Nat):Int)>IntKind.i64.max):=by
    show ¬((((la.length+lb.length:Nat)):Int)>9223372036854775807)
    omega
   have hc:(⟨⟨la⟩⟩:ByteArray)++⟨⟨lb⟩⟩=⟨⟨la++lb⟩⟩:=by apply adE;simp
   simp only[eqGuard,Go.binOp,Op.stringOp,aaR hs,hc]
   rfl
  case eql=>exact .mk h (.p (.b _)) λw' _=>by simp[eqGuard,Go.binOp,Op.stringOp,qG,e3]
  case neq=>exact .mk h (.p (.b _)) λw' _=>by simp[eqGuard,Go.binOp,Op.stringOp,qG,e3]
  case lss=>exact .mk h (.p (.b _)) λw' _=>by simp[eqGuard,Go.binOp,Op.stringOp,qG,e3]
  case leq=>exact .mk h (.p (.b _)) λw' _=>by simp[eqGuard,Go.binOp,Op.stringOp,qG,e3]
  case gtr=>exact .mk h (.p (.b _)) λw' _=>by simp[eqGuard,Go.binOp,Op.stringOp,qG,e3]
  case geq=>exact .mk h (.p (.b _)) λw' _=>by simp[eqGuard,Go.binOp,Op.stringOp,qG,e3]
  all_goals exact h.elim
 ·exact h.elim
end
section
variable {P:Program} {ι:az} {st:St} {a:Act} {w:World}
def ni(w:World)(M:Nat→Prop)(c off:Nat)(row:List PV):Prop:=
 ∀(j:Nat) x,row[j]? =some x→x.one=true∧∃v,w.cell? ⟨c,off+j,none⟩=some v∧RP w M x v
def F9(w:World)(ι:az)(c off:Nat)(cells:List AV):Prop:=
 ∀(j:Nat) x,cells[j]? =some x→∃v,w.cell? ⟨c,off+j,none⟩=some v∧dQ v=true∧RA w ι x v
theorem RP.pI{w:World}{M:Nat→Prop}{x:PV}{v:Value}(h:RP w M x v)(h1:dQ v=true):x.one=true:=by
 cases h<;>first|rfl|(simp[dQ,Value.oneCell']at h1)
theorem vg{l:List AV}{ps:List PV}(h:allP l=some ps):l=ps.map .p:=by
 induction l generalizing ps with
 |nil=>simp[allP]at h;subst h;rfl
 |cons x r ih=>
  cases x with
  |p x=>
   simp only[allP]at h
   cases hr:allP r with
   |none=>simp[hr]at h
   |some l=>simp[hr]at h;subst h;simp[ih hr]
  |_=>simp[allP]at h
theorem Bm{M:Nat→Prop}{cells:List PV}{v:Value}(h:RP w M (.agg cells) v):∃cs:Array Value,v=.agg cs∧cs.size=cells.length∧
 (∀(i:Nat) x,cells[i]? =some x→x.one=true)∧∀(i:Nat) x,cells[i]? =some x→RP w M x (cs.getD i undef):=by
 cases h with
 |agg hl bA h=>exact⟨_,rfl,hl,bA,h⟩
theorem lF{M:Nat→Prop}{wd:Nat}{rows:List (List PV)}{cap:Option Nat}{v:Value}(h:RP w M (.aw wd rows cap) v):
 ∃a c,v=.slice a rows.length c∧rows.length≤c∧(∀k,cap=some k→c=k)∧(rows=[]∨∃ad:Addr,a=some ad∧ad.spot=none∧¬M ad.block∧ad.block<w.heap.size∧
  ∀(i:Nat) row,rows[i]? =some row→row.length=wd∧ni w M ad.block (ad.off+i*wd) row):=by
 cases h with
 |nil h=>exact⟨_,_,rfl,aa1 _,h,.inl rfl⟩
 |aw hs hM hb hc aR bm bA bn dv=>
  exact⟨_,_,rfl,hc,aR,.inr ⟨_,rfl,hs,hM,hb,λi row hi=>⟨bm i row hi,λj x hx=>⟨bA i row j x hi hx,_,by rw[aa9];exact bn i row j x hi hx,dv i row j x hi hx⟩⟩⟩⟩
theorem x9{M:Nat→Prop}{row:List PV}{c off:Nat}(h:ni w M c off row)(hM:¬M c)(hc:c<w.heap.size)(j:Nat):
 RP w M (.b7 row j) (.pointer (some ⟨c,off+j,none⟩)):=by
 refine .b7 (a:=⟨c,off,none⟩) (cv:=λi=>(w.cell? ⟨c,off+i,none⟩).getD undef) rfl hM hc (λi x hx=>(h i x hx).1) (λi x hx=>?_) (λi x hx=>?_)
 all_goals
  obtain⟨_,v,hv,hr⟩:=h i x hx
  simp[hv,hr]
theorem sN{M:Nat→Prop}{wd:Nat}{rows:List (List PV)}{cap:Option Nat}{ad:Addr}{c:Nat}(hs:ad.spot=none)(hM:¬M ad.block)(hb:ad.block<w.heap.size)
 (hc:rows.length≤c) (aR:∀k,cap=some k→c=k) (h:∀(i:Nat) row,rows[i]? =some row→row.length=wd∧ni w M ad.block (ad.off+i*wd) row):
 RP w M (.aw wd rows cap) (.slice (some ad) rows.length c):=by
 refine .aw (cv:=λi j=>(w.cell? ⟨ad.block,ad.off+(i*wd+j),none⟩).getD undef) hs hM hb hc aR (λi row hi=>(h i row hi).1)
  (λi row j x hi hx=>((h i row hi).2 j x hx).1) (λi row j x hi hx=>?_) (λi row j x hi hx=>?_)
 all_goals
  obtain⟨_,v,hv,hr⟩:=(h i row hi).2 j x hx
  rw[aa9]at hv
  simp[hv,hr]
theorem x_{l:List AV}{cs:Array Value}(hl:cs.size=l.length)(bA:∀(i:Nat) x,l[i]? =some x→dQ (cs.getD i undef)=true)
 (h:∀(i:Nat) x,l[i]? =some x→RA w ι x (cs.getD i undef)):RA w ι (qF l) (.agg cs):=by
 unfold qF
 split
 ·rename_i ps hp
  have e:=vg hp
  subst e
  refine .p (.agg (by simpa using hl) (λi x hx=>?_) (λi x hx=>?_))
  all_goals
   have h1:=h i (.p x) (by simp[hx])
   have h2:=bA i (.p x) (by simp[hx])
   cases h1
   rename_i h1
  ·exact h1.pI h2
  ·exact h1
 ·exact .agg hl bA h
theorem F_{t:TypeId}{sz:Nat}(hs:bI P t=some sz)(hg:aggT P t=some true)(c off:Nat)(f:Nat→Value)(w:World)
 (h:∀j,j<sz→w.cell? ⟨c,off+j,none⟩=some (f j)):(loadVar t ⟨c,off,none⟩).run P w=.ok (.agg ((List.range sz).map f).toArray) w:=by
 have hl:=run_loadCells (P:=P) w ⟨c,off,none⟩ sz f (λj hj=>by rw[gK];exact h j hj)
 simp[loadVar,pH hg,run_sizeOf hs,hl]
theorem ya{t:TypeId}(hg:aggT P t=some false)(ad:Addr)(v:Value)(w:World)
 (h:w.cell? ad=some v):(loadVar t ad).run P w=.ok v w:=by
 simp[loadVar,pH hg,h]
theorem Bo{c off:Nat}{row:List PV}(hr:ni w ι.M c off row){j sz:Nat}{ag:Bool}{k:AV→Prop}(h:vrow row j sz ag k){t:TypeId}
 (hs:bI P t=some sz) (hg:aggT P t=some ag):cU P w ι k (loadVar t ⟨c,off+j,none⟩):=by
 cases ag with
 |true=>
  obtain⟨cs,rfl,hl,hk⟩:=h
  rw[gJ]at hl hk
  have hlen:j+sz≤row.length∨sz=0:=by
   simp at hl;omega
  have fe:∀i x,((row.drop j).take sz)[i]? =some x→row[j+i]? =some x∧i<sz:=λi x hx=>by
   rw[ab5]at hx
   split at hx
   ·rw[abJ]at hx;exact⟨hx,by assumption⟩
   ·cases hx
  have bn:∀i,i<sz→∃x v,row[j+i]? =some x∧x.one=true∧w.cell? ⟨c,off+j+i,none⟩=some v∧RP w ι.M x v:=λi hi=>by
   have aq:j+i<row.length:=by omega
   obtain⟨h1,v,h2,h3⟩:=hr (j+i) row[j+i] (aaU aq)
   exact⟨_,v,aaU aq,h1,by rw[aa9];exact h2,h3⟩
  refine .mk (v:=.agg ((List.range sz).map λi=>(w.cell? ⟨c,off+j+i,none⟩).getD undef).toArray) hk (.p (.agg ?_ (λi x hx=>?_) (λi x hx=>?_))) λw' bQ=>?_
  ·simp[hl]
  ·obtain⟨h1,h2⟩:=fe i x hx
   exact(hr _ _ h1).1
  ·obtain⟨h1,h2⟩:=fe i x hx
   obtain⟨x',v,h3,h4,h5,h6⟩:=bn i h2
   rw[h1]at h3;cases h3
   simp[h2,h5,h6]
  ·exact F_ hs hg c (off+j) _ w' λi hi=>by
    obtain⟨x',v,h3,h4,h5,h6⟩:=bn i hi
    rw[bQ.cell h5,h5];rfl
 |false=>
  obtain⟨x,hx,hk⟩:=h
  obtain⟨h1,v,h2,h3⟩:=hr j x hx
  exact .mk (Bk hk) (.p h3) λw' bQ=>ya hg _ v w' (bQ.cell h2)
theorem Ga{c off:Nat}{cells:List AV}(hr:F9 w ι c off cells){j sz:Nat}{ag:Bool}{k:AV→Prop}(h:nc cells j sz ag k){t:TypeId}
 (hs:bI P t=some sz) (hg:aggT P t=some ag):cU P w ι k (loadVar t ⟨c,off+j,none⟩):=by
 cases ag with
 |true=>
  unfold nc at h
  simp only at h
  cases hb:Nat.ble (j+sz) cells.length with
  |false=>rw[hb]at h;exact h.elim
  |true=>
   rw[hb]at h
   have hlen:=abj hb
   simp only[cond_true]at h
   rw[gJ]at h
   have fe:∀i x,((cells.drop j).take sz)[i]? =some x→cells[j+i]? =some x∧i<sz:=λi x hx=>by
    rw[ab5]at hx
    split at hx
    ·rw[abJ]at hx;exact⟨hx,by assumption⟩
    ·cases hx
   have bn:∀i,i<sz→∃x v,cells[j+i]? =some x∧w.cell? ⟨c,off+j+i,none⟩=some v∧dQ v=true∧RA w ι x v:=λi hi=>by
    have aq:j+i<cells.length:=by omega
    obtain⟨v,h2,h1,h3⟩:=hr (j+i) cells[j+i] (aaU aq)
    exact⟨_,v,aaU aq,by rw[aa9];exact h2,h1,h3⟩
   refine .mk (v:=.agg ((List.range sz).map λi=>(w.cell? ⟨c,off+j+i,none⟩).getD undef).toArray) h (x_ ?_ (λi x hx=>?_) (λi x hx=>?_)) λw' bQ=>?_
   ·simp;omega
   ·obtain⟨h1,h2⟩:=fe i x hx
    obtain⟨x',v,h3,h4,h5,h6⟩:=bn i h2
    rw[h1]at h3;cases h3
    simp[h2,h4];exact h5
   ·obtain⟨h1,h2⟩:=fe i x hx
    obtain⟨x',v,h3,h4,h5,h6⟩:=bn i h2
    rw[h1]at h3;cases h3
    simp[h2,h4,h6]
   ·exact F_ hs hg c (off+j) _ w' λi hi=>by
     obtain⟨x',v,h3,h4,h5,h6⟩:=bn i hi
     rw[bQ.cell h4,h4];rfl
 |false=>
  unfold nc at h
  simp only at h
  cases hb:Nat.blt j cells.length with
  |false=>rw[hb]at h;exact h.elim
  |true=>
   rw[hb]at h
   simp only[cond_true]at h
   have aq:j<cells.length:=by simpa [acr]using hb
   obtain⟨v,h2,h1,h3⟩:=hr j cells[j] (aaU aq)
   have e:nth .undef cells j=cells[j]:=by rw[iD,aaU aq];rfl
   rw[e]at h
   exact .mk (dj h) h3 λw' bQ=>ya hg _ v w' (bQ.cell h2)
theorem cell_of{w:World}{c:Nat}{cs:Array Value}{ty:TypeId}{fz:Nat×Nat}(h:w.heap[c]? =some (.cells cs ty fz))(off:Nat):
 w.cell? ⟨c,off,none⟩=cs[off]?:=by simp[World.cell?,h]
theorem bL.row{h:List Blk}(hr:bL ι h w){b wd c o s i:Nat}{rows:List (List PV)}{row:List PV}(hb:ι b=some (c,o,s))(hn:nth .dead h b=.pr wd rows)
 (hi:rows[i]? =some row):row.length=wd∧ni w ι.M c (o+i*wd) row:=by
 have:=hr.blk b
 rw[hn,RB,hb]at this
 rcases this with⟨h0,_⟩|⟨c',o',s',cs,ty,fz,he,h1,hf,h2,h3,h4,h5⟩
 ·cases h0
 ·cases he
  refine⟨h4 i row hi,λj x hx=>?_⟩
  obtain⟨h6,v,h7,h8⟩:=h5 i row j x hi hx
  exact⟨h6,v,by rw[cell_of h1,aa9];exact h7,h8⟩
theorem bL.cells{h:List Blk}(hr:bL ι h w){b c o s:Nat}{cells:List AV}(hb:ι b=some (c,o,s))(hn:nth .dead h b=.mx cells):
 F9 w ι c o cells:=by
 have:=hr.blk b
 rw[hn,RB,hb]at this
 obtain⟨c',o',s',cs,ty,fz,he,h1,hf,h2,h3,h4⟩:=this
 cases he
 intro j x hx
 obtain⟨v,h5,h6,h7⟩:=h4 j x hx
 exact⟨v,by rw[cell_of h1];exact h5,h6,h7⟩
theorem bL.ND{h:List Blk}(hr:bL ι h w){b c o s n:Nat}{arr:List PV}{cells:List AV}(hb:ι b=some (c,o,s))(hn:nth .dead h b=.ax n arr cells):
 arr.length=n∧∀(j:Nat) x,(arr.map AV.p++cells)[j]? =some x→∃v,w.cell? ⟨c,o+j,none⟩=some v∧dQ v=true∧RA w ι x v:=by
 have:=hr.blk b
 rw[hn,hb]at this
 obtain⟨h0,c',o',s',cs,ty,fz,he,h1,_,_,_,h4⟩:=this
 cases he
 refine⟨h0,λj x hx=>?_⟩
 obtain⟨v,v1,v2,v3⟩:=h4 j x hx
 exact⟨v,by simp[World.cell?,h1,v1],v2,v3⟩
theorem bL.Gb{h:List Blk}(hr:bL ι h w){b c o s wo wd i:Nat}{cells:List (Bool×List (List PV))}{op:Option Nat}(hb:ι b=some (c,o,s))(hn:nth .dead h b=.pn wo wd cells op)
 {fl:Bool} {rows:List (List PV)} (hi:cells[i]? =some (fl,rows)):∃v,w.cell? ⟨c,o+i,none⟩=some v∧dQ v=true∧
  (fl=true→op=none→RA w ι (.cd b wd i rows.length) v)∧(fl=false→RP w ι.M (.aw wd rows (some rows.length)) v):=by
 have h0:=hr.blk b
 rw[hn,hb]at h0
 rcases h0 with⟨h0,_⟩|⟨c',o',s',cs,ty,fz,he,h1,_,_,_,h4⟩
 ·cases h0
 cases he
 obtain⟨v,v1,v2,v3⟩:=h4 i fl rows hi
 have bn:w.cell? ⟨c,o+i,none⟩=some v:=by simp[World.cell?,h1,v1]
 refine⟨v,bn,v2,λe1 e2=>?_,v3⟩
 subst e1;subst e2
 have h2:=hr.hid b i
 unfold HB at h2
 have a_:(nth .dead h b).inner i=some (wd,rows,true):=by rw[hn];simp[Blk.inner,hi]
 rw[a_]at h2
 obtain⟨v',p1,p2⟩:=h2.2 rfl
 rw[hn,hb]at p1
 obtain⟨c2,o2,s2,e3,p1⟩:=p1
 cases e3
 rw[bn]at p1;cases p1
 rcases p2 with⟨c',o',s',cc,q,rfl,ql,qs⟩|⟨q,oa,rfl⟩
 ·exact .cd q ql qs
 ·rw[q];exact .iC
theorem bL.NF{h:List Blk}(hr:bL ι h w){b c o s wo wd i r:Nat}{cells:List (Bool×List (List PV))}{op:Option Nat}(hb:ι (.h b i)=some (c,o,s))(hn:nth .dead h b=.pn wo wd cells op)
 {rows:List (List PV)} (hi:cells[i]? =some (true,rows)) {row:List PV} (bm:rows[r]? =some row):
 ∀(j:Nat) x,row[j]? =some x→x.one=true∧∃v,w.cell? ⟨c,o+r*wd+j,none⟩=some v∧RP w ι.M x v:=by
 have h0:=hr.hid b i
 have a_:(nth .dead h b).inner i=some (wd,rows,!decide (op=some i)):=by rw[hn];simp[Blk.inner,hi]
 unfold HB at h0
 rw[a_,hb]at h0
 rcases h0.1 with⟨h1,_⟩|⟨c',o',s',cs,ty,fz,he,h1,_,_,_,_,h6⟩
 ·cases h1
 cases he
 intro j x hx
 obtain⟨g1,v,g2,g3⟩:=h6 r row j x bm hx
 exact⟨g1,v,by rw[cell_of h1,aa9];exact g2,g3⟩
theorem NG(arr:List PV)(cells:List AV):allP (arr.map AV.p++cells)=(allP cells).map (arr++·):=by
 induction arr with
 |nil=>cases h:allP cells<;>simp[h]
 |cons x r ih=>
  simp only[aby,List.cons_append,allP,ih]
  cases allP cells<;>rfl
theorem Bp(arr:List PV)(cells:List AV):qF (arr.map AV.p++cells)=uZ arr cells:=by
 unfold qF uZ
 rw[NG]
 cases allP cells<;>rfl
theorem NH{n:Nat}{arr:List PV}{cells:List AV}(hn:arr.length=n){j sz:Nat}{ag:Bool}{k:AV→Prop}(h:AY n arr cells j sz ag k):nc (arr.map AV.p++cells) j sz ag k:=by
 subst hn
 unfold AY at h
 unfold nc
 cases ag with
 |false=>
  simp only at h ⊢
  rcases h with⟨hj,x,hx,h⟩|⟨hj,x,hx,h⟩
  ·have aq:Nat.blt j (arr.map AV.p++cells).length=true:=by simp only[acr];simp;omega
   rw[aq]
   have e:nth .undef (arr.map AV.p++cells) j=.p x:=by
    rw[iD,abm (by simpa using hj),aaY,hx];rfl
   simp only[cond_true]
   rw[e]
   exact h
  ·have dI:=(aaW.1 hx).1
   have aq:Nat.blt j (arr.map AV.p++cells).length=true:=by simp only[acr];simp;omega
   rw[aq]
   have e:nth .undef (arr.map AV.p++cells) j=x:=by
    rw[iD,abq (by simpa using hj),aa3,hx];rfl
   simp only[cond_true]
   rw[e]
   exact h
 |true=>
  simp only at h ⊢
  cases h1:Nat.ble arr.length j with
  |true=>
   rw[h1]at h
   simp only[cond_true]at h
   have h1:=abj h1
   cases h2:Nat.ble (j - arr.length+sz) cells.length with
   |false=>rw[h2]at h;exact h.elim
   |true=>
    rw[h2]at h
    have h2:=abj h2
    have hle:Nat.ble (j+sz) (arr.map AV.p++cells).length=true:=(by simp only[acx];simp;omega)
    rw[hle]
    have e:dropN j (arr.map AV.p++cells)=dropN (j - arr.length) cells:=by
     rw[gJ,gJ,adh,adi (by simpa using h1)];simp
    rw[e]
    exact h
  |false=>
   rw[h1]at h
   simp only[cond_false]at h
   cases h2:Nat.beq j 0 with
   |false=>rw[h2]at h;exact h.elim
   |true=>
    rw[h2]at h
    obtain rfl:=abt h2
    simp only[cond_true]at h
    cases h3:Nat.beq sz arr.length with
    |true=>
     rw[h3]at h
     obtain rfl:=abt h3
     have hle:Nat.ble (0+arr.length) (arr.map AV.p++cells).length=true:=(by simp only[acx];simp)
     rw[hle]
     have e:(dropN 0 (arr.map AV.p++cells)).take arr.length=arr.map AV.p++[]:=by
      simp[dropN]
     simp only[cond_true]
     rw[e,Bp]
     simpa [uZ,allP]using h
    |false=>
     rw[h3]at h
     simp only[cond_false]at h
     cases h4:(Nat.ble arr.length sz&&Nat.ble (sz - arr.length) cells.length)with
     |false=>rw[h4]at h;exact h.elim
     |true=>
      rw[h4]at h
      simp only[aa2]at h4
      have h5:=abj h4.1
      have h6:=abj h4.2
      have hle:Nat.ble (0+sz) (arr.map AV.p++cells).length=true:=(by simp only[acx];simp;omega)
      rw[hle]
      have e:(dropN 0 (arr.map AV.p++cells)).take sz=arr.map AV.p++cells.take (sz - arr.length):=by
       simp only[dropN]
       rw[adF,ab6 (by simpa using h5),aa3]
      simp only[cond_true]
      rw[e,Bp]
      exact h
theorem Bq{h:List Blk}(hr:bL ι h w){av:AV}{v:Value}(hv:RA w ι av v){sz:Nat}{ag:Bool}{k:AV→Prop}(hl:vload h av sz ag k){t:TypeId}
 (hs:bI P t=some sz) (hg:aggT P t=some ag):cU P w ι k (Instr.loadAt t v):=by
 have pack:∀ad,cU P w ι k (loadVar t ad)→cU P w ι k (Instr.loadAt t (.pointer (some ad))):=λad h=>by
  obtain⟨x,u,h1,h2,h3⟩:=h
  exact .mk h1 h2 λw' bQ=>by simp[Instr.loadAt,Instr.sureAddr,h3 w' bQ]
 unfold vload at hl
 split at hl
 ·rename_i b wd i j
  cases hv
  rename_i c o s hb
  split at hl
  ·rename_i cells hn
   split at hl
   ·simp only[acs,aaX]
    exact pack _ (Ga (hr.cells hb hn) hl hs hg)
   ·exact hl.elim
  ·rename_i n arr cells hn
   split at hl
   ·simp only[acs,aaX]
    obtain⟨h0,h1⟩:=hr.ND hb hn
    exact pack _ (Ga h1 (NH h0 hl) hs hg)
   ·exact hl.elim
  ·rename_i b8 rows hn
   cases hw:Nat.beq wd b8 with
   |false=>rw[hw]at hl;exact hl.elim
   |true=>
    rw[hw]at hl
    obtain rfl:=abt hw
    obtain⟨row,hi,hl⟩:=hl
    rw[←aa9]
    exact pack _ (Bo (hr.row hb hn hi).2 hl hs hg)
  ·rename_i wo wi cells op hn
   cases hw:(Nat.beq wd wo&&Nat.beq sz 1&&!ag)with
   |false=>rw[hw]at hl;exact hl.elim
   |true=>
    rw[hw]at hl
    obtain⟨⟨e1,e2⟩,e3⟩:=by simpa using hw
    subst e1;subst e2;subst e3
    obtain⟨fl,rows,hc,hl⟩:=hl
    obtain⟨v,hv,ho,hx⟩:=hr.Gb hb hn hc
    cases fl with
    |true=>
     obtain⟨e,hk⟩:=hl
     subst e
     exact .mk hk (hx.1 rfl rfl) λw' bQ=>ya hg _ v w' (bQ.cell hv)
    |false=>exact .mk hl (.p (hx.2 rfl)) λw' bQ=>ya hg _ v w' (bQ.cell hv)
  ·exact hl.elim
 ·rename_i row j
  cases hv
  rename_i hv
  cases hv
  rename_i ad cv bU hM hb bA bn dv
  exact pack _ (Bo (c:=ad.block) (off:=ad.off) (λi x hx=>⟨bA i x hx,cv i,bn i x hx,dv i x hx⟩) hl hs hg)
 ·rename_i b wd i r j
  cases hv
  rename_i c o s hb
  split at hl
  ·rename_i wo wi cells op hn
   cases hw:Nat.beq wd wi with
   |false=>rw[hw]at hl;exact hl.elim
   |true=>
    rw[hw]at hl
    obtain rfl:=abt hw
    obtain⟨rows,row,hc,bm,hl⟩:=hl
    rw[←aa9]
    exact pack _ (Bo (hr.NF hb hn hc bm) hl hs hg)
  ·exact hl.elim
 ·exact hl.elim
theorem NI{x i:AV}{v u:Value}(hx:RA w ι x v)(hi:RA w ι i u){len esz:Nat}{k:AV→Prop}(h:vidxA x i len esz k){t e:TypeId}
 (ht:P.underlying t=some (.array len e)) (hs:bI P e=some esz):cU P w ι k (Instr.indexAt t v u):=by
 unfold vidxA at h
 split at h
 ·rename_i kk n
  rw[jJ hi]
  obtain⟨⟨h0,h1⟩,h⟩:=h
  have run:∀(ad:Addr) (w':World),(Instr.indexAt t (.pointer (some ad)) (.int kk n)).run P w'=.ok (.pointer (some (ad.add (n.toNat*esz)))) w':=λad w'=>by
   simp[Instr.indexAt,asIntOf,run_underlying ht,Instr.sureAddr,h0,h1,run_sizeOf hs]
  split at h
  ·rename_i b wd r j
   cases hx
   rename_i c o s hb
   refine .mk h (.ptr hb) λw' _=>?_
   rw[run,gK,aa9,aa9]
  ·rename_i row j
   cases hx
   rename_i hx
   cases hx
   rename_i ad cv bU hM hb bA bn dv
   refine .mk h (.p (.b7 bU hM hb bA bn dv)) λw' _=>?_
   rw[run,gK,aa9]
  ·exact h.elim
 ·exact h.elim
theorem NJ{x i:AV}{v u:Value}(hx:RA w ι x v)(hi:RA w ι i u){esz:Nat}{k:AV→Prop}(h:vidxS x i esz k){t e:TypeId}
 (ht:P.underlying t=some (.slice e)) (hs:bI P e=some esz):cU P w ι k (Instr.indexAt t v u):=by
 unfold vidxS at h
 split at h
 ·rename_i kk n
  rw[jJ hi]
  have run:∀(ad:Addr) (len cap:Nat) (w':World),0≤n→n<(len:Int)→
   (Instr.indexAt t (.slice (some ad) len cap) (.int kk n)).run P w'=.ok (.pointer (some (ad.add (n.toNat*esz)))) w':=λad len cap w' h0 h1=>by
   simp[Instr.indexAt,asIntOf,run_underlying ht,h0,h1,run_sizeOf hs]
  split at h
  ·rename_i wd rows cap
   obtain⟨⟨h0,h1⟩,row,bm,h⟩:=h
   cases hw:Nat.beq wd esz with
   |false=>rw[hw]at h;exact h.elim
   |true=>
    rw[hw]at h
    obtain rfl:=abt hw
    cases hx
    rename_i hx
    obtain⟨oa,c,rfl,hc,aR,hr⟩:=lF hx
    rcases hr with rfl|⟨ad,rfl,bU,hM,hb,hr⟩
    ·simp at bm
    ·refine .mk h (.p (x9 (hr _ _ bm).2 hM hb 0)) λw' _=>?_
     rw[run _ _ _ _ h0 h1,x7 bU];rfl
  ·rename_i b wd r len cap
   obtain⟨⟨h0,h1⟩,h⟩:=h
   cases hw:Nat.beq wd esz with
   |false=>rw[hw]at h;exact h.elim
   |true=>
    rw[hw]at h
    obtain rfl:=abt hw
    cases hx
    ·rename_i c o s cc hb hl aR bU
     refine .mk h (.ptr hb) λw' _=>?_
     rw[run _ _ _ _ h0 h1,gK,aa6,Nat.add_zero,aa9]
    ·simp at h1;omega
  ·rename_i b wd r j e' len
   obtain⟨⟨h0,h1⟩,h⟩:=h
   cases hw:Nat.beq e' esz with
   |false=>rw[hw]at h;exact h.elim
   |true=>
    rw[hw]at h
    obtain rfl:=abt hw
    cases hx with
    |aF hb hl=>
     refine .mk h (.ptr hb) λw' _=>?_
     rw[run _ _ _ _ h0 h1,gK,aa9,aa9]
    |i_=>simp at h1;omega
  ·rename_i b wd i len
   obtain⟨⟨h0,h1⟩,h⟩:=h
   cases hw:Nat.beq wd esz with
   |false=>rw[hw]at h;exact h.elim
   |true=>
    rw[hw]at h
    obtain rfl:=abt hw
    cases hx with
    |cd hb hl bU=>
     refine .mk h (.ip hb) λw' _=>?_
     rw[run _ _ _ _ h0 h1,gK,Nat.add_zero]
    |iC=>simp at h1;omega
  ·exact h.elim
 ·exact h.elim
theorem NK(l:List UInt8)(n:Nat):(⟨⟨l⟩⟩:ByteArray)[n]? =l[n]?:=by
 by_cases h:n<l.length
 ·rw[aaU h,getElem?_pos (⟨⟨l⟩⟩:ByteArray) n h];rfl
 ·rw[aa4 (by omega),getElem?_neg (⟨⟨l⟩⟩:ByteArray) n h]
theorem NL{x i:AV}{v u:Value}(hx:RA w ι x v)(hi:RA w ι i u){k:AV→Prop}(h:vidxStr x i k){t:TypeId}
 (ht:P.underlying t=some .string):cU P w ι k (Instr.index t v u):=by
 unfold vidxStr at h
 split at h
 ·rename_i l kk n
  obtain⟨h0,c,hc,h⟩:=h
  rw[jJ hi,pG hx]
  refine .mk h (.p (.int _ _)) λw' _=>?_
  simp[Instr.index,asIntOf,run_underlying ht,h0,NK,hc]
 ·exact h.elim
theorem Gc{cells:List PV}{cs:Array Value}(hc:RP w ι.M (.agg cells) (.agg cs)){j sz:Nat}{ag:Bool}{k:AV→Prop}(h:vrow cells j sz ag k){t:TypeId}
 (hs:bI P t=some sz) (hg:aggT P t=some ag):cU P w ι k (part t cs j):=by
 obtain⟨nj,dB,hl,bA,dv⟩:=Bm hc
 cases dB
 cases ag with
 |true=>
  obtain⟨xs,rfl,hx,hk⟩:=h
  rw[gJ]at hx hk
  have hlen:j+sz≤cells.length∨sz=0:=by simp at hx;omega
  have fe:∀i x,((cells.drop j).take sz)[i]? =some x→cells[j+i]? =some x∧i<sz:=λi x hx=>by
   rw[ab5]at hx
   split at hx
   ·rw[abJ]at hx;exact⟨hx,by assumption⟩
   ·cases hx
  have iE:∀i,i<sz→(cs.extract j (j+sz)).getD i undef=cs.getD (j+i) undef:=λi hi=>by
   simp only[ach,ad6]
   rw[aaS (by omega)]
  refine .mk hk (.p (.agg (cs:=cs.extract j (j+sz)) (by simp at hx ⊢;omega) (λi x hx=>bA _ _ (fe i x hx).1) (λi x hx=>?_))) λw' _=>by
   simp[part,pH hg,run_sizeOf hs]
  obtain⟨h1,h2⟩:=fe i x hx
  rw[iE i h2]
  exact dv _ _ h1
 |false=>
  obtain⟨x,hx,hk⟩:=h
  refine .mk (Bk hk) (.p (dv j x hx)) λw' _=>?_
  have aq:j<cs.size:=by rw[hl];exact(aaW.1 hx).1
  simp[part,pH hg,aq]
theorem NM{cells:List AV}{cs:Array Value}(hc:RA w ι (.agg cells) (.agg cs)){j sz:Nat}{ag:Bool}{k:AV→Prop}(h:nc cells j sz ag k){t:TypeId}
 (hs:bI P t=some sz) (hg:aggT P t=some ag):cU P w ι k (part t cs j):=by
 cases hc
 rename_i hl bA dv
 cases ag with
 |true=>
  unfold nc at h
  simp only at h
  cases hb:Nat.ble (j+sz) cells.length with
  |false=>rw[hb]at h;exact h.elim
  |true=>
   rw[hb]at h
   have hlen:=abj hb
   simp only[cond_true]at h
   rw[gJ]at h
   have fe:∀i x,((cells.drop j).take sz)[i]? =some x→cells[j+i]? =some x∧i<sz:=λi x hx=>by
    rw[ab5]at hx
    split at hx
    ·rw[abJ]at hx;exact⟨hx,by assumption⟩
    ·cases hx
   have iE:∀i,i<sz→(cs.extract j (j+sz)).getD i undef=cs.getD (j+i) undef:=λi hi=>by
    simp only[ach,ad6]
    rw[aaS (by omega)]
   refine .mk h (x_ (cs:=cs.extract j (j+sz)) (by simp;omega) (λi x hx=>?_) (λi x hx=>?_)) λw' _=>by
    simp[part,pH hg,run_sizeOf hs]
   all_goals
    obtain⟨h1,h2⟩:=fe i x hx
    rw[iE i h2]
   ·exact bA _ _ h1
   ·exact dv _ _ h1
 |false=>
  unfold nc at h
  simp only at h
  cases hb:Nat.blt j cells.length with
  |false=>rw[hb]at h;exact h.elim
  |true=>
   rw[hb]at h
   simp only[cond_true]at h
   have aq:j<cells.length:=by simpa [acr]using hb
   have e:nth .undef cells j=cells[j]:=by rw[iD,aaU aq];rfl
   rw[e]at h
   refine .mk (dj h) (dv j _ (aaU aq)) λw' _=>?_
   have sO:j<cs.size:=by omega
   simp[part,pH hg,sO]
theorem NN{x i:AV}{v u:Value}(hx:RA w ι x v)(hi:RA w ι i u){len esz:Nat}{ag:Bool}{k:AV→Prop}(h:vidxArr x i len esz ag k){t e:TypeId}
 (ht:P.underlying t=some (.array len e)) (hs:bI P e=some esz) (hg:aggT P e=some ag):cU P w ι k (Instr.index t v u):=by
 unfold vidxArr at h
 split at h
 ·rename_i cells kk n
  obtain⟨⟨h0,h1⟩,h⟩:=h
  rw[jJ hi]
  cases hx
  rename_i hx
  have gd:=hx
  cases hx
  rename_i cs hl bA dv
  obtain⟨y,z,h2,h3,h4⟩:=Gc gd h hs hg
  exact .mk h2 h3 λw' bQ=>by simp[Instr.index,asIntOf,run_underlying ht,h0,h1,run_sizeOf hs,h4 w' bQ]
 ·exact h.elim
theorem NO{x:AV}{v:Value}(hx:RA w ι x v){k:AV→Prop}{t:TypeId}{fs:Array Field}{f n:Nat}{fd:Field}(h:u0 x fd.offset k)
 (ht:P.underlying t=some (.struct fs)) (hf:fs[f]? =some fd) (hs:bI P fd.type=some (n+1)):cU P w ι k (Instr.fieldAt t v f):=by
 have run:∀(ad:Addr) (w':World),(Instr.fieldAt t (.pointer (some ad)) f).run P w'=.ok (.pointer (some (ad.add fd.offset))) w':=λad w'=>by
  simp[Instr.fieldAt,run_underlying ht,hf,Instr.sureAddr,fieldPlace,run_sizeOf hs]
 unfold u0 at h
 split at h
 ·rename_i b wd i j
  cases hx
  rename_i c o s hb
  refine .mk h (.ptr hb) λw' _=>?_
  rw[run,gK,aa9,aa9]
 ·rename_i row j
  cases hx
  rename_i hx
  cases hx
  rename_i ad cv bU hM hb bA bn dv
  refine .mk h (.p (.b7 bU hM hb bA bn dv)) λw' _=>?_
  rw[run,gK,aa9]
 ·exact h.elim
theorem NP{x:AV}{v:Value}(hx:RA w ι x v){k:AV→Prop}{t:TypeId}{fs:Array Field}{f n:Nat}{fd:Field}(h:u0 x fd.offset k)
 (ht:P.underlying t=some (.struct fs)) (hf:fs[f]? =some fd) (hs:bI P fd.type=some (n+1)):∃av r,k av∧RA w ι av r∧∀w',(Instr.fieldAt t v f).run P w'=.ok r w':=by
 have run:∀(ad:Addr) (w':World),(Instr.fieldAt t (.pointer (some ad)) f).run P w'=.ok (.pointer (some (ad.add fd.offset))) w':=λad w'=>by
  simp[Instr.fieldAt,run_underlying ht,hf,Instr.sureAddr,fieldPlace,run_sizeOf hs]
 unfold u0 at h
 split at h
 ·rename_i b wd i j
  cases hx
  rename_i c o s hb
  refine⟨_,_,h,.ptr hb,λw'=>?_⟩
  rw[run,gK,aa9,aa9]
 ·rename_i row j
  cases hx
  rename_i hx
  cases hx
  rename_i ad cv bU hM hb bA bn dv
  refine⟨_,_,h,.p (.b7 bU hM hb bA bn dv),λw'=>?_⟩
  rw[run,gK,aa9]
 ·exact h.elim
theorem NQ{x:AV}{v:Value}(hx:RA w ι x v){k:AV→Prop}{t:TypeId}{fs:Array Field}{f sz:Nat}{ag:Bool}{fd:Field}(h:AZ x fd.offset sz ag k)
 (ht:P.underlying t=some (.struct fs)) (hf:fs[f]? =some fd) (hs:bI P fd.type=some sz) (hg:aggT P fd.type=some ag):cU P w ι k (Instr.field t v f):=by
 unfold AZ at h
 split at h
 ·rename_i cells
  cases hx
  rename_i hx
  have gd:=hx
  cases hx
  obtain⟨y,z,h2,h3,h4⟩:=Gc gd h hs hg
  exact .mk h2 h3 λw' bQ=>by simp[Instr.field,run_underlying ht,hf,asAgg,h4 w' bQ]
 ·rename_i cells
  have gd:=hx
  cases hx
  obtain⟨y,z,h2,h3,h4⟩:=NM gd h hs hg
  exact .mk h2 h3 λw' bQ=>by simp[Instr.field,run_underlying ht,hf,asAgg,h4 w' bQ]
 ·exact h.elim
theorem NR{x:AV}{v:Value}(hx:RA w ι x v){k:AV→Prop}(h:A1 x k){t ty:TypeId}
 (ht:P.underlying t=some .string):cU P w ι k (Builtin.len_ #[t] ty #[v]):=by
 unfold A1 at h
 split at h
 ·rename_i l
  rw[pG hx]
  exact .mk h (.p (.int _ _)) λw' _=>by simp[Builtin.len_,run_underlying ht,goInt];rfl
 ·exact h.elim
theorem NS{x:AV}{v:Value}(hx:RA w ι x v){k:AV→Prop}(h:A0 x k){t e ty:TypeId}
 (ht:P.underlying t=some (.slice e)):cU P w ι k (Builtin.len_ #[t] ty #[v]):=by
 have qR:∀a n c w',(Builtin.len_ #[t] ty #[.slice a n c]).run P w'=.ok (.int .i64 n) w':=λa n c w'=>by
  simp[Builtin.len_,run_underlying ht,goInt]
 unfold A0 at h
 split at h
 ·cases hx
  rename_i hx
  obtain⟨oa,c,rfl,_⟩:=lF hx
  exact .mk h (.p (.int _ _)) λw' _=>qR _ _ _ w'
 ·cases hx
  ·exact .mk h (.p (.int _ _)) λw' _=>qR _ _ _ w'
  ·exact .mk h (.p (.int _ _)) λw' _=>qR _ _ _ w'
 ·cases hx
  ·exact .mk h (.p (.int _ _)) λw' _=>qR _ _ _ w'
  ·exact .mk h (.p (.int _ _)) λw' _=>qR _ _ _ w'
 ·cases hx
  ·exact .mk h (.p (.int _ _)) λw' _=>qR _ _ _ w'
  ·exact .mk h (.p (.int _ _)) λw' _=>qR _ _ _ w'
 ·exact h.elim
end
section
variable {P:Program} {ι:az} {st:St} {a:Act} {w:World}
theorem jK(gl:ga w ι.M)(tm:∀s,RA w ι (lk st.tmps s) (a.tmps.getD s undef)){o:Option Operand}{o':Option aS}(hc:cOpdO o=some o'){d:Int}{k:Int→Prop}
 (h:vbnd (o'.map (ev st)) d k):∃n,k n∧((o=none∧o'=none∧n=d)∨∃x kk,o=some x∧a.eval x=.int kk n):=by
 cases o with
 |none=>simp[cOpdO]at hc;subst hc;exact⟨d,h,.inl ⟨rfl,rfl,rfl⟩⟩
 |some x=>
  simp only[cOpdO]at hc
  obtain⟨y,hy,rfl⟩:=aa0.1 hc
  have hr:=bt gl tm hy
  simp only[Option.map_some]at h
  generalize ev st y=av at h hr
  unfold vbnd at h
  split at h
  ·rename_i heq;cases heq
  ·rename_i kk n heq
   cases heq
   exact⟨n,h,.inr ⟨x,kk,rfl,jJ hr⟩⟩
  ·exact h.elim
theorem Br(isSlice:Bool)(len cap:Nat)(lo hi mx:Option Operand)(l h m:Int)(w:World)
 (hl:(lo=none∧l=0)∨∃x kk,lo=some x∧a.eval x=.int kk l)
 (hh:(hi=none∧h=len∧mx=none)∨∃x kk,hi=some x∧a.eval x=.int kk h)
 (hm:(mx=none∧m=cap)∨∃x kk,mx=some x∧a.eval x=.int kk m)
 (h0:0≤l) (h1:l≤h) (h2:h≤m) (h3:m≤cap):
 (Instr.sliceBounds isSlice len cap (lo.map a.eval) (hi.map a.eval) (mx.map a.eval)).run P w=.ok (l.toNat,h.toNat,m.toNat) w:=by
 have b:∀(v:Value) (kk:IntKind) (n:Int) (y:Nat) (code:BoundsCode),v=.int kk n→0≤n→n≤(y:Int)→(Instr.sliceBound v y code).run P w=.ok n.toNat w:=by
  intro v kk n y code hv h0 h1
  simp[Instr.sliceBound,asIntOf,hv,h0,h1]
 have gV:0≤m:=by omega
 have gg:(m.toNat:Int)=m:=acE gV
 have pJ:(h.toNat:Int)=h:=acE (by omega)
 rcases hm with⟨rfl,rfl⟩|⟨xm,km,rfl,em⟩
 ·rcases hh with⟨rfl,rfl,_⟩|⟨xh,kh,rfl,eh⟩
  ·rcases hl with⟨rfl,rfl⟩|⟨xl,kl,rfl,el⟩
   ·simp[Instr.sliceBounds]
   ·simp[Instr.sliceBounds,b _ _ _ _ _ el h0 h1]
  ·have e1:=b _ _ _ cap (if isSlice then BoundsCode.sliceAcap else BoundsCode.sliceAlen) eh (by omega) h2
   rcases hl with⟨rfl,rfl⟩|⟨xl,kl,rfl,el⟩
   ·simp[Instr.sliceBounds,e1]
   ·have e2:=b _ _ _ h.toNat BoundsCode.sliceB el h0 (by omega)
    simp[Instr.sliceBounds,e1,e2]
 ·have e3:=b _ _ _ cap (if isSlice then BoundsCode.slice3Acap else BoundsCode.slice3Alen) em gV h3
  rcases hh with⟨rfl,rfl,hx⟩|⟨xh,kh,rfl,eh⟩
  ·cases hx
  ·have e1:=b _ _ _ m.toNat BoundsCode.slice3B eh (by omega) (by omega)
   rcases hl with⟨rfl,rfl⟩|⟨xl,kl,rfl,el⟩
   ·simp[Instr.sliceBounds,e1,e3]
   ·have e2:=b _ _ _ h.toNat BoundsCode.slice3C el h0 (by omega)
    simp[Instr.sliceBounds,e1,e2,e3]
theorem ni.later{w:World}{M:Nat→Prop}{c off:Nat}{row:List PV}(h:ni w M c off row){Gd:Nat}(e:off=Gd):ni w M c Gd row:=e▸h
theorem Ge{wd len:Nat}{rows rs:List (List PV)}{cap gH:Option Nat}{oa:Option Addr}{c l m:Nat}(hc:rows.length≤c)
 (hr:rows=[]∨∃ad:Addr,oa=some ad∧ad.spot=none∧¬ι.M ad.block∧ad.block<w.heap.size∧
  ∀(i:Nat) row,rows[i]? =some row→row.length=wd∧ni w ι.M ad.block (ad.off+i*wd) row)
 (eW:(dropN l rows).take len=rs) (hlen:rs.length=len) (eJ:l+len≤m) (aR:∀k,gH=some k→m - l=k) (esz:Nat) (hw:wd=esz∨rows=[]):
 RA w ι (.p (.aw wd rs gH)) (.slice (if m=l then oa else oa.map (·.add (l*esz))) len (m - l)):=by
 subst hlen
 rw[gJ]at eW
 cases rs with
 |nil=>exact .p (.nil (λk hk=>aR k hk))
 |cons r0 NT=>
  have bg:rows≠[]:=by
   intro h;subst h;simp at eW
  rcases hr with h|⟨ad,rfl,hs,hM,hb,hr⟩
  ·exact absurd h bg
  ·rcases hw with rfl|h
   ·have dp:m≠l:=by simp at eJ;omega
    rw[aaR dp]
    simp only[Option.map_some,x7 hs]
    refine .p (sN (ad:=⟨ad.block,ad.off+l*wd,none⟩) rfl hM hb (by simp at eJ ⊢;omega) (λk hk=>aR k hk) λi row hi=>?_)
    have bp:rows[l+i]? =some row:=by
     have:((rows.drop l).take (r0::NT).length)[i]? =some row:=by rw[eW];exact hi
     rw[ab5]at this
     split at this
     ·rwa [abJ]at this
     ·cases this
    obtain⟨h1,h2⟩:=hr _ _ bp
    exact⟨h1,h2.later (by rw[aa6,aa9])⟩
   ·exact absurd h bg
theorem NU(gl:ga w ι.M)(tm:∀s,RA w ι (lk st.tmps s) (a.tmps.getD s undef)){x:AV}{v:Value}(hx:RA w ι x v){lo hi mx:Option Operand}{kM bp nk:Option aS}
 (mh:cOpdO lo=some kM) (lG:cOpdO hi=some bp) (eK:cOpdO mx=some nk) (qS:(nk.isSome&&bp.isNone)=false) {esz:Nat} {k:AV→Prop}
 (h:vslcS x (kM.map (ev st)) (bp.map (ev st)) (nk.map (ev st)) esz k) {t e:TypeId} (ht:P.underlying t=some (.slice e)) (hs:bI P e=some esz):
 cU P w ι k (Instr.sliceAt t v (lo.map a.eval) (hi.map a.eval) (mx.map a.eval)):=by
 have run:∀(oa:Option Addr) (len cap:Nat) (l h m:Int) (w':World),
  ((lo=none∧l=0)∨∃x kk,lo=some x∧a.eval x=.int kk l)→((hi=none∧h=len∧mx=none)∨∃x kk,hi=some x∧a.eval x=.int kk h)→
  ((mx=none∧m=cap)∨∃x kk,mx=some x∧a.eval x=.int kk m)→0≤l→l≤h→h≤m→m≤cap→
  (Instr.sliceAt t (.slice oa len cap) (lo.map a.eval) (hi.map a.eval) (mx.map a.eval)).run P w'=
   .ok (.slice (if m.toNat=l.toNat then oa else oa.map (·.add (l.toNat*esz))) (h.toNat - l.toNat) (m.toNat - l.toNat)) w':=by
  intro oa len cap l h m w' e1 e2 e3 h0 h1 h2 h3
  simp[Instr.sliceAt,run_underlying ht,Instr.slice,Br true len cap lo hi mx l h m w' e1 e2 e3 h0 h1 h2 h3,run_sizeOf hs]
 have Gf:∀{m':Option aS},cOpdO mx=some m'→m'.map (ev st)=none→mx=none:=by
  intro m' h1 h2
  cases mx with
  |none=>rfl
  |some x=>simp only[cOpdO]at h1;obtain⟨y,_,rfl⟩:=aa0.1 h1;cases h2
 have ju:hi=none→mx=none:=by
  intro h1;subst h1
  simp[cOpdO]at lG;subst lG
  cases mx with
  |none=>rfl
  |some x=>simp only[cOpdO]at eK;obtain⟨y,_,rfl⟩:=aa0.1 eK;simp at qS
 unfold vslcS at h
 split at h
 ·rename_i wd rows cap
  cases hx
  rename_i hx
  obtain⟨oa,c,rfl,hc,aR,hr⟩:=lF hx
  split at h
  ·rename_i gV
   have nm:=Gf eK gV
   obtain⟨l,h,el⟩:=jK gl tm mh h
   obtain⟨hh,h,eh⟩:=jK gl tm lG h
   obtain⟨⟨h0,h1,h2⟩,h⟩:=h
   cases hw:(Nat.beq wd esz||rows.isEmpty)with
   |false=>rw[hw]at h;exact h.elim
   |true=>
    rw[hw]at h
    obtain⟨rs,eW,hlen,hk⟩:=h
    have vh:wd=esz∨rows=[]:=by simp at hw;exact hw.imp (λh=>h) (λh=>h)
    refine .mk hk (Ge (cap:=cap) (l:=l.toNat) (m:=c) hc hr eW hlen (by omega) (λk hk=>?_) esz vh) λw' _=>?_
    ·obtain⟨k0,lH,rfl⟩:=aa0.1 hk
     rw[aR _ lH]
    ·rw[run oa rows.length c l hh c w' (el.imp (λh=>⟨h.1,h.2.2⟩) id) (eh.imp (λh=>⟨h.1,h.2.2,nm⟩) id) (.inl ⟨nm,rfl⟩) h0 h1 (by omega) (by omega)]
     simp
  ·rename_i m0 gV
   obtain⟨l,h,el⟩:=jK gl tm mh h
   obtain⟨hh,h,eh⟩:=jK gl tm lG h
   rw[←gV]at h
   obtain⟨m,h,em⟩:=jK gl tm eK h
   have Bs:∃x kk,mx=some x∧a.eval x=.int kk m:=by
    rcases em with⟨h1,h2,h3⟩|em
    ·subst h2;cases gV
    ·exact em
   obtain⟨⟨h0,h1,h2,h3⟩,h⟩:=h
   cases hw:(Nat.beq wd esz||rows.isEmpty)with
   |false=>rw[hw]at h;exact h.elim
   |true=>
    rw[hw]at h
    obtain⟨rs,eW,hlen,hk⟩:=h
    have vh:wd=esz∨rows=[]:=by simp at hw;exact hw.imp (λh=>h) (λh=>h)
    refine .mk hk (Ge (cap:=cap) (l:=l.toNat) (m:=m.toNat) hc hr eW hlen (by omega) (λk hk=>?_) esz vh) λw' _=>?_
    ·cases hk;rfl
    ·exact run oa rows.length c l hh m w' (el.imp (λh=>⟨h.1,h.2.2⟩) id) (eh.imp (λh=>⟨h.1,h.2.2,ju h.1⟩) id) (.inr Bs) h0 h1 (by omega) (by omega)
 ·rename_i b wd i len cap
  have part:∀(l hh m:Int) (gH:Option Nat) (oa:Option Addr) (cc:Nat),RA w ι (.sl b wd i len cap) (.slice oa len cc)→0≤l→l≤hh→hh≤m→hh≤len→m≤cc→
   (∀k,gH=some k→m.toNat - l.toNat=k)→
   RA w ι (.sl b wd (i+l.toNat) (hh.toNat - l.toNat) gH) (.slice (if m.toNat=l.toNat then oa else oa.map (·.add (l.toNat*wd))) (hh.toNat - l.toNat) (m.toNat - l.toNat)):=by
   intro l hh m gH oa cc hr h0 h1 h2 h3 h4 Gg
   by_cases hz:m.toNat=l.toNat
   ·have e1:hh.toNat - l.toNat=0:=by omega
    have e2:m.toNat - l.toNat=0:=by omega
    rw[aaS hz,e1,e2]
    exact .db λk hk=>by rw[←Gg k hk];exact e2
   ·rw[aaR hz]
    cases hr with
    |sl hb hl aR bU=>
     rename_i c o s
     simp only[Option.map_some,gK]
     rw[show o+i*wd+l.toNat*wd=o+(i+l.toNat)*wd by rw[aa6,aa9]]
     refine .sl hb (by omega) Gg ?_
     have:(i+l.toNat+(m.toNat - l.toNat))*wd≤(i+cc)*wd:=abz _ (by omega)
     omega
    |db aR=>omega
  have shape:∃oa cc,v=.slice oa len cc∧(∀k,cap=some k→cc=k)∧len≤cc:=by
   cases hx with
   |sl hb hl aR bU=>exact⟨_,_,rfl,aR,hl⟩
   |db aR=>exact⟨_,_,rfl,λk hk=>(aR k hk).symm,aaV _⟩
  obtain⟨oa,cc,rfl,aR,ZI⟩:=shape
  split at h
  ·rename_i gV
   have nm:=Gf eK gV
   obtain⟨l,h,el⟩:=jK gl tm mh h
   obtain⟨hh,h,eh⟩:=jK gl tm lG h
   obtain⟨⟨h0,h1,h2⟩,hk⟩:=h
   cases hw:Nat.beq wd esz with
   |false=>rw[hw]at hk;exact hk.elim
   |true=>
    rw[hw]at hk
    obtain rfl:=abt hw
    refine .mk hk (part l hh cc _ oa cc hx h0 h1 (by omega) h2 (by omega) λk hk=>?_) λw' _=>?_
    ·obtain⟨k0,lH,rfl⟩:=aa0.1 hk
     rw[aR _ lH];simp
    ·exact run oa len cc l hh cc w' (el.imp (λh=>⟨h.1,h.2.2⟩) id) (eh.imp (λh=>⟨h.1,h.2.2,nm⟩) id) (.inl ⟨nm,rfl⟩) h0 h1 (by omega) (by omega)
  ·rename_i m0 gV
   obtain⟨l,h,el⟩:=jK gl tm mh h
   obtain⟨hh,h,eh⟩:=jK gl tm lG h
   rw[←gV]at h
   obtain⟨m,h,em⟩:=jK gl tm eK h
   have Bs:∃x kk,mx=some x∧a.eval x=.int kk m:=by
    rcases em with⟨h1,h2,h3⟩|em
    ·subst h2;cases gV
    ·exact em
   obtain⟨⟨h0,h1,h2,h3⟩,hk⟩:=h
   cases hw:Nat.beq wd esz with
   |false=>rw[hw]at hk;exact hk.elim
   |true=>
    rw[hw]at hk
    obtain rfl:=abt hw
    refine .mk hk (part l hh m _ oa cc hx h0 h1 h2 (by omega) (by omega) λk hk=>?_) λw' _=>?_
    ·cases hk;rfl
    ·exact run oa len cc l hh m w' (el.imp (λh=>⟨h.1,h.2.2⟩) id) (eh.imp (λh=>⟨h.1,h.2.2,ju h.1⟩) id) (.inr Bs) h0 h1 (by omega) (by omega)
 ·exact h.elim
end
section
variable {P:Program} {ι:az} {st:St} {a:Act} {w:World}
theorem NV(gl:ga w ι.M)(tm:∀s,RA w ι (lk st.tmps s) (a.tmps.getD s undef)){x:AV}{v:Value}(hx:RA w ι x v){lo hi mx:Option Operand}{kM bp nk:Option aS}
 (mh:cOpdO lo=some kM) (lG:cOpdO hi=some bp) (eK:cOpdO mx=some nk) (qS:(nk.isSome&&bp.isNone)=false) {len esz:Nat} {k:AV→Prop}
 (h:vslcA x (kM.map (ev st)) (bp.map (ev st)) (nk.map (ev st)) len esz k) {t e:TypeId} (ht:P.underlying t=some (.array len e)) (hs:bI P e=some esz):
 cU P w ι k (Instr.sliceAt t v (lo.map a.eval) (hi.map a.eval) (mx.map a.eval)):=by
 have ju:hi=none→mx=none:=by
  intro h1;subst h1
  simp[cOpdO]at lG;subst lG
  cases mx with
  |none=>rfl
  |some x=>simp only[cOpdO]at eK;obtain⟨y,_,rfl⟩:=aa0.1 eK;simp at qS
 unfold vslcA at h
 split at h
 ·rename_i b wd i j
  obtain⟨l,h,el⟩:=jK gl tm mh h
  obtain⟨hh,h,eh⟩:=jK gl tm lG h
  obtain⟨m,h,em⟩:=jK gl tm eK h
  obtain⟨⟨h0,h1,h2,h3⟩,hk⟩:=h
  cases hx
  rename_i c o s hb
  have aT:∀w',(Instr.sliceAt t (.pointer (some ⟨c,o+(i*wd+j),none⟩)) (lo.map a.eval) (hi.map a.eval) (mx.map a.eval)).run P w'=
   .ok (.slice (some (if m.toNat=l.toNat then⟨c,o+(i*wd+j),none⟩else(⟨c,o+(i*wd+j),none⟩:Addr).add (l.toNat*esz))) (hh.toNat - l.toNat) (m.toNat - l.toNat)) w':=λw'=>by
   simp[Instr.sliceAt,run_underlying ht,Instr.sureAddr,run_sizeOf hs,
    Br (P:=P) false len len lo hi mx l hh m w' (el.imp (λh=>⟨h.1,h.2.2⟩) id) (eh.imp (λh=>⟨h.1,h.2.2,ju h.1⟩) id) (em.imp (λh=>⟨h.1,h.2.2⟩) id) h0 h1 h2 h3]
  by_cases hz:hh.toNat - l.toNat=0
  ·rw[hz]at hk
   refine .mk (v:=.slice (some (if m.toNat=l.toNat then⟨c,o+(i*wd+j),none⟩else(⟨c,o+(i*wd+j),none⟩:Addr).add (l.toNat*esz))) 0 (m.toNat - l.toNat)) hk .i_ λw' _=>?_
   rw[aT,hz]
  ·refine .mk hk (.aF (cc:=m.toNat - l.toNat) hb (by omega)) λw' _=>?_
   rw[aT,aaR (by omega),gK,aa9,aa9]
 ·exact h.elim
theorem Gh(l:List UInt8)(i j:Nat):(⟨⟨l⟩⟩:ByteArray).extract i j=⟨⟨(l.drop i).take (j - i)⟩⟩:=by
 apply adE
 simp[ByteArray.data_extract,List.extract_eq_take_drop]
theorem NW(gl:ga w ι.M)(tm:∀s,RA w ι (lk st.tmps s) (a.tmps.getD s undef)){x:AV}{v:Value}(hx:RA w ι x v){lo hi:Option Operand}{kM bp:Option aS}
 (mh:cOpdO lo=some kM) (lG:cOpdO hi=some bp) {k:AV→Prop}
 (h:vslcStr x (kM.map (ev st)) (bp.map (ev st)) k) {t:TypeId} (ht:P.underlying t=some .string):
 cU P w ι k (Instr.sliceAt t v (lo.map a.eval) (hi.map a.eval) none):=by
 unfold vslcStr at h
 split at h
 ·rename_i s
  obtain⟨l,h,el⟩:=jK gl tm mh h
  obtain⟨hh,h,eh⟩:=jK gl tm lG h
  obtain⟨⟨h0,h1,h2⟩,hk⟩:=h
  rw[pG hx]
  refine .mk hk (.p (.str _)) λw' _=>?_
  have e:(⟨⟨s⟩⟩:ByteArray).size=s.length:=rfl
  have:=Br (P:=P) (a:=a) false s.length s.length lo hi none l hh s.length w' (el.imp (λh=>⟨h.1,h.2.2⟩) id) (eh.imp (λh=>⟨h.1,h.2.2,rfl⟩) id) (.inl ⟨rfl,rfl⟩) h0 h1 (by omega) (by omega)
  simp only[Option.map_none]at this
  rw[gJ]
  simp only[Instr.sliceAt,Sem.run_bind,run_underlying ht,Result.andThen_ok,Instr.slice,e,Option.isSome_none,ab2,abA,this,Gh,Sem.run_pure]
 ·exact h.elim
def oo(w:World)(M:Nat→Prop)(v:Value)(esz:Nat)(rows:List (List PV)):Prop:=
 ∃oa cap,v=.slice oa rows.length cap∧(rows=[]∨∃ad:Addr,oa=some ad∧ad.spot=none∧
  ∀(i:Nat) row,rows[i]? =some row→row.length=esz∧ni w M ad.block (ad.off+i*esz) row)
theorem Gi{h:List Blk}(hr:bL ι h w){x:AV}{v:Value}(hx:RA w ι x v){esz:Nat}{k:List (List PV)→Prop}(hv:vslices h x esz k):
 ∃rows,k rows∧oo w ι.M v esz rows:=by
 unfold vslices at hv
 split at hv
 ·rename_i wd rows cap
  cases hw:(Nat.beq wd esz||rows.isEmpty)with
  |false=>rw[hw]at hv;exact hv.elim
  |true=>
   rw[hw]at hv
   have vh:wd=esz∨rows=[]:=by simp at hw;exact hw.imp (λh=>h) (λh=>h)
   cases hx
   rename_i hx
   obtain⟨oa,c,rfl,hc,aR,hr⟩:=lF hx
   refine⟨rows,hv,⟨oa,c,rfl,?_⟩⟩
   rcases vh with rfl|h0
   ·exact hr.imp id λ⟨ad,h1,h2,h3,h4,h5⟩=>⟨ad,h1,h2,h5⟩
   ·exact .inl h0
 ·rename_i b wd i len cap
  split at hv
  ·rename_i b8 rows hn
   cases hw:(Nat.beq wd b8&&Nat.beq wd esz)with
   |false=>rw[hw]at hv;exact hv.elim
   |true=>
    rw[hw]at hv
    obtain⟨e1,e2⟩:=by simpa using hw
    subst e1;subst e2
    obtain⟨rs,eW,hlen,hk⟩:=hv
    cases hx with
    |sl hb hl aR bU=>
     rename_i c o s cc
     refine⟨rs,hk,⟨_,_,by rw[hlen],.inr ⟨_,rfl,rfl,λn row hi=>?_⟩⟩⟩
     rw[gJ]at eW
     have bp:rows[i+n]? =some row:=by
      have:((rows.drop i).take len)[n]? =some row:=by rw[eW];exact hi
      rw[ab5]at this
      split at this
      ·rwa [abJ]at this
      ·cases this
     obtain⟨h1,h2⟩:=hr.row hb hn bp
     exact⟨h1,h2.later (by simp[aa6,aa9])⟩
    |db aR=>
     have:rs=[]:=abf hlen
     subst this
     exact⟨[],hk,⟨_,_,rfl,.inl rfl⟩⟩
  ·exact hv.elim
 ·rename_i b wd i j e len
  split at hv
  ·rename_i b8 rows hn
   cases hw:(Nat.beq wd b8&&Nat.beq e esz&&Nat.beq e 1)with
   |false=>rw[hw]at hv;exact hv.elim
   |true=>
    rw[hw]at hv
    obtain⟨⟨e1,e2⟩,e3⟩:=by simpa using hw
    subst e1;subst e2;subst e3
    obtain⟨row,rs,bm,eW,hlen,hk⟩:=hv
    cases hx with
    |aF hb hl=>
     rename_i c o s cc
     refine⟨rs,hk,⟨_,_,by rw[hlen],.inr ⟨_,rfl,rfl,λn r hi=>?_⟩⟩⟩
     rw[gJ]at eW
     obtain⟨h1,h2⟩:=hr.row hb hn bm
     have:(((row.drop j).take len).map λx=>[x])[n]? =some r:=by rw[eW];exact hi
     rw[aaY,ab5]at this
     split at this
     ·rw[abJ]at this
      obtain⟨y,hy,rfl⟩:=aa0.1 this
      refine⟨rfl,λq z hz=>?_⟩
      cases q with
      |zero=>
       simp at hz;subst hz
       obtain⟨h3,v,h4,h5⟩:=h2 _ _ hy
       refine⟨h3,v,?_,h5⟩
       rw[←h4];congr 2;simp[aa9]
      |succ q=>simp at hz
     ·simp at this
    |i_=>
     have:rs=[]:=abf hlen
     subst this
     exact⟨[],hk,⟨_,_,rfl,.inl rfl⟩⟩
  ·exact hv.elim
 ·exact hv.elim
theorem NX{h:List Blk}(hr:bL ι h w){x:AV}{v:Value}(hx:RA w ι x v){esz:Nat}{k:List (List PV)→Prop}(hv:lB h x esz k):
 ∃rows,k rows∧((∃l,x=.p (.str l)∧v=.string ⟨⟨l⟩⟩∧rows=l.map fY∧esz=1)∨oo w ι.M v esz rows):=by
 unfold lB at hv
 split at hv
 ·rename_i l
  cases hw:Nat.beq esz 1 with
  |false=>rw[hw]at hv;exact hv.elim
  |true=>
   rw[hw]at hv
   exact⟨_,hv,.inl ⟨l,rfl,pG hx,rfl,abt hw⟩⟩
 ·obtain⟨rows,h1,h2⟩:=Gi hr hx hv
  exact⟨rows,h1,.inr h2⟩
theorem NY{h:List Blk}(hr:bL ι h w){x:AV}{v:Value}(hx:RA w ι x v){k:AV→Prop}
 (hv:vslices h x 1 λrows=>∃l:List UInt8,rows=l.map fY∧k (.p (.str l))) {t d e:TypeId} (ht:P.underlying t=some (.slice e)) (he:P.underlying e=some (.int .u8))
 (hd:P.underlying d=some .string):cU P w ι k (convert t d v):=by
 obtain⟨rows,⟨l,rfl,hk⟩,sP⟩:=Gi hr hx hv
 obtain⟨oa,cap,rfl,pK⟩:=sP
 ·refine .mk hk (.p (.str l)) λw' bQ=>?_
  rw[run_convert_bytes_string w' t d e _ _ _ ht he hd]
  rcases pK with h0|⟨ad,rfl,hs,bm⟩
  ·have:l=[]:=by simpa using h0
   subst this
   cases oa with
   |none=>rfl
   |some ad=>
    have:=run_bytesToString (P:=P) w' ad 0 cap [] (by simp[loadCells,loadCellsFrom])
    exact(by simpa using this:_=Result.ok (Value.string ByteArray.empty) w')
  ·have bn:∀i b,l[i]? =some b→w.cell? (ad.add i)=some (.int .u8 b.toNat):=by
    intro i b hb
    obtain⟨_,h2⟩:=bm i (fY b) (by simp[hb])
    obtain⟨_,v,h3,h4⟩:=h2 0 (.int .u8 b.toNat) rfl
    cases h4
    rw[x7 hs]
    simpa using h3
   have hl:=run_loadCells_list (P:=P) w' ad ((l.map λb=>(b.toNat:Int)).map (Value.int .u8)) (λj v hv=>by
    simp at hv
    obtain⟨b,hb,rfl⟩:=hv
    exact bQ.cell (bn j b hb))
   have:=run_bytesToString (P:=P) w' ad l.length cap (l.map λb=>(b.toNat:Int)) (by simpa using hl)
   simp only[aa3]
   rw[this,foldl_push_bytes]
   congr 2
   apply adE
   simp[abM,Function.comp_def]
end
section
variable {P:Program} {ι:az} {st:St} {a:Act} {w:World}
theorem pL{x:AV}(aZ:vok x=true){v:Value}(h:RA w ι x v):v.cells.size=(cellsOf x).length∧
 ∀(i:Nat) y,(cellsOf x)[i]? =some y→dQ (v.cells.getD i undef)=true∧RA w ι y (v.cells.getD i undef):=by
 have single:dQ v=true→(∀cs,v≠.agg cs)→RA w ι x v→cellsOf x=[x]→v.cells.size=(cellsOf x).length∧
  ∀(i:Nat) y,(cellsOf x)[i]? =some y→dQ (v.cells.getD i undef)=true∧RA w ι y (v.cells.getD i undef):=by
  intro h1 h2 h3 h4
  have:v.cells= #[v]:=by cases v<;>first|rfl|exact absurd rfl (h2 _)
  rw[this,h4]
  refine⟨rfl,λi y hy=>?_⟩
  cases i with
  |zero=>simp at hy;subst hy;exact⟨by simpa using h1,by simpa using h3⟩
  |succ i=>simp at hy
 have h':=h
 cases h with
 |p hp=>
  rename_i x
  by_cases hx:∃l,x=.agg l
  ·obtain⟨l,rfl⟩:=hx
   obtain⟨cs,rfl,hl,bA,hr⟩:=Bm hp
   refine⟨by simp[Value.cells,cellsOf,hl],λi y hy=>?_⟩
   simp[cellsOf]at hy
   obtain⟨z,hz,rfl⟩:=hy
   exact⟨(hr i z hz).sE (bA i z hz),.p (hr i z hz)⟩
  ·have ho:x.one=true:=by cases x<;>first|rfl|exact absurd ⟨_,rfl⟩ hx
   refine single (hp.sE ho) (λcs hc=>?_) h' (by cases x<;>first|rfl|exact absurd ⟨_,rfl⟩ hx)
   subst hc
   have:=hp.sE ho
   simp[dQ,Value.oneCell']at this
 |aE v=>simp[vok]at aZ
 |ptr hb=>exact single rfl (by simp) h' rfl
 |sl hb hl aR hs=>exact single rfl (by simp) h' rfl
 |db aR=>exact single rfl (by simp) h' rfl
 |aF hb hl=>exact single rfl (by simp) h' rfl
 |i_=>exact single rfl (by simp) h' rfl
 |mpr hb=>exact single rfl (by simp) h' rfl
 |cd hb hl hs=>exact single rfl (by simp) h' rfl
 |iC=>exact single rfl (by simp) h' rfl
 |ip hb=>exact single rfl (by simp) h' rfl
 |agg hl bA h=>exact⟨by simp[Value.cells,cellsOf,hl],λi y hy=>⟨bA i y hy,h i y hy⟩⟩
 |aD hl h=>simp[vok]at aZ
 |fn h1 h2 h3 h4=>exact single rfl (by simp) h' rfl
 |bK h=>exact single rfl (by simp) h' rfl
theorem Bt(cells:Array Value)(vs:List Value)(off n:Nat)(i:Nat):
 ((vs.zipIdx n).foldl (λcs (c,j)=>cs.setIfInBounds (off+j) c) cells)[i]? =
   if off+n≤i∧i<off+n+vs.length∧i<cells.size then vs[i - (off+n)]? else cells[i]?:=by
 induction vs generalizing cells n with
 |nil=>simp;omega
 |cons v r ih=>
  simp only[List.zipIdx_cons,List.foldl_cons]
  rw[ih]
  simp only[Array.size_setIfInBounds,List.length_cons]
  by_cases h1:i=off+n
  ·subst h1
   by_cases h2:off+n<cells.size
   ·rw[aaR (by omega),aaS (by omega)]
    simp[h2]
   ·rw[aaR (by omega),aaR (by omega)]
    rw[ab7 (by simp;omega),ab7 (by omega)]
  ·have bg:(cells.setIfInBounds (off+n) v)[i]? =cells[i]?:=acg (abx h1)
   by_cases h2:off+(n+1)≤i∧i<off+(n+1)+r.length∧i<cells.size
   ·rw[aaS h2,aaS (by omega)]
    rw[show i - (off+n)=(i - (off+(n+1)))+1 by omega]
    simp
   ·rw[aaR h2,aaR (by omega),bg]
theorem Bu(cells:Array Value)(vs:List Value)(off n:Nat):
 ((vs.zipIdx n).foldl (λcs (c,j)=>cs.setIfInBounds (off+j) c) cells).size=cells.size:=by
 induction vs generalizing cells n with
 |nil=>rfl
 |cons v r ih=>simp only[List.zipIdx_cons,List.foldl_cons];rw[ih];simp
theorem sQ(cells:Array Value)(vs:Array Value)(off:Nat):
 vs.zipIdx.foldl (λcs (c,j)=>cs.setIfInBounds (off+j) c) cells=(vs.toList.zipIdx 0).foldl (λcs (c,j)=>cs.setIfInBounds (off+j) c) cells:=by
 rw[←Array.foldl_toList]
 simp[Array.toList_zipIdx]
def jv(w:World)(ι:az)(l:List AV)(cs:Array Value):Prop:=
 cs.size=l.length∧∀(i:Nat) x,l[i]? =some x→dQ (cs.getD i undef)=true∧RA w ι x (cs.getD i undef)
theorem jv.put{l:List AV}{cs:Array Value}(h:jv w ι l cs){xs:List AV}{vs:Array Value}(hv:jv w ι xs vs)(off:Nat)(ho:off+xs.length≤l.length):
 jv w ι (l.take off++xs++l.drop (off+xs.length)) (vs.zipIdx.foldl (λcs (c,j)=>cs.setIfInBounds (off+j) c) cs):=by
 obtain⟨h1,h2⟩:=h
 obtain⟨h3,h4⟩:=hv
 refine⟨?_,λi x hx=>?_⟩
 ·rw[sQ,Bu];simp;omega
 ·have hg:(vs.zipIdx.foldl (λcs (c,j)=>cs.setIfInBounds (off+j) c) cs).getD i undef=
   if off≤i∧i<off+xs.length then vs.getD (i - off) undef else cs.getD i undef:=by
   simp only[ach]
   rw[sQ,Bt]
   simp only[Nat.add_zero,Array.length_toList,h3]
   by_cases hc:off≤i∧i<off+xs.length
   ·rw[aaS hc,aaS ⟨hc.1,hc.2,by omega⟩];simp
   ·rw[aaR hc,aaR (λh=>hc ⟨h.1,h.2.1⟩)]
  rw[hg]
  by_cases hc:off≤i∧i<off+xs.length
  ·rw[aaS hc]
   apply h4
   rw[abv,abq (by simp;omega),abm (by simp;omega)]at hx
   simpa [aci (show off≤l.length by omega)]using hx
  ·rw[aaR hc]
   apply h2
   by_cases aq:i<off
   ·rw[abv,abm (by simp;omega),acy aq]at hx
    exact hx
   ·rw[abq (by simp;omega)]at hx
    simp only[aa7,abO,abJ]at hx
    rw[show off+xs.length+(i - (min off l.length+xs.length))=i by omega]at hx
    exact hx
theorem NZ{place:Nat→Option (Nat×Nat)}{parts:List (Nat×Operand)}{ps:List (Nat×Nat×aS)}(hp:cParts place parts=some ps)
 (gl:ga w ι.M) (tm:∀s,RA w ι (lk st.tmps s) (a.tmps.getD s undef)) {cells:List AV} {cs:Array Value} (hc:jv w ι cells cs) {out:List AV}
 (hf:fillA cells (evParts st ps)=some out):∃nj,Instr.fill place cs (parts.map λ(i,x)=>(i,a.eval x))=some nj∧jv w ι out nj:=by
 induction parts generalizing ps cells cs with
 |nil=>simp[cParts]at hp;subst hp;simp[evParts,fillA]at hf;subst hf;exact⟨cs,rfl,hc⟩
 |cons p r ih=>
  obtain⟨i,x⟩:=p
  unfold cParts at hp
  split at hp
  ·rename_i o s y l h1 h2 h3
   cases hp
   simp only[evParts,fillA]at hf
   cases hb:(vok (ev st y)&&Nat.beq (cellsOf (ev st y)).length s&&Nat.ble (o+s) cells.length)with
   |false=>rw[hb]at hf;cases hf
   |true=>
    rw[hb]at hf
    simp only[cond_true]at hf
    simp only[aa2]at hb
    obtain⟨⟨aZ,e1⟩,e2⟩:=hb
    have e1:=abt e1
    have e2:=abj e2
    have hx:=bt gl tm h2
    obtain⟨g1,g2⟩:=pL aZ hx
    have dB:jv w ι (cellsOf (ev st y)) (a.eval x).cells:=⟨g1,g2⟩
    have eX:=hc.put dB o (by rw[e1];exact e2)
    rw[e1]at eX
    obtain⟨nj,h4,h5⟩:=ih h3 eX hf
    refine⟨nj,?_,h5⟩
    simp only[aby,Instr.fill,h1]
    rw[aaR]
    ·exact h4
    ·have:=hc.1
     simp only[acz,abk,not_or]
     refine⟨by simp[g1,e1],by omega⟩
  ·cases hp
theorem qT{t:TypeId}{z:List PV}(h:zeroT P t=some z):∃i v,P.info? t=some i∧i.zero=some v∧jv w ι (z.map .p) v.cells∧
 (∀(i:Nat) x,z[i]? =some x→x.one=true∧RP w ι.M x (v.cells.getD i undef))∧v.cells.size=z.length:=by
 unfold zeroT at h
 split at h
 ·rename_i v hv
  obtain⟨i,hi,hz⟩:=acj.1 hv
  obtain⟨h1,h2⟩:=F6 (w:=w) (M:=ι.M) h
  have key:∀(i:Nat) x,z[i]? =some x→x.one=true∧RP w ι.M x (v.cells.getD i undef):=λi x hx=>by
   obtain⟨h3,u,hu,hr⟩:=h2 i x hx
   have:v.cells.getD i undef=u:=by
    simp only[ach]
    rw[←adg,hu];rfl
   rw[this]
   exact⟨h3,hr⟩
  refine⟨i,v,hi,hz,⟨by simp[h1],λi x hx=>?_⟩,key,by simp[h1]⟩
  simp at hx
  obtain⟨y,hy,rfl⟩:=hx
  obtain⟨h3,hr⟩:=key i y hy
  exact⟨hr.sE h3,.p hr⟩
 ·cases h
theorem oq{t:TypeId}{i:TypeInfo}{v:Value}(hi:P.info? t=some i)(hz:i.zero=some v)(w:World):(zeroValue t).run P w=.ok v w:=by
 simp[zeroValue,run_typeInfo hi,hz]
theorem N0(fs:Array Field)(hs:∀f∈fs,∃s,bI P f.type=some s)(w:World):
 (fs.mapM λ(f:Field)=>do pure (f.offset,←Go.sizeOf f.type)).run P w=.ok (fs.map λ(f:Field)=>(f.offset,(bI P f.type).getD 0)) w:=by
 have h:∀l:List Field,(∀f∈l,∃s,bI P f.type=some s)→(l.mapM λ(f:Field)=>do pure (f.offset,←Go.sizeOf f.type)).run P w=.ok (l.map λ(f:Field)=>(f.offset,(bI P f.type).getD 0)) w:=by
  intro l
  induction l with
  |nil=>intro _;rfl
  |cons f r ih=>
   intro hl
   obtain⟨s,h1⟩:=hl f (by simp)
   simp only[adj,Sem.run_bind,run_sizeOf h1,Result.andThen_ok,Sem.run_pure,ih λg hg=>hl g (by simp[hg])]
   simp[h1]
 rw[ad7]
 simp only[Sem.run_map]
 rw[h fs.toList λf hf=>hs f (by simpa using hf)]
 simp only[Result.andThen_ok]
 congr 1
 apply abF
 simp
theorem Bv(gl:ga w ι.M)(tm:∀s,RA w ι (lk st.tmps s) (a.tmps.getD s undef)){t:TypeId}{parts:Array (Nat×Operand)}{z:List PV}{ps:List (Nat×Nat×aS)}{k:AV→Prop}
 (hz:zeroT P t=some z)
 (hp:(∃fs,P.underlying t=some (.struct fs)∧fs.toList.all (λf=>(bI P f.type).isSome)=true∧cParts (λi=>(fs.map λf=>(f.offset,(bI P f.type).getD 0))[i]?) parts.toList=some ps)∨
  ∃n e s,P.underlying t=some (.array n e)∧bI P e=some s∧cParts (λi=>some (i*s,s)) parts.toList=some ps)
 (h:vbuild (fillA (z.map .p) (evParts st ps)) k):
 cU P w ι k (Instr.build t (parts.map λ(i,x)=>(i,a.eval x))):=by
 obtain⟨i,v,hi,sR,ja,_,_⟩:=qT (w:=w) (ι:=ι) hz
 unfold vbuild at h
 split at h
 ·rename_i l hl
  have go:∀place,cParts place parts.toList=some ps→∃nj,Instr.fill place v.cells ((parts.map λ(i,x)=>(i,a.eval x)).toList)=some nj∧jv w ι l nj:=λplace hp=>by
   have:=NZ hp gl tm ja hl
   simpa using this
  rcases hp with⟨fs,hu,cr,hp⟩|⟨n,e,s,hu,hs,hp⟩
  ·obtain⟨nj,h1,h2⟩:=go _ hp
   refine .mk h (x_ h2.1 (λi x hx=>(h2.2 i x hx).1) λi x hx=>(h2.2 i x hx).2) λw' _=>?_
   have hm:=N0 (P:=P) fs (λf hf=>by
    have:=abl.1 cr f (by simpa using hf)
    exact ad8.1 this) w'
   simp only[Instr.build,Sem.run_bind,oq hi sR,Result.andThen_ok,run_underlying hu,hm,h1,Sem.run_pure]
  ·obtain⟨nj,h1,h2⟩:=go _ hp
   refine .mk h (x_ h2.1 (λi x hx=>(h2.2 i x hx).1) λi x hx=>(h2.2 i x hx).2) λw' _=>?_
   simp only[Instr.build,Sem.run_bind,oq hi sR,Result.andThen_ok,run_underlying hu,run_sizeOf hs,h1,Sem.run_pure]
 ·exact h.elim
theorem Gj{x y:PV}(h:eqPV x y=true):x=y:=by
 cases x<;>cases y<;>simp[eqPV]at h
 ·rw[h.1,h.2]
 ·rw[h]
theorem Gk(arr:List PV):∀(ps j5:List (Nat×Nat×AV)) (cells:List AV),shiftP arr.length ps=some j5→fillA (arr.map AV.p++cells) ps=(fillA cells j5).map (arr.map AV.p++·)
 |[],j5,cells,h=>by cases h;rfl
 |(off,s,v)::r,j5,cells,h=>by
  unfold shiftP at h
  cases hb:Nat.ble arr.length off with
  |false=>rw[hb]at h;cases h
  |true=>
   rw[hb]at h
   have hb:=abj hb
   simp only[cond_true]at h
   split at h
   ·rename_i l hl
    cases h
    simp only[fillA]
    have e:Nat.ble (off+s) (arr.map AV.p++cells).length=Nat.ble (off - arr.length+s) cells.length:=by
     rw[abB]
     simp only[acx]
     simp;omega
    rw[e]
    cases hc:(vok v&&Nat.beq (cellsOf v).length s&&Nat.ble (off - arr.length+s) cells.length)with
    |false=>rfl
    |true=>
     simp only[cond_true]
     rw[←Gk arr r l _ hl]
     congr 1
     rw[adF,adh,ab6 (by simpa using hb),adi (by simp;omega),aa3]
     have:off+s - arr.length=off - arr.length+s:=by omega
     rw[this]
     simp
   ·cases h
theorem Gl{arr:List PV}{cells:List AV}{ps:List (Nat×Nat×AV)}{k:AV→Prop}(h:u6 arr cells (shiftP arr.length ps) k):vbuild (fillA (arr.map AV.p++cells) ps) k:=by
 unfold u6 at h
 split at h
 ·rename_i j5 hp
  split at h
  ·rename_i l hl
   rw[Gk arr ps j5 cells hp,hl]
   simp only[Option.map_some,vbuild]
   rw[Bp];exact h
  ·exact h.elim
 ·exact h.elim
theorem N1{n:Nat}{z0:PV}{z rest:List PV}(hn:n≤z.length)(cr:(z.take n).all (eqPV z0)=true)(pM:z.drop n=rest){ps:List (Nat×Nat×AV)}{k:AV→Prop}(h:vbuildx n z0 rest ps k):
 vbuild (fillA (z.map .p) ps) k:=by
 unfold vbuildx at h
 split at h
 ·rename_i s v r
  obtain⟨arr,pA,hc,⟨aZ,hl,hs,hle⟩,h⟩:=h
  subst hl
  have h:=Gl h
  have e:fillA (z.map AV.p) ((0,s,v)::r)=fillA (arr.map AV.p++(pA++(rest.drop pA.length).map AV.p)) r:=by
   simp only[fillA]
   have e1:(cellsOf v).length=s:=by rw[hc];simp;omega
   have hz:z.length=arr.length+rest.length:=by rw[←pM];simp;omega
   rw[aZ,e1]
   have e2:Nat.ble (0+s) (z.map AV.p).length=true:=by simp only[acx];simp;omega
   rw[e2]
   simp only[acF,Bool.and_self,cond_true,List.take_zero,List.nil_append,aaX]
   congr 1
   rw[hc,←pM,abV,←List.map_drop,hs]
   simp
  rw[e];exact h
 ·have hlen:(List.replicate n z0).length=n:=by simp
  have h2:u6 (List.replicate n z0) (rest.map .p) (shiftP (List.replicate n z0).length ps) k:=by rw[hlen];exact h
  have h3:=Gl h2
  have e1:List.replicate n z0=z.take n:=by
   symm
   rw[adG]
   exact⟨by simp;omega,λx hx=>(Gj (abl.1 cr x hx)).symm⟩
  rw[e1,←pM,←abo,ab_]at h3
  exact h3
theorem yb{k:IntKind}{A:Prop}(h:A):nb k k A:=by cases k<;>exact h
def valOf:PV→Value
 |.int k n=>.int k n
 |.b x=>.bool x
 |.str l=>.string ⟨⟨l⟩⟩
 |_=>undef
def j6:PV→Bool
 |.int _ _=>true
 |.b _=>true
 |.str _=>true
 |_=>false
theorem vi{M:Nat→Prop}{x:PV}{v:Value}(h:RP w M x v)(hp:j6 x=true):v=valOf x:=by
 cases h<;>first|rfl|(simp[j6]at hp)
theorem sS{ks:List CK}{xs ys:List PV}(h:plainCells ks xs ys):xs.length=ks.length∧ys.length=ks.length∧(∀x∈xs,j6 x=true)∧∀y∈ys,j6 y=true:=by
 induction ks generalizing xs ys with
 |nil=>cases xs<;>cases ys<;>simp_all [plainCells]
 |cons k ks ih=>
  cases k<;>cases xs with
  |nil=>simp[plainCells]at h
  |cons x r=>cases ys with
   |nil=>cases x<;>simp[plainCells]at h
   |cons y s=>
    cases x<;>cases y<;>simp only[plainCells]at h
    all_goals first
     |exact h.elim
     |(obtain⟨_,h⟩:=eC h;obtain⟨_,h⟩:=eC h;obtain⟨h1,h2,h3,h4⟩:=ih h;simp[h1,h2,j6];exact⟨h3,h4⟩)
     |(obtain⟨h1,h2,h3,h4⟩:=ih h;simp[h1,h2,j6];exact⟨h3,h4⟩)
theorem Gm{ks ls:List CK}{xs ys:List PV}(h:plainCells (ks++ls) xs ys):
 plainCells ks (xs.take ks.length) (ys.take ks.length)∧plainCells ls (xs.drop ks.length) (ys.drop ks.length):=by
 induction ks generalizing xs ys with
 |nil=>simpa [plainCells]using h
 |cons k ks ih=>
  cases k<;>cases xs with
  |nil=>simp[plainCells]at h
  |cons x r=>cases ys with
   |nil=>cases x<;>simp[plainCells]at h
   |cons y s=>
    cases x<;>cases y<;>simp only[List.cons_append,plainCells]at h
    all_goals first
     |exact h.elim
     |(obtain⟨e1,h⟩:=eC h;obtain⟨e2,h⟩:=eC h;obtain⟨h1,h2⟩:=ih h
       simp only[List.length_cons,List.take_succ_cons,List.drop_succ_cons,plainCells]
       exact⟨by subst e1;subst e2;exact yb (yb h1),h2⟩)
     |(obtain⟨h1,h2⟩:=ih h;exact⟨h1,h2⟩)
theorem N2{xs ys Gn Gp:List PV}(h:xs.length=ys.length):cellsEq (xs++Gn) (ys++Gp)=(cellsEq xs ys&&cellsEq Gn Gp):=by
 induction xs generalizing ys with
 |nil=>cases ys with
  |nil=>simp[cellsEq]
  |cons y s=>simp at h
 |cons x r ih=>cases ys with
  |nil=>simp at h
  |cons y s=>simp[cellsEq,ih (by simpa using h),ack]
theorem Gq(n:Nat){xs ys:List PV}(h:xs.length=ys.length):cellsEq xs ys=(cellsEq (xs.take n) (ys.take n)&&cellsEq (xs.drop n) (ys.drop n)):=by
 conv=>lhs;rw[←ab_ n xs,←ab_ n ys]
 exact N2 (by simp[h])
def dK(P:Program)(t:TypeId)(xs:List PV):Value:=
 match aggT P t with
 |some true=>.agg (xs.map valOf).toArray
 |_=>valOf (xs.headD (.b false))
theorem qU{t:TypeId}{n:Nat}{g:Bool}(hs:bI P t=some n)(hg:aggT P t=some g)(h1:g=false→n=1)(xs:List PV)(off:Nat)(ho:off+n≤xs.length)(w:World):
 (part t (xs.map valOf).toArray off).run P w=.ok (dK P t ((xs.drop off).take n)) w:=by
 cases g with
 |true=>
  simp only[part,Sem.run_bind,pH hg,Result.andThen_ok,abG,run_sizeOf hs,Sem.run_pure,dK,hg]
  congr 2
  apply abF
  simp[List.extract_eq_take_drop,adk,List.map_drop]
 |false=>
  have:=h1 rfl
  subst this
  have aq:off<xs.length:=by omega
  have hd:(xs.drop off).take 1=[xs[off]]:=by
   rw[adl aq];rfl
  simp[part,pH hg,aq,dK,hg,hd]
theorem qV{d:Nat}{t:TypeId}{ks:List CK}(h:plainK P d t=some ks):bI P t=some ks.length∧∃g,aggT P t=some g∧(g=false→ks.length=1):=by
 cases d with
 |zero=>simp[plainK]at h
 |succ d=>
  simp only[plainK]at h
  split at h
  ·split at h
   ·cases h;rename_i hu hs;exact⟨hs,false,by simp[aggT,hu],λ_=>rfl⟩
   ·cases h
  ·split at h
   ·cases h;rename_i hu hs;exact⟨hs,false,by simp[aggT,hu],λ_=>rfl⟩
   ·cases h
  ·split at h
   ·cases h;rename_i hu hs;exact⟨hs,false,by simp[aggT,hu],λ_=>rfl⟩
   ·cases h
  ·split at h
   ·split at h
    ·cases h;rename_i hu _ _ _ hs;exact⟨by rw[hs.2.2];simp,true,by simp[aggT,hu],by simp⟩
    ·cases h
   ·cases h
  ·split at h
   ·cases h
   ·split at h
    ·split at h
     ·cases h;rename_i hu _ _ _ hs;exact⟨hs,true,by simp[aggT,hu],by simp⟩
     ·cases h
    ·cases h
  ·cases h
def Bw(P:Program)(D:Nat)(t:TypeId)(ks:List CK):Prop:=
 ∀(xs ys:List PV),plainCells ks xs ys→∀w:World,(Op.equalIn D t (dK P t xs) (dK P t ys)).run P w=.ok (cellsEq xs ys) w
theorem Gr{D:Nat}{sz:TypeId→Option (List CK)}(hk:∀t ks,sz t=some ks→Bw P D t ks∧bI P t=some ks.length∧∃g,aggT P t=some g∧(g=false→ks.length=1))
 (xs ys:List PV):∀(fs:List Field) (off:Nat) (ks:List CK),plainF sz off fs=some ks→plainCells ks (xs.drop off) (ys.drop off)→∀w:World,
 (Op.eqFields D (xs.map valOf).toArray (ys.map valOf).toArray fs).run P w=.ok (cellsEq (xs.drop off) (ys.drop off)) w
 |[],off,ks,h,hp,w=>by
  simp[plainF]at h;subst h
  obtain⟨h1,h2,_⟩:=sS hp
  have e1:xs.drop off=[]:=abf (by simpa using h1)
  have e2:ys.drop off=[]:=abf (by simpa using h2)
  rw[e1,e2]
  simp[Op.eqFields,cellsEq]
 |f::r,off,ks,h,hp,w=>by
  simp only[plainF]at h
  split at h
  ·cases h
  ·rename_i hf
   split at h
   ·rename_i k1 dZ
    split at h
    ·cases h
    rename_i nn
    split at h
    ·rename_i ls vj
     cases h
     obtain⟨h1,h2,g,hg,iF⟩:=hk _ _ dZ
     obtain⟨l1,l2,_⟩:=sS hp
     obtain⟨p1,p2⟩:=Gm hp
     simp only[aa7,aca]at l1 l2
     have vk:f.offset=off:=by
      by_cases h0:f.offset=off
      ·exact h0
      ·exact absurd (.inr h0) hf
     have mj:f.name≠ "_" :=λh0=>hf (.inl h0)
     have ih:=Gr hk xs ys r (off+k1.length) ls vj (by rw[←abV,←abV];exact p2) w
     rw[←abV,←abV]at ih
     have ha:k1.length≤xs.length - off∧k1.length≤ys.length - off:=by omega
     have hb:off+k1.length≤xs.length∧off+k1.length≤ys.length:=by omega
     simp only[Op.eqFields,aaS mj,Sem.run_bind,vk,qU h2 hg iF xs off hb.1,qU h2 hg iF ys off hb.2,Result.andThen_ok,h1 _ _ p1]
     rw[Gq k1.length (by simp;omega:(xs.drop off).length=(ys.drop off).length)]
     cases hc:cellsEq ((xs.drop off).take k1.length) ((ys.drop off).take k1.length)with
     |false=>simp
     |true=>simpa using ih
    ·cases h
   ·cases h
theorem Gs{D:Nat}{e:TypeId}{k1:List CK}(h1:Bw P D e k1)(h2:bI P e=some k1.length){g:Bool}(hg:aggT P e=some g)(iF:g=false→k1.length=1)(hz:k1.length≠0)
 (xs ys:List PV):∀(m s:Nat),plainCells (List.replicate m k1).flatten (xs.drop (s*k1.length)) (ys.drop (s*k1.length))→∀w:World,
 (forIn (List.range' s m) ((none,()):Option Bool×PUnit) λi r=>do
  let a ←part e (xs.map valOf).toArray (i*k1.length)
  let b ←part e (ys.map valOf).toArray (i*k1.length)
  let r ←Op.equalIn D e a b
  if(!r)=true then pure (ForInStep.done ((some false,()):Option Bool×PUnit))else
   pure (ForInStep.yield (none,()))).run P w=.ok (if cellsEq (xs.drop (s*k1.length)) (ys.drop (s*k1.length))then(none,())else(some false,())) w
 |0,s,hp,w=>by
  obtain⟨l1,l2,_⟩:=sS hp
  have e1:xs.drop (s*k1.length)=[]:=abf (by simpa using l1)
  have e2:ys.drop (s*k1.length)=[]:=abf (by simpa using l2)
  rw[e1,e2]
  simp[cellsEq]
 |m+1,s,hp,w=>by
  rw[List.replicate_succ,List.flatten_cons]at hp
  obtain⟨l1,l2,_⟩:=sS hp
  obtain⟨p1,p2⟩:=Gm hp
  simp only[aa7,aca]at l1 l2
  have hs:(s+1)*k1.length=s*k1.length+k1.length:=by rw[aa6,abP]
  have ih:=Gs h1 h2 hg iF hz xs ys m (s+1) (by rw[hs,←abV,←abV];exact p2) w
  rw[hs,←abV,←abV]at ih
  simp only[acR,adH,Sem.run_bind]
  simp only[qU h2 hg iF xs (s*k1.length) (by omega),qU h2 hg iF ys (s*k1.length) (by omega),Result.andThen_ok,h1 _ _ p1]
  rw[Gq k1.length (by simp;omega:(xs.drop (s*k1.length)).length=(ys.drop (s*k1.length)).length)]
  cases hc:cellsEq ((xs.drop (s*k1.length)).take k1.length) ((ys.drop (s*k1.length)).take k1.length)with
  |false=>simp
  |true=>simpa using ih
theorem Gt(d:Nat):∀(t:TypeId) (ks:List CK),plainK P d t=some ks→∀(D:Nat),d≤D→Bw P D t ks:=by
 induction d with
 |zero=>intro t ks h;simp[plainK]at h
 |succ d ih=>
  intro t ks h D hD xs ys hp w
  obtain⟨D,rfl⟩:∃m,D=m+1:=⟨D - 1,by omega⟩
  obtain⟨hs,g,hg,iF⟩:=qV h
  obtain⟨cj,dI,vl,Gu⟩:=sS hp
  simp only[plainK]at h
  split at h
  case h_1 hu=>
   split at h
   ·cases h
    have hf:aggT P t=some false:=by simp[aggT,hu]
    obtain⟨x,rfl⟩:=acb.1 cj
    obtain⟨y,rfl⟩:=acb.1 dI
    cases x<;>cases y<;>simp only[plainCells]at hp
    simp[dK,hf,valOf,Op.equalIn,run_underlying hu,cellsEq,cellEq]
   ·cases h
  case h_2 k hu=>
   split at h
   ·cases h
    have hf:aggT P t=some false:=by simp[aggT,hu]
    obtain⟨x,rfl⟩:=acb.1 cj
    obtain⟨y,rfl⟩:=acb.1 dI
    cases x<;>cases y<;>simp only[plainCells]at hp
    obtain⟨e1,hp⟩:=eC hp
    obtain⟨e2,hp⟩:=eC hp
    subst e1;subst e2
    simp[dK,hf,valOf,Op.equalIn,run_underlying hu,cellsEq,cellEq]
   ·cases h
  case h_3 hu=>
   split at h
   ·cases h
    have hf:aggT P t=some false:=by simp[aggT,hu]
    obtain⟨x,rfl⟩:=acb.1 cj
    obtain⟨y,rfl⟩:=acb.1 dI
    cases x<;>cases y<;>simp only[plainCells]at hp
    simp[dK,hf,valOf,Op.equalIn,run_underlying hu,cellsEq,cellEq,beq_toListBytes]
   ·cases h
  case h_4 len e hu=>
   split at h
   ·rename_i k1 dZ
    split at h
    ·rename_i bM
     cases h
     have ht:aggT P t=some true:=by simp[aggT,hu]
     have N3:=ih e k1 dZ D (by omega)
     obtain⟨se,ge,dH,Bx⟩:=qV dZ
     have:=Gs N3 se dH Bx bM.1 xs ys len 0 (by simpa using hp) w
     simp only[acs,adI]at this
     simp only[dK,ht]
     simp only[Op.equalIn,Sem.run_bind,run_underlying hu,Result.andThen_ok,run_sizeOf se]
     rw[ad9]
     have By:([:len]:Std.Legacy.Range).size=len:=by simp[Std.Legacy.Range.size]
     rw[By]
     show((Sem.run P (forIn (List.range' 0 len 1) _ _) w).andThen _)=_
     rw[this]
     cases cellsEq xs ys<;>simp
    ·cases h
   ·cases h
  case h_5 fs hu=>
   split at h
   ·cases h
   ·rename_i aU
    split at h
    ·rename_i k1 dZ
     split at h
     ·cases h
      have ht:aggT P t=some true:=by simp[aggT,hu]
      have qW:P.fieldsOf t=fs:=by simp[Program.fieldsOf,hu]
      simp only[dK,ht]
      rw[run_equalIn_struct w D t _ _ (by rw[qW];exact hu) (by simpa using aU),qW]
      have:=Gr (P:=P) (D:=D) (sz:=plainK P d) (λt ks h=>⟨ih t ks h D (by omega),qV h⟩) xs ys fs.toList 0 ks dZ (by simpa using hp) w
      simpa using this
     ·cases h
    ·cases h
  case h_6=>cases h
end
def keyCells(ag:Bool)(x:PV):List PV:=
 match ag,x with
 |true,.agg l=>l
 |true,_=>[]
 |false,x=>[x]
theorem N4{a b:IntKind}(h:FQ a b=true):a=b:=by cases a<;>cases b<;>first|rfl|cases h
theorem N5{a c:CK}(h:ckEq a c=true):a=c:=by
 cases a<;>cases c<;>first|rfl|(simp[ckEq]at h)|skip
 rw[N4 h]
theorem yc:∀{a b:List CK},cksEq a b=true→a=b
 |[],[],_=>rfl
 |[],_::_,h=>by cases h
 |_::_,[],h=>by cases h
 |a::r,c::s,h=>by
  simp only[cksEq,aa2]at h
  rw[N5 h.1,yc h.2]
theorem Bz{a b:Bool}(h:qH a b=true):a=b:=by cases a<;>cases b<;>first|rfl|cases h
theorem N6{k:CK}{x:PV}(h:xL k x):j6 x=true:=by
 cases k<;>cases x<;>first|rfl|exact h.elim
theorem ot:∀{ks:List CK} {xs:List PV},cellsK ks xs→xs.length=ks.length∧∀x∈xs,j6 x=true
 |[],[],_=>by simp
 |[],_::_,h=>h.elim
 |_::_,[],h=>h.elim
 |k::ks,x::r,h=>by
  obtain⟨h1,h2⟩:=ot h.2
  refine⟨by simp[h1],λy hy=>?_⟩
  rcases abb.1 hy with rfl|hy
  ·exact N6 h.1
  ·exact h2 y hy
theorem Gv{a:IntKind}{A:Prop}(h:A):nb a a A:=by cases a<;>exact h
theorem BA:∀{ks:List CK} {xs ys:List PV},cellsK ks xs→cellsK ks ys→plainCells ks xs ys
 |[],[],[],_,_=>trivial
 |[],_::_,_,h,_=>h.elim
 |[],[],_::_,_,h=>h.elim
 |_::_,[],_,h,_=>h.elim
 |_::_,_::_,[],_,h=>h.elim
 |k::ks,x::r,y::s,h,g=>by
  have ih:=BA h.2 g.2
  have h1:=h.1
  have g1:=g.1
  cases k<;>cases x<;>first|exact h1.elim|skip
  all_goals cases y<;>first|exact g1.elim|skip
  ·obtain⟨rfl,_⟩:=eC h1
   obtain⟨rfl,_⟩:=eC g1
   exact Gv (Gv ih)
  ·exact ih
  ·exact ih
theorem ml{ag:Bool}{ks:List CK}{x:PV}(h:dR ag ks x):cellsK ks (keyCells ag x):=by
 cases ag
 ·exact h
 ·cases x<;>first|exact h|exact h.elim
theorem Gw{ag:Bool}{ks:List CK}{x y:PV}(hx:dR ag ks x)(hy:dR ag ks y):keyEq x y=cellsEq (keyCells ag x) (keyCells ag y):=by
 cases ag
 ·have h1:=ot hx
  have:j6 x=true:=h1.2 x (by simp)
  cases x<;>first|(simp[j6]at this;done)|simp[keyEq,cellsEq,keyCells]
 ·cases x<;>cases y<;>first|exact hx.elim|exact hy.elim|rfl
theorem jL{P:Program}{w:World}{r:Nat}{es:Array MapEntry}{clock:Nat}(hb:w.heap[r]? =some (.map es clock)):(getObj r).run P w=.ok (.map es clock) w:=by
 simp[getObj,Sem.run,hb]
theorem qX{P:Program}{w:World}{r:Nat}{es:Array MapEntry}{clock:Nat}(o:Obj)(hb:w.heap[r]? =some (.map es clock)):(setObj r o).run P w=.ok () {w with heap:=w.heap.setIfInBounds r o}:=by
 simp[setObj,Sem.run,hb]
theorem lI{w:World}{ι:az}{x:PV}{v:Value}(h:RA w ι (.p x) v):RP w ι.M x v:=by
 cases h;assumption
section
variable {P:Program} {w:World} {M:Nat→Prop}
theorem nq{t:TypeId}{ag:Bool}{ks:List CK}(h:keyK P t=some (ag,ks)):plainK P 20 t=some ks∧aggT P t=some ag∧(ag=false→ks.length=1):=by
 unfold keyK at h
 split at h
 ·rename_i h1 h2
  cases h
  obtain⟨_,g,hg,h3⟩:=qV h1
  rw[h2]at hg;cases hg
  exact⟨h1,h2,h3⟩
 ·cases h
theorem BB{M:Nat→Prop}{cells:List PV}{v:Value}(h:RP w M (.agg cells) v)(hp:∀x∈cells,j6 x=true):v=.agg (cells.map valOf).toArray:=by
 obtain⟨cs,rfl,hl,bA,hr⟩:=Bm h
 congr 1
 apply abF
 apply abw
 intro i
 by_cases hi:i<cells.length
 ·have h1:=vi (hr i cells[i] (aaU hi)) (hp _ (abN hi))
  have bp:i<cs.size:=by omega
  simp[hi,bp]at h1 ⊢
  exact h1
 ·simp[hi,aa4,hl]
theorem nr{t:TypeId}{ag:Bool}{ks:List CK}(hk:keyK P t=some (ag,ks)){x:PV}{v:Value}(h:dR ag ks x)(hr:RP w M x v):v=dK P t (keyCells ag x):=by
 obtain⟨h1,h2,h3⟩:=nq hk
 obtain⟨_,hp⟩:=ot (ml h)
 unfold dK
 rw[h2]
 cases ag
 ·have:=hp x (by simp[keyCells])
  simpa [keyCells]using vi hr this
 ·cases x<;>first|exact h.elim|skip
  exact BB hr hp
theorem BC:∀{ks ls:List CK} {xs:List PV},cellsK (ks++ls) xs→cellsK ks (xs.take ks.length)∧cellsK ls (xs.drop ks.length)
 |[],ls,xs,h=>⟨by simp[cellsK],by simpa using h⟩
 |k::ks,ls,[],h=>h.elim
 |k::ks,ls,x::r,h=>by
  obtain⟨h1,h2⟩:=BC h.2
  exact⟨⟨h.1,h1⟩,h2⟩
def BD(P:Program)(D:Nat)(t:TypeId)(ks:List CK):Prop:=
 ∀(e:Bool) (xs:List PV),cellsK ks xs→∀w:World,(Instr.checkKey e D t (dK P t xs)).run P w=.ok () w
theorem Gx{D:Nat}{e:TypeId}{k1:List CK}(h1:BD P D e k1)(h2:bI P e=some k1.length){g:Bool}(hg:aggT P e=some g)(iF:g=false→k1.length=1)(em:Bool)
 (xs:List PV):∀(m s:Nat),cellsK (List.replicate m k1).flatten (xs.drop (s*k1.length))→∀w:World,
 (forIn (List.range' s m) PUnit.unit λi _=>do
  let n ←Go.sizeOf e
  let a ←part e (xs.map valOf).toArray (i*n)
  Instr.checkKey em D e a
  pure (ForInStep.yield PUnit.unit)).run P w=.ok PUnit.unit w
 |0,s,hp,w=>by simp
 |m+1,s,hp,w=>by
  rw[List.replicate_succ,List.flatten_cons]at hp
  obtain⟨p1,p2⟩:=BC hp
  obtain⟨l1,_⟩:=ot hp
  simp only[aa7,aca]at l1
  have hs:(s+1)*k1.length=s*k1.length+k1.length:=by rw[aa6,abP]
  have ih:=Gx h1 h2 hg iF em xs m (s+1) (by rw[hs,←abV];exact p2) w
  simp only[acR,adH,Sem.run_bind,run_sizeOf h2,Result.andThen_ok]
  have hle:k1.length≤xs.length - s*k1.length:=by omega
  by_cases hz:k1.length=0
  ·have e0:k1=[]:=abf hz
   have sU:s*k1.length+k1.length≤xs.length:=by simp[e0]
   simp only[qU h2 hg iF xs (s*k1.length) sU,Result.andThen_ok,h1 em _ p1,Sem.run_pure]
   exact ih
  ·have sU:s*k1.length+k1.length≤xs.length:=by omega
   simp only[qU h2 hg iF xs (s*k1.length) sU,Result.andThen_ok,h1 em _ p1,Sem.run_pure]
   exact ih
theorem Gy{D:Nat}{sz:TypeId→Option (List CK)}(hk:∀t ks,sz t=some ks→BD P D t ks∧bI P t=some ks.length∧∃g,aggT P t=some g∧(g=false→ks.length=1))(em:Bool)
 (xs:List PV):∀(fs:List Field) (off:Nat) (ks:List CK),plainF sz off fs=some ks→cellsK ks (xs.drop off)→∀w:World,
 (forIn fs PUnit.unit λ(f:Field) _=>(do
  if f.name≠ "_" then do
   let a ←part f.type (xs.map valOf).toArray f.offset
   Instr.checkKey em D f.type a
   pure (ForInStep.yield PUnit.unit)
  else pure (ForInStep.yield PUnit.unit):Sem (ForInStep PUnit))).run P w=.ok PUnit.unit w
 |[],off,ks,h,hp,w=>by simp
 |f::r,off,ks,h,hp,w=>by
  simp only[plainF]at h
  split at h
  ·cases h
  ·rename_i hf
   split at h
   ·rename_i k1 dZ
    split at h
    ·cases h
    rename_i nn
    split at h
    ·rename_i ls vj
     cases h
     obtain⟨h1,h2,g,hg,iF⟩:=hk _ _ dZ
     obtain⟨l1,_⟩:=ot hp
     obtain⟨p1,p2⟩:=BC hp
     simp only[aa7,aca]at l1
     have vk:f.offset=off:=by
      by_cases h0:f.offset=off
      ·exact h0
      ·exact absurd (.inr h0) hf
     have mj:f.name≠ "_" :=λh0=>hf (.inl h0)
     have ih:=Gy hk em xs r (off+k1.length) ls vj (by rw[←abV];exact p2) w
     have hb:off+k1.length≤xs.length:=by omega
     simp only[adH,Sem.run_bind,aaS mj,vk,qU h2 hg iF xs off hb,Result.andThen_ok,h1 em _ p1,Sem.run_pure]
     exact ih
    ·cases h
   ·cases h
theorem vm(d:Nat):∀(t:TypeId) (ks:List CK),plainK P d t=some ks→∀(D:Nat),d≤D→BD P D t ks:=by
 induction d with
 |zero=>intro t ks h;simp[plainK]at h
 |succ d ih=>
  intro t ks h D hD em xs hp w
  obtain⟨D,rfl⟩:∃m,D=m+1:=⟨D - 1,by omega⟩
  obtain⟨hs,g,hg,iF⟩:=qV h
  obtain⟨cj,vl⟩:=ot hp
  simp only[plainK]at h
  split at h
  case h_1 hu=>simp[Instr.checkKey,run_underlying hu]
  case h_2 k hu=>simp[Instr.checkKey,run_underlying hu]
  case h_3 hu=>simp[Instr.checkKey,run_underlying hu]
  case h_4 len e hu=>
   split at h
   ·rename_i k1 dZ
    split at h
    ·rename_i bM
     cases h
     have ht:aggT P t=some true:=by simp[aggT,hu]
     obtain⟨se,ge,dH,Bx⟩:=qV dZ
     have:=Gx (ih e k1 dZ D (by omega)) se dH Bx em xs len 0 (by simpa using hp) w
     simp only[dK,ht]
     simp only[Instr.checkKey,Sem.run_bind,run_underlying hu,Result.andThen_ok]
     rw[ad9]
     have By:([:len]:Std.Legacy.Range).size=len:=by simp[Std.Legacy.Range.size]
     rw[By]
     show((Sem.run P (forIn (List.range' 0 len 1) _ _) w).andThen _)=_
     rw[this]
     rfl
    ·cases h
   ·cases h
  case h_5 fs hu=>
   split at h
   ·cases h
   ·rename_i aU
    split at h
    ·rename_i k1 dZ
     split at h
     ·cases h
      have ht:aggT P t=some true:=by simp[aggT,hu]
      simp only[dK,ht]
      simp only[Instr.checkKey,Sem.run_bind,run_underlying hu,Result.andThen_ok]
      rw[←Array.forIn_toList]
      have:=Gy (P:=P) (D:=D) (sz:=plainK P d) (λt ks h=>⟨ih t ks h D (by omega),qV h⟩) em xs fs.toList 0 ks dZ (by simpa using hp) w
      rw[this]
      rfl
     ·cases h
    ·cases h
  case h_6=>cases h
def pN(P:Program)(t:TypeId)(ag:Bool)(ks:List CK)(ents:List (PV×PV))(fP:List MapEntry):Prop:=
 fP.length=ents.length∧∀(i:Nat) k v,ents[i]? =some (k,v)→dR ag ks k∧∃e,fP[i]? =some e∧e.key=dK P t (keyCells ag k)
theorem pN.tail{t:TypeId}{ag:Bool}{ks:List CK}{x:PV×PV}{r:List (PV×PV)}{e:MapEntry}{s:List MapEntry}(h:pN P t ag ks (x::r) (e::s)):pN P t ag ks r s:=
 ⟨by simpa using h.1,λi k v hi=>by simpa using h.2 (i+1) k v (by simpa using hi)⟩
def Found(ents:List (PV×PV))(fP:List MapEntry)(i0:Nat):Option (Nat×PV)→Option (Nat×Value)→Prop
 |none,r=>r=none
 |some (i,v),r=>∃j e kk,i=i0+j∧fP[j]? =some e∧ents[j]? =some (kk,v)∧r=some (i,e.val)
theorem Found.tail{x:PV×PV}{r:List (PV×PV)}{e:MapEntry}{s:List MapEntry}{i0:Nat}{o:Option (Nat×PV)}{q:Option (Nat×Value)}(h:Found r s (i0+1) o q):Found (x::r) (e::s) i0 o q:=by
 cases o with
 |none=>exact h
 |some iv=>
  obtain⟨i,v⟩:=iv
  obtain⟨j,e',kk,h1,h2,h3,h4⟩:=h
  exact⟨j+1,e',kk,by omega,by simpa using h2,by simpa using h3,h4⟩
theorem Gz{t:TypeId}{ag:Bool}{ks:List CK}(hk:keyK P t=some (ag,ks)){x:PV}(hx:dR ag ks x):∀(ents:List (PV×PV)) (fP:List MapEntry) (i0:Nat),pN P t ag ks ents fP→
 ∃q,Found ents fP i0 (mfind ents x i0) q∧∀w:World,(Instr.findAsking t (dK P t (keyCells ag x)) fP i0).run P w=.ok q w
 |[],fP,i0,h=>by
  have:fP=[]:=abf h.1
  subst this
  exact⟨none,rfl,λw=>by simp[Instr.findAsking]⟩
 |(k,v)::r,[],i0,h=>by cases h.1
 |(k,v)::r,e::s,i0,h=>by
  obtain⟨q,hq,aT⟩:=Gz hk hx r s (i0+1) h.tail
  obtain⟨lH,e',ou,cE⟩:=h.2 0 k v rfl
  simp at ou;subst ou
  obtain⟨h1,h2,h3⟩:=nq hk
  have heq:=Gt 20 t ks h1 10000 (by omega) _ _ (BA (ml hx) (ml lH))
  rw[←Gw hx lH]at heq
  have GA:∀w:World,(Op.equal t (dK P t (keyCells ag x)) e.key).run P w=.ok (keyEq x k) w:=λw=>by rw[cE];exact heq w
  cases hc:keyEq x k with
  |true=>
   refine⟨some (i0,e.val),?_,λw=>by simp[Instr.findAsking,GA,hc]⟩
   simp only[mfind,hc,cond_true]
   exact⟨0,e,k,rfl,rfl,rfl,rfl⟩
  |false=>
   refine⟨q,?_,λw=>by simp[Instr.findAsking,GA,hc,aT]⟩
   simp only[mfind,hc,cond_false]
   exact hq.tail
theorem N7{t:TypeId}{ag:Bool}{ks:List CK}(hk:keyK P t=some (ag,ks)){d:TypeDesc}(hu:P.underlying t=some d){x y:PV}(hx:dR ag ks x)(hy:dR ag ks y):
 Instr.sameNow d (dK P t (keyCells ag x)) (dK P t (keyCells ag y))=none∨Instr.sameNow d (dK P t (keyCells ag x)) (dK P t (keyCells ag y))=some (keyEq x y):=by
 obtain⟨h1,h2,h3⟩:=nq hk
 cases ag with
 |true=>
  left
  unfold dK
  rw[h2]
  simp only[keyCells]
  cases x<;>first|exact hx.elim|skip
  cases d<;>rfl
 |false=>
  unfold dK
  rw[h2]
  simp only[keyCells,List.headD_cons]
  obtain⟨_,px⟩:=ot hx
  obtain⟨_,py⟩:=ot hy
  have px:=px x (by simp)
  have py:=py y (by simp)
  have N8:=BA hx hy
  cases x<;>first|(simp[j6]at px;done)|skip
  all_goals cases y<;>first|(simp[j6]at py;done)|skip
  all_goals cases d<;>first|(left;rfl)|skip
  ·have ff:∀{k1 k2:IntKind} {n1 n2:Int},dR false ks (.int k1 n1)→dR false ks (.int k2 n2)→k1=k2:=by
    intro k1 k2 n1 n2 hx hy
    cases ks with
    |nil=>exact hx.elim
    |cons c r=>
     cases c<;>first|exact hx.1.elim|skip
     obtain⟨e1,_⟩:=eC hx.1
     obtain⟨e2,_⟩:=eC hy.1
     rw[←e1,←e2]
   have:=ff hx hy
   subst this
   right
   simp[Instr.sameNow,valOf,keyEq,cellEq]
  ·right;rfl
  ·right
   simp only[Instr.sameNow,valOf,keyEq,cellEq]
   congr 1
   rw[beq_toListBytes]
   simp
theorem GB{t:TypeId}{ag:Bool}{ks:List CK}(hk:keyK P t=some (ag,ks)){d:TypeDesc}(hu:P.underlying t=some d){x:PV}(hx:dR ag ks x):∀(ents:List (PV×PV)) (fP:List MapEntry) (i0:Nat),pN P t ag ks ents fP→
 Instr.findNow d (dK P t (keyCells ag x)) fP i0=none∨∃q,Found ents fP i0 (mfind ents x i0) q∧Instr.findNow d (dK P t (keyCells ag x)) fP i0=some q
 |[],fP,i0,h=>by
  have:fP=[]:=abf h.1
  subst this
  exact .inr ⟨none,rfl,rfl⟩
 |(k,v)::r,[],i0,h=>by cases h.1
 |(k,v)::r,e::s,i0,h=>by
  obtain⟨lH,e',ou,cE⟩:=h.2 0 k v rfl
  simp at ou;subst ou
  rcases N7 hk hu hx lH with hn|hn
  ·rw[←cE]at hn
   left;simp only[Instr.findNow,hn]
  ·rw[←cE]at hn
   cases hc:keyEq x k with
   |true=>
    right
    refine⟨some (i0,e.val),?_,by simp only[Instr.findNow,hn,hc]⟩
    simp only[mfind,hc,cond_true]
    exact⟨0,e,k,rfl,rfl,rfl,rfl⟩
   |false=>
    rcases GB hk hu hx r s (i0+1) h.tail with h1|⟨q,hq,h1⟩
    ·left;simp only[Instr.findNow,hn,hc,h1]
    ·right
     refine⟨q,?_,by simp only[Instr.findNow,hn,hc,h1]⟩
     simp only[mfind,hc,cond_false]
     exact hq.tail
theorem N9{d:Nat}{t:TypeId}{ks:List CK}(h:plainK P d t=some ks):∃k,P.underlying t=some k:=by
 cases d with
 |zero=>simp[plainK]at h
 |succ d=>
  simp only[plainK]at h
  split at h<;>first|exact⟨_,by assumption⟩|cases h
theorem vn{t:TypeId}{ag:Bool}{ks:List CK}(hk:keyK P t=some (ag,ks)){x:PV}(hx:dR ag ks x){ents:List (PV×PV)}{fP:List MapEntry}(h:pN P t ag ks ents fP):
 ∃q,Found ents fP 0 (mfind ents x 0) q∧∀w:World,(Instr.findKey t (dK P t (keyCells ag x)) fP).run P w=.ok q w:=by
 obtain⟨d,hu⟩:=N9 (nq hk).1
 rcases GB hk hu hx ents fP 0 h with h1|⟨q,hq,h1⟩
 ·obtain⟨q,hq,aT⟩:=Gz hk hx ents fP 0 h
  exact⟨q,hq,λw=>by simp[Instr.findKey,run_underlying hu,h1,aT]⟩
 ·exact⟨q,hq,λw=>by simp[Instr.findKey,run_underlying hu,h1]⟩
theorem om.ents{ι:az}{t:TypeId}{ag:Bool}{ks:List CK}(hk:keyK P t=some (ag,ks)){ents:List (PV×PV)}{es:Array MapEntry}(h2:es.size=ents.length)
 (h3:∀(i:Nat) k v,ents[i]? =some (k,v)→dR ag ks k∧∃e,es[i]? =some e∧e.born=i∧RP w ι.M k e.key∧RP w ι.M v e.val):pN P t ag ks ents es.toList:=by
 refine⟨by simpa using h2,λi k v hi=>?_⟩
 obtain⟨g0,e,g1,g2,g3,g4⟩:=h3 i k v hi
 exact⟨g0,e,by simpa using g1,nr hk g0 g3⟩
theorem yd{t:TypeId}{z:PV}(h:zeroV P t=some z):∃v,RP w M z v∧∀w':World,(zeroValue t).run P w'=.ok v w':=by
 unfold zeroV at h
 obtain⟨v,h1,h2⟩:=acj.1 h
 obtain⟨i,hi,hz⟩:=acj.1 h1
 exact⟨v,F7 h2,λw'=>by simp[zeroValue,run_typeInfo hi,hz]⟩
theorem N_{h:List Blk}{m:AV}{ag:Bool}{ks:List CK}{k:Nat→List (PV×PV)→Prop}(hv:vmap h m ag ks k):∃b ents,m=.mpr b∧nth .dead h b=.mp ag ks ents∧k b ents:=by
 unfold vmap at hv
 split at hv
 ·rename_i b
  split at hv
  ·rename_i l9 l_ ents hn
   cases hb:(qH ag l9&&cksEq ks l_)with
   |false=>rw[hb]at hv;exact hv.elim
   |true=>
    rw[hb]at hv
    simp only[aa2]at hb
    rw[←Bz hb.1,←yc hb.2]at hn
    exact⟨b,ents,rfl,hn,hv⟩
  ·exact hv.elim
 ·exact hv.elim
theorem GC{h:List Blk}{m:AV}{ag:Bool}{ks:List CK}{k1:Nat→List (PV×PV)→Prop}{k2:Nat→Nat→List (PV×List (List PV))→Option Nat→Prop}(hv:vmapn h m ag ks k1 k2):
 (∃b ents,m=.mpr b∧nth .dead h b=.mp ag ks ents∧k1 b ents)∨∃b wd ents op,m=.mpr b∧nth .dead h b=.bF ag ks wd ents op∧k2 b wd ents op:=by
 unfold vmapn at hv
 split at hv
 ·rename_i b
  split at hv
  ·rename_i l9 l_ ents hn
   cases hb:(qH ag l9&&cksEq ks l_)with
   |false=>rw[hb]at hv;exact hv.elim
   |true=>
    rw[hb]at hv
    simp only[aa2]at hb
    rw[←Bz hb.1,←yc hb.2]at hn
    exact .inl ⟨b,ents,rfl,hn,hv⟩
  ·rename_i l9 l_ wd ents op hn
   cases hb:(qH ag l9&&cksEq ks l_)with
   |false=>rw[hb]at hv;exact hv.elim
   |true=>
    rw[hb]at hv
    simp only[aa2]at hb
    rw[←Bz hb.1,←yc hb.2]at hn
    exact .inr ⟨b,wd,ents,op,rfl,hn,hv⟩
  ·exact hv.elim
 ·exact hv.elim
def qY(wd:Nat)(ents:List (PV×List (List PV))):List (PV×PV):=ents.map λe=>(e.1,.aw wd e.2 none)
theorem BE(wd:Nat)(x:PV):∀(ents:List (PV×List (List PV))) (i:Nat),mfind (qY wd ents) x i=(mfindN ents x i).map λq=>(q.1,.aw wd q.2 none)
 |[],_=>rfl
 |(k,v)::r,i=>by
  have ih:=BE wd x r (i+1)
  unfold qY at ih ⊢
  simp only[aby,mfind,mfindN]
  cases keyEq x k
  ·simpa using ih
  ·rfl
theorem Oa(wd:Nat)(ents:List (PV×List (List PV))):(qY wd ents).length=ents.length:=by simp[qY]
theorem GD{M:Nat→Prop}{wd:Nat}{t:TypeId}{ag:Bool}{ks:List CK}(hk:keyK P t=some (ag,ks)){ents:List (PV×List (List PV))}{es:Array MapEntry}(h2:es.size=ents.length)
 (h3:∀(i:Nat) k rows,ents[i]? =some (k,rows)→dR ag ks k∧∃e,es[i]? =some e∧e.born=i∧RP w M k e.key):pN P t ag ks (qY wd ents) es.toList:=by
 refine⟨by rw[Oa];simpa using h2,λi k v hi=>?_⟩
 simp only[qY,aaY]at hi
 obtain⟨⟨k',rows⟩,bp,e⟩:=aa0.1 hi
 cases e
 obtain⟨g0,e,g1,g2,g3⟩:=h3 i _ rows bp
 exact⟨g0,e,by simpa using g1,nr hk g0 g3⟩
theorem vo{x:AV}{k:PV→Prop}(h:qI x k):∃y,x=.p y∧k y:=by
 unfold qI at h
 split at h
 ·exact⟨_,rfl,h⟩
 ·exact h.elim
theorem sV{ι:az}{h:List Blk}(hr:bL ι h w){b:Nat}{v:Value}{ag:Bool}{ks:List CK}{ents:List (PV×PV)}(hv:RA w ι (.mpr b) v)(hn:nth .dead h b=.mp ag ks ents):
 ∃c o s,v=.map (some c)∧ι b=some (c,o,s)∧om w ι c ag ks ents:=by
 cases hv
 rename_i c o s hb
 have:=hr.blk b
 rw[hn,hb]at this
 obtain⟨c',o',s',he,hm⟩:=this
 cases he
 exact⟨c,o,s,rfl,hb,hm⟩
theorem GF{ι:az}{h:List Blk}(hr:bL ι h w){b wd:Nat}{op:Option Nat}{v:Value}{ag:Bool}{ks:List CK}{ents:List (PV×List (List PV))}(hv:RA w ι (.mpr b) v)(hn:nth .dead h b=.bF ag ks wd ents op):
 ∃c o s,v=.map (some c)∧ι b=some (c,o,s)∧∃es,w.heap[c]? =some (.map es ents.length)∧es.size=ents.length∧
  ∀(i:Nat) k rows,ents[i]? =some (k,rows)→dR ag ks k∧∃e,es[i]? =some e∧e.born=i∧RP w ι.M k e.key:=by
 cases hv
 rename_i c o s hb
 have:=hr.blk b
 rw[hn,hb]at this
 obtain⟨c',o',s',he,hm⟩:=this
 cases he
 exact⟨c,o,s,rfl,hb,hm⟩
theorem Ob{ι:az}{h:List Blk}(hr:bL ι h w){m x:AV}{mv xv:Value}(hm:RA w ι m mv)(hx:RA w ι x xv){t kt et:TypeId}(hu:P.underlying t=some (.map kt et)){ag:Bool}{ks:List CK}(hk:keyK P kt=some (ag,ks))
 {z:PV} (hz:zeroV P et=some z) {ok:Bool} {k:AV→Prop} (hv:A6 h ag ks z ok m x k):cU P w ι k (Instr.lookup t mv xv ok):=by
 obtain⟨y,rfl,cE,hv⟩:=vo hv
 rcases GC hv with⟨b,ents,rfl,hn,o,ho,ff⟩|⟨b,wd,ents,op,rfl,hn,o,ho,ff⟩
 rotate_left
 ·obtain⟨c,of,s,rfl,hb,es,h1,h2,h3⟩:=GF hr hm hn
  have eL:=nr hk cE (lI hx)
  obtain⟨q,hq,aT⟩:=vn hk cE (GD (wd:=wd) hk h2 h3)
  obtain⟨zv,kN,ov⟩:=yd (w:=w) (M:=ι.M) hz
  have j7:=vm 20 kt ks (nq hk).1 10000 (by omega) es.isEmpty _ (ml cE)
  rw[BE,ho]at hq
  have main:∀(rv:Value) (av:AV) (f:Bool),k (mb ok av f)→RA w ι av rv→
   (∀w':World,Ext w w'→(Instr.lookup t (.map (some c)) xv ok).run P w'=.ok (if ok then .tuple #[rv,.bool f]else rv) w')→cU P w ι k (Instr.lookup t (.map (some c)) xv ok):=by
   intro rv av f ff dv bG
   have dC:RA w ι (mb ok av f) (if ok then .tuple #[rv,.bool f]else rv):=by
    cases ok with
    |true=>
     refine .aD rfl λi x hi=>?_
     cases i with
     |zero=>simp at hi;subst hi;exact dv
     |succ i=>cases i with
      |zero=>simp at hi;subst hi;exact .p (.b _)
      |succ i=>simp at hi
    |false=>exact dv
   exact .mk ff dC bG
  cases o with
  |none=>
   have hq:q=none:=hq
   subst hq
   refine main zv (.p z) false ff (.p kN) λw' jw=>?_
   have gi:=jL (P:=P) (jw _ _ h1)
   simp only[Instr.lookup,Sem.run_bind,run_underlying hu,Result.andThen_ok,gi,Sem.run_pure,eL,j7,aT,ov]
  |some iv=>
   obtain⟨i,rows⟩:=iv
   obtain⟨j,e,kk,e1,e2,e3,rfl⟩:=hq
   have hj:j=i:=by simpa using e1.symm
   subst hj
   obtain⟨e4,ff⟩:=ff
   subst e4
   simp only[qY,aaY]at e3
   obtain⟨⟨k',rows'⟩,e3,e5⟩:=aa0.1 e3
   cases e5
   have h5:=hr.hid b j
   unfold HB at h5
   have a_:(nth .dead h b).inner j=some (wd,rows',true):=by rw[hn];simp only[Blk.inner];rw[‹ents[j]? =some (k',rows')›];rfl
   rw[a_]at h5
   obtain⟨v',p1,p2⟩:=h5.2 rfl
   rw[hn,hb]at p1
   obtain⟨c2,o2,s2,BF,e',e6,p1,p3,p4⟩:=p1
   cases e6
   rw[h1]at p1;cases p1
   have Oc:es[j]? =some e:=by simpa using e2
   rw[Oc]at p3;cases p3
   subst p4
   have dC:RA w ι (.cd b wd j rows'.length) e.val:=by
    rcases p2 with⟨c',o',s',cc,q1,q2,ql,qs⟩|⟨q1,oa,q2⟩
    ·rw[q2];exact .cd q1 ql qs
    ·rw[q1,q2];exact .iC
   refine main e.val _ true ff dC λw' jw=>?_
   have gi:=jL (P:=P) (jw _ _ h1)
   simp only[Instr.lookup,Sem.run_bind,run_underlying hu,Result.andThen_ok,gi,Sem.run_pure,eL,j7,aT]
 obtain⟨c,of,s,rfl,hb,es,h1,h2,h3⟩:=sV hr hm hn
 have eL:=nr hk cE (lI hx)
 obtain⟨q,hq,aT⟩:=vn hk cE (om.ents hk h2 h3)
 obtain⟨zv,kN,ov⟩:=yd (w:=w) (M:=ι.M) hz
 have j7:=vm 20 kt ks (nq hk).1 10000 (by omega) es.isEmpty _ (ml cE)
 rw[ho]at hq
 have main:∀(rv:Value) (av:PV) (f:Bool),(A5 z o=av∧FR o=f)→RP w ι.M av rv→
  (∀w':World,Ext w w'→(Instr.lookup t (.map (some c)) xv ok).run P w'=.ok (if ok then .tuple #[rv,.bool f]else rv) w')→cU P w ι k (Instr.lookup t (.map (some c)) xv ok):=by
  intro rv av f ⟨e1,e2⟩ dv bG
  have dC:RA w ι (xM z ok o) (if ok then .tuple #[rv,.bool f]else rv):=by
   cases ok with
   |true=>
    simp only[xM,e1,e2]
    refine .aD rfl λi x hi=>?_
    cases i with
    |zero=>simp at hi;subst hi;exact .p dv
    |succ i=>cases i with
     |zero=>simp at hi;subst hi;exact .p (.b _)
     |succ i=>simp at hi
   |false=>simp only[xM,e1];exact .p dv
  exact .mk ff dC bG
 cases o with
 |none=>
  have hq:q=none:=hq
  subst hq
  refine main zv z false ⟨rfl,rfl⟩ kN λw' jw=>?_
  have gi:=jL (P:=P) (jw _ _ h1)
  simp only[Instr.lookup,Sem.run_bind,run_underlying hu,Result.andThen_ok,gi,Sem.run_pure,eL,j7,aT,ov]
 |some iv=>
  obtain⟨i,v⟩:=iv
  obtain⟨j,e,kk,e1,e2,e3,rfl⟩:=hq
  obtain⟨_,e',g1,_,_,g4⟩:=h3 j kk v e3
  have:e'=e:=by have h5:es[j]? =some e:=by simpa using e2
                rw[h5]at g1;cases g1;rfl
  subst this
  refine main e'.val v true ⟨rfl,rfl⟩ g4 λw' jw=>?_
  have gi:=jL (P:=P) (jw _ _ h1)
  simp only[Instr.lookup,Sem.run_bind,run_underlying hu,Result.andThen_ok,gi,Sem.run_pure,eL,j7,aT]
theorem Od{ι:az}{h:List Blk}(hr:bL ι h w){m:AV}{mv:Value}(hm:RA w ι m mv){t ty kt et:TypeId}(hu:P.underlying t=some (.map kt et)){k:AV→Prop}(hv:A7 h m k):
 cU P w ι k (Builtin.len_ #[t] ty #[mv]):=by
 unfold A7 at hv
 split at hv
 ·rename_i b
  split at hv
  ·rename_i ag ks ents hn
   obtain⟨c,of,s,rfl,hb,es,h1,h2,h3⟩:=sV hr hm hn
   refine .mk hv (.p (.int _ _)) λw' jw=>?_
   have gi:=jL (P:=P) (jw _ _ h1)
   simp[Builtin.len_,run_underlying hu,gi,h2,goInt]
  ·exact hv.elim
 ·exact hv.elim
end
section
variable {P:Program} {ι:az} {st:St} {a:Act} {w:World}
theorem ye{x y:AV}{v u:Value}(hx:RA w ι x v)(hy:RA w ι y u){op:BinOp}{neg:Bool}(dw:(op=.eql∧neg=false)∨(op=.neq∧neg=true)){t:TypeId}{ks:List CK}
 (hk:plainK P 20 t=some ks) (Oe:aggT P t=some true) (hg:P.eqGuardType P.depth t=false) {k:AV→Prop} {xo yo:Operand}
 (h:vcmpa neg ks x y k):
 cU P w ι k (do eqGuard op t xo yo v u;binOp op t v u):=by
 unfold vcmpa at h
 split at h
 ·rename_i as bs
  obtain⟨hp,h⟩:=h
  obtain⟨_,_,sW,ns⟩:=sS hp
  cases hx
  rename_i hx
  cases hy
  rename_i hy
  rw[BB hx sW,BB hy ns]
  have heq:=Gt 20 t ks hk 10000 (by omega) as bs hp
  simp only[dK,Oe]at heq
  refine .mk h (.p (.b _)) λw' _=>?_
  rw[Sem.run_bind,run_eqGuard_agg w' op t xo yo _ _ hg]
  rcases dw with⟨rfl,rfl⟩|⟨rfl,rfl⟩
  ·simp only[Result.andThen_ok,run_eql_struct,heq,cond_false]
  ·simp only[Result.andThen_ok,run_neq_struct,heq,cond_true]
 ·exact h.elim
theorem GG{x y:AV}{v u:Value}(hx:RA w ι x v)(hy:RA w ι y u){op:BinOp}{neg:Bool}(dw:(op=.eql∧neg=false)∨(op=.neq∧neg=true)){t:TypeId}
 (ht:P.underlying t=some .bool) {k:AV→Prop} {xo yo:Operand}
 (h:vcmpb neg x y k):
 cU P w ι k (do eqGuard op t xo yo v u;binOp op t v u):=by
 unfold vcmpb at h
 split at h
 ·rename_i x0 y0
  rw[pF hx,pF hy]
  have e:∀w',(Op.equal t (.bool x0) (.bool y0)).run P w'=.ok (x0==y0) w':=λw'=>run_equalIn_bool' w' 9999 t x0 y0 ht
  refine .mk h (.p (.b _)) λw' _=>?_
  rcases dw with⟨rfl,rfl⟩|⟨rfl,rfl⟩<;>simp[eqGuard,Go.binOp,e]
 ·exact h.elim
theorem BG{t e:TypeId}(ht:P.underlying t=some (.pointer e))(x:Option Addr)(w:World):(Op.equal t (.pointer x) (.pointer none)).run P w=.ok x.isNone w:=by
 have h:∀d,(Op.equalIn (d+1) t (.pointer x) (.pointer none)).run P w=.ok x.isNone w:=λd=>by
  cases x<;>simp[Op.equalIn,run_underlying ht]
 exact h 9999
theorem GH{x y:AV}{v u:Value}(hx:RA w ι x v)(hy:RA w ι y u){op:BinOp}{neg:Bool}(dw:(op=.eql∧neg=false)∨(op=.neq∧neg=true)){t e:TypeId}
 (ht:P.underlying t=some (.pointer e)) {k:AV→Prop} {xo yo:Operand}
 (h:vcmpp neg x y k):
 cU P w ι k (do eqGuard op t xo yo v u;binOp op t v u):=by
 unfold vcmpp at h
 split at h
 ·rw[vf hx,vf hy]
  refine .mk h (.p (.b _)) λw' _=>?_
  rcases dw with⟨rfl,rfl⟩|⟨rfl,rfl⟩<;>simp[eqGuard,Go.binOp,BG ht]
 ·rw[vf hy]
  cases hx
  refine .mk h (.p (.b _)) λw' _=>?_
  rcases dw with⟨rfl,rfl⟩|⟨rfl,rfl⟩<;>simp[eqGuard,Go.binOp,BG ht]
 ·rw[vf hy]
  cases hx
  rename_i hx
  cases hx
  refine .mk h (.p (.b _)) λw' _=>?_
  rcases dw with⟨rfl,rfl⟩|⟨rfl,rfl⟩<;>simp[eqGuard,Go.binOp,BG ht]
 ·exact h.elim
theorem GI{t e:TypeId}(ht:P.underlying t=some (.slice e))(x:Option Addr)(n c:Nat)(w:World):(Op.equal t (.slice x n c) (.slice none 0 0)).run P w=.ok x.isNone w:=by
 have h:∀d,(Op.equalIn (d+1) t (.slice x n c) (.slice none 0 0)).run P w=.ok x.isNone w:=λd=>by
  cases x<;>simp[Op.equalIn,run_underlying ht]
 exact h 9999
theorem GJ{y:Operand}(h:cOpd y=some (.c (.aw 0 [] (some 0)))):y=.const (.slice none 0 0):=by
 cases y with
 |tmp t=>cases h
 |func f=>cases h
 |global g=>
  obtain⟨r,_,h⟩:=aa0.1 h
  cases h
 |const v=>
  obtain⟨x,hx,h⟩:=aa0.1 h
  cases h
  unfold pvOf at hx
  split at hx
  ·obtain⟨l,_,hx⟩:=aa0.1 hx
   cases hx
  ·unfold pv1 at hx
   split at hx<;>first|(cases hx;done)|rfl
theorem GK{x:AV}{v:Value}(hx:RA w ι x v){op:BinOp}{neg:Bool}(dw:(op=.eql∧neg=false)∨(op=.neq∧neg=true)){t e:TypeId}
 (ht:P.underlying t=some (.slice e)) {k:AV→Prop} {xo yo:Operand} (h:A2 neg x k):
 cU P w ι k (do eqGuard op t xo yo v (.slice none 0 0);binOp op t v (.slice none 0 0)):=by
 have main:∀(b:Option Addr) (n c:Nat),v=.slice b n c→(b=none→k (.p (.b (!neg))))→k (.p (.b neg))→cU P w ι k (do eqGuard op t xo yo v (.slice none 0 0);binOp op t v (.slice none 0 0)):=by
  rintro b n c rfl h1 h2
  cases b with
  |none=>
   refine .mk (h1 rfl) (.p (.b _)) λw' _=>?_
   rcases dw with⟨rfl,rfl⟩|⟨rfl,rfl⟩<;>simp[eqGuard,Go.binOp,GI ht]
  |some b=>
   refine .mk h2 (.p (.b _)) λw' _=>?_
   rcases dw with⟨rfl,rfl⟩|⟨rfl,rfl⟩<;>simp[eqGuard,Go.binOp,GI ht]
 unfold A2 at h
 split at h
 ·rename_i wd rows cap
  have hp:RP w ι.M (.aw wd rows cap) v:=by cases hx;assumption
  obtain⟨oa,c0,hv,hc,aR,Og⟩:=lF hp
  rcases Og with hr|⟨ad,rfl,_⟩
  ·exact main _ _ _ hv (λ_=>h.1 hr) h.2
  ·exact main _ _ _ hv (λe=>by cases e) h.2
 ·rename_i b wd i l cap
  cases hx with
  |sl hb hl aR hs=>exact main _ _ _ rfl (λe=>by cases e) h.2
  |db aR=>exact main _ _ _ rfl (λ_=>h.1 rfl) h.2
 ·exact h.elim
theorem Oh{x:AV}{v:Value}(hx:RA w ι x v){op:UnOp}{k:AV→Prop}(h:vun op x k):cU P w ι k (Op.unary op v):=by
 unfold vun at h
 split at h
 ·rw[jJ hx];exact .mk h (.p (.int _ _)) λw' _=>by simp[Op.unary,Op.intArith,intAr]
 ·rw[jJ hx];exact .mk h (.p (.int _ _)) λw' _=>by simp[Op.unary,Op.intBits,intAr]
 ·rw[pF hx];exact .mk h (.p (.b _)) λw' _=>by simp[Op.unary]
 ·exact h.elim
theorem Oi{x:AV}{v:Value}(hx:RA w ι x v){i:Nat}{k:AV→Prop}(h:vext x i k):cU P w ι k (Instr.extract v i):=by
 unfold vext at h
 split at h
 ·rename_i l
  cases hb:Nat.blt i l.length with
  |false=>rw[hb]at h;exact h.elim
  |true=>
   rw[hb]at h
   simp only[cond_true]at h
   have aq:i<l.length:=by simpa [acr]using hb
   have e:nth .undef l i=l[i]:=by rw[iD,aaU aq];rfl
   rw[e]at h
   cases hx with
   |aD hl hr=>
    refine .mk (dj h) (hr i _ (aaU aq)) λw' _=>?_
    simp[Instr.extract,hl,aq]
 ·exact h.elim
theorem GL{x y:AV}{v u:Value}(hx:RA w ι x v)(hy:RA w ι y u){isMax:Bool}{k:AV→Prop}{ts:Array TypeId}{ty:TypeId}
 (h:vmm isMax x y k):
 cU P w ι k (if isMax then Builtin.max_ ts ty #[v,u]else Builtin.min_ ts ty #[v,u]):=by
 unfold vmm at h
 split at h
 ·rename_i kk n kb m
  obtain⟨_,h⟩:=eC h
  rw[jJ hx,jJ hy]
  cases isMax with
  |true=>
   refine .mk h (.p (.int _ _)) λw' _=>?_
   simp only[abG,Builtin.max_,List.foldlM_cons,List.foldlM_nil,Builtin.max2,Sem.run_bind,Sem.run_pure,Result.andThen_ok,cond_true]
   congr 2
   by_cases h1:n<m
   ·rw[aaS h1];omega
   ·rw[aaR h1];omega
  |false=>
   refine .mk h (.p (.int _ _)) λw' _=>?_
   simp only[ab2,abA,Builtin.min_,List.foldlM_cons,List.foldlM_nil,Builtin.min2,Sem.run_bind,Sem.run_pure,Result.andThen_ok,cond_false]
   congr 2
   by_cases h1:m<n
   ·rw[aaS h1];omega
   ·rw[aaR h1];omega
 ·exact h.elim
theorem Oj(gl:ga w ι.M)(tm:∀s,RA w ι (lk st.tmps s) (a.tmps.getD s undef)){f:Nat}{first cap:Array Operand}{fl cl:List aS}(hf:cOpds first.toList=some fl)(hc:cOpds cap.toList=some cl)
 {k:AV→Prop} (h:vmkfn f (evL st fl) (evL st cl) k):
 cU P w ι k (Instr.makeFunc (.func f) (first.map a.eval) (cap.map a.eval)):=by
 obtain⟨l1,h1⟩:=x8 gl tm hf
 obtain⟨l2,h2⟩:=x8 gl tm hc
 have e1:(first.toList.map a.eval).toArray=first.map a.eval:=by apply abF;simp
 have e2:(cap.toList.map a.eval).toArray=cap.map a.eval:=by apply abF;simp
 rw[e1]at h1
 rw[e2]at h2
 have aT:∀w',(Instr.makeFunc (.func f) (first.map a.eval) (cap.map a.eval)).run P w'=.ok (.func (.func f) (first.map a.eval) (cap.map a.eval)) w':=λw'=>rfl
 unfold vmkfn at h
 split at h
 ·rename_i as cs ha jc
  have ea:=vg ha
  have ec:=vg jc
  refine .mk h (.p (.fn ?_ ?_ (λi x hx=>?_) (λi x hx=>?_))) λw' _=>aT w'
  ·have:=aaT List.length ea;simp at this l1 ⊢;omega
  ·have:=aaT List.length ec;simp at this l2 ⊢;omega
  ·have:=h1 i (.p x) (by rw[ea];simp[hx])
   cases this;assumption
  ·have:=h2 i (.p x) (by rw[ec];simp[hx])
   cases this;assumption
 ·exact .mk h (.fn (by simp at l1 ⊢;omega) (by simp at l2 ⊢;omega) h1 h2) λw' _=>aT w'
theorem gW{x:PV}{v:Value}(h:RA w ι (.p x) v):RP w ι.M x v:=by
 cases h;assumption
theorem GM{x:AV}{v:Value}(hx:RA w ι x v){k:AV→Prop}(h:vnil x k):k x∧((∃a,v=.pointer (some a))∨∃f fa ca,v=.func (.func f) fa ca):=by
 unfold vnil at h
 split at h
 ·cases hx;exact⟨h,.inl ⟨_,rfl⟩⟩
 ·cases hx;rename_i hx;cases hx;exact⟨h,.inl ⟨_,rfl⟩⟩
 ·cases hx;rename_i hx;cases hx;exact⟨h,.inr ⟨_,_,_,rfl⟩⟩
 ·cases hx;exact⟨h,.inr ⟨_,_,_,rfl⟩⟩
 ·exact h.elim
theorem Ol{x:AV}{v:Value}(hx:RA w ι x v){kk kj:IntKind}{k:AV→Prop}(h:A3 kk x k){s d:TypeId}(hs:P.underlying s=some (.int kj))(hd:P.underlying d=some (.int kk)):
 cU P w ι k (convert s d v):=by
 unfold A3 at h
 split at h
 ·rw[jJ hx]
  exact .mk h (.p (.int _ _)) λw' _=>by simp[convert,run_underlying hs,run_underlying hd,Conv.intToInt]
 ·exact h.elim
def BH(P:Program)(w:World)(ι:az)(k:AV→Prop)(s:Sem Next):Prop:=
 ∃av v,k av∧RA w ι av v∧∀w',Ext w w'→s.run P w'=.ok (.value v) w'
theorem BH.of{k:AV→Prop}{s:Sem Value}(h:cU P w ι k s):BH P w ι k (do pure (.value (←s))):=by
 obtain⟨av,v,h1,h2,h3⟩:=h
 exact⟨av,v,h1,h2,λw' bQ=>by simp[h3 w' bQ]⟩
def stillOp(o:Oper):Bool:=
 match o.op with
 |.move _|.assign _|.nilCheck _|.fieldAddr _ _ _=>true
 |_=>false
theorem Om(gl:ga w ι.M)(tm:∀s,RA w ι (lk st.tmps s) (a.tmps.getD s undef)){o:Oper}{ro:RO}(hs:stillOp o=true)(hc:cop P o=some ro){k:AV→Prop}(h:sB ro st k):
 ∃av v,k av∧RA w ι av v∧∀w',(execOp a.eval o).run P w'=.ok (.value v) w':=by
 unfold stillOp at hs
 unfold cop at hc
 split at hs
 ·rename_i x ho
  rw[ho]at hc
  obtain⟨x',hx,rfl⟩:=aa0.1 hc
  rw[execOp,ho]
  exact⟨_,_,dj h,bt gl tm hx,λw'=>rfl⟩
 ·rename_i x ho
  rw[ho]at hc
  obtain⟨x',hx,rfl⟩:=aa0.1 hc
  rw[execOp,ho]
  exact⟨_,_,dj h,bt gl tm hx,λw'=>rfl⟩
 ·rename_i x ho
  rw[ho]at hc
  obtain⟨x',hx,rfl⟩:=aa0.1 hc
  rw[execOp,ho]
  have hv:=bt gl tm hx
  obtain⟨hk,hn⟩:=GM hv h
  refine⟨_,_,hk,hv,λw'=>?_⟩
  rcases hn with⟨ad,hn⟩|⟨f,fa,ca,hn⟩
  ·simp only[hn];rfl
  ·simp only[hn];rfl
 ·rename_i t x f ho
  rw[ho]at hc
  rw[execOp,ho]
  simp only at hc
  split at hc
  ·rename_i fs x' hu hx
   split at hc
   ·rename_i fd hf
    split at hc
    ·rename_i n hs
     cases hc
     obtain⟨av,r,h1,h2,h3⟩:=NP (bt gl tm hx) h hu hf hs
     exact⟨av,r,h1,h2,λw'=>by simp[h3 w']⟩
    ·cases hc
   ·cases hc
  ·cases hc
 ·cases hs
theorem On{h:List Blk}(hr:bL ι h w){ax:AV}{v:Value}(hx:RA w ι ax v){k:AV→Prop}(hk:vmentry h ax k):cU P w ι k (Instr.entry v):=by
 unfold vmentry at hk
 split at hk
 ·rename_i b wd
  split at hk
  ·rename_i m n i seen hn
   split at hk
   ·rename_i ag ks ents iG
    obtain⟨rfl,y,u,hi,hk⟩:=hk
    cases hx
    rename_i c o' s hb
    have bq:=hr.blk b
    rw[hn,hb]at bq
    obtain⟨c',s',cm,sn,he,hc,yf,hm⟩:=bq
    cases he
    obtain⟨o2,s2,ox⟩:=hm m rfl
    have vq:=hr.blk m
    rw[iG,ox]at vq
    obtain⟨c3,o3,s3,he,es,h1,h2,h3⟩:=vq
    cases he
    obtain⟨_,e,g1,g2,g3,g4⟩:=h3 i y u hi
    have yg:sn.back? =some i:=by
     have:sn.toList=(i::seen).reverse:=by rw[←yf,List.reverse_reverse]
     rw[←Array.getLast?_toList,this];simp
    have oy:∀(j:Nat) e',es[j]? =some e'→e'.born=j:=λj e' he=>by
     have aq:j<ents.length:=by have:=(aa8.1 he).1;omega
     obtain⟨_,e2,q1,q2,_⟩:=h3 j ents[j].1 ents[j].2 (by rw[aaU aq])
     rw[he]at q1;cases q1;exact q2
    have jM:(es.find? λe=>e.born==i)=some e:=by
     cases hf:es.find? λe=>e.born==i with
     |none=>
      rw[Array.find?_eq_none]at hf
      exact absurd (by simpa using g2) (hf e (adJ g1))
     |some e'=>
      have a7:=Array.find?_some hf
      obtain⟨j,hj⟩:=ad_ (Array.mem_of_find?_eq_some hf)
      have:=oy j e' hj
      have mn:j=i:=by simpa [this]using a7
      rw[mn,g1]at hj
      exact hj.symm
    have e0:0+(0*wd+0)=0:=by omega
    rw[e0]
    refine .mk (v:=.tuple #[e.key,e.val]) hk ?_ λw' bQ=>?_
    ·refine .aD rfl λi x hi=>?_
     cases i with
     |zero=>simp at hi;subst hi;exact .p g3
     |succ i=>cases i with
      |zero=>simp at hi;subst hi;exact .p g4
      |succ i=>simp at hi
    ·have nu:=bQ _ _ hc
     have gX:(getObj c).run P w'=.ok (.mapIter (some cm) ents.length sn ents.length) w':=by simp[getObj,Sem.run,nu]
     have BI:(getObj cm).run P w'=.ok (.map es ents.length) w':=jL (bQ _ _ h1)
     simp only[Instr.entry,Sem.run_bind,gX,BI,Result.andThen_ok,yg,bne_self_eq_false,ab2,abA,jM,Sem.run_pure]
   ·exact hk.elim
  ·exact hk.elim
 ·exact hk.elim
theorem GN{av:AV}{v:Value}(h:RA w ι av v)(ok f:Bool):RA w ι (mb ok av f) (if ok then .tuple #[v,.bool f]else v):=by
 cases ok with
 |true=>
  refine .aD rfl λi x hi=>?_
  cases i with
  |zero=>simp at hi;subst hi;exact h
  |succ i=>cases i with
   |zero=>simp at hi;subst hi;exact .p (.b _)
   |succ i=>simp at hi
 |false=>exact h
theorem Oo{ax:AV}{v:Value}(hx:RA w ι ax v){xt t:TypeId}{d:TypeDesc}(hu:P.underlying t=some d)(hd:∀l,d=.interface l→False){z:PV}(hz:zeroV P t=some z){ok:Bool}{k:AV→Prop}(h:vtas t z ok ax k):
 cU P w ι k (Instr.typeAssert v xt t ok):=by
 have yes:∀u (w':World),(Instr.typeAssert (.iface t u) xt t ok).run P w'=.ok (if ok then .tuple #[u,.bool true]else u) w':=λu w'=>by
  simp only[Instr.typeAssert,Sem.run_bind,run_underlying hu,Result.andThen_ok]
  cases d<;>first|(exact(hd _ rfl).elim)|simp
 have no:∀t' u zv (w':World),t'≠t→ok=true→(zeroValue t).run P w'=.ok zv w'→(Instr.typeAssert (.iface t' u) xt t ok).run P w'=.ok (.tuple #[zv,.bool false]) w':=λt' u zv w' bg aZ qZ=>by
  subst aZ
  simp only[Instr.typeAssert,Sem.run_bind,run_underlying hu,Result.andThen_ok]
  cases d<;>first|(exact(hd _ rfl).elim)|(simp[bg,qZ])
 obtain⟨zv,kN,ov⟩:=yd (w:=w) (M:=ι.M) hz
 have one:∀(t':TypeId) (y:AV) (u:Value),RA w ι y u→(bif Nat.beq t' t then k (mb ok y true)else bif ok then k (mb true (.p z) false)else False)→cU P w ι k (Instr.typeAssert (.iface t' u) xt t ok):=by
  clear h
  intro t' y u hy h
  cases hb:Nat.beq t' t with
  |true=>
   rw[hb]at h
   obtain rfl:=abt hb
   exact .mk h (GN hy ok true) λw' _=>yes u w'
  |false=>
   rw[hb]at h
   have bg:t'≠t:=λe=>by subst e;simp at hb
   cases aZ:ok with
   |true=>
    rw[aZ]at h
    exact .mk h (GN (.p kN) true false) λw' _=>by have:=no t' u zv w' bg aZ (ov w');rw[aZ]at this;simpa using this
   |false=>rw[aZ]at h;exact h.elim
 unfold vtas at h
 split at h
 ·rename_i t' y
  have hp:=gW hx
  cases hp
  rename_i u hy
  exact one t' (.p y) u (.p hy) h
 ·rename_i t' y
  cases hx
  rename_i u hy
  exact one t' y u hy h
 ·exact h.elim
theorem GO(gl:ga w ι.M)(tm:∀s,RA w ι (lk st.tmps s) (a.tmps.getD s undef))(hr:bL ι st.heap w){o:Oper}{ro:RO}(hc:cop P o=some ro){k:AV→Prop}(h:sB ro st k):
 BH P w ι k (execOp a.eval o):=by
 unfold cop at hc
 split at hc
 case h_1 x ho=>
  obtain⟨x',hx,rfl⟩:=aa0.1 hc
  rw[execOp,ho]
  exact⟨_,_,dj h,bt gl tm hx,λw' _=>rfl⟩
 case h_2 x ho=>
  obtain⟨x',hx,rfl⟩:=aa0.1 hc
  rw[execOp,ho]
  exact⟨_,_,dj h,bt gl tm hx,λw' _=>rfl⟩
 case h_3 c p q ho=>
  split at hc
  ·rename_i c' p' q' h1 h2 h3
   cases hc
   rw[execOp,ho]
   have dY:=bt gl tm h1
   have h:vpick (ev st c') (ev st p') (ev st q') k:=h
   unfold vpick at h
   split at h
   ·rename_i b hb
    rw[hb]at dY
    have h:=AX h
    cases b with
    |true=>exact⟨_,_,dj h,bt gl tm h2,λw' _=>by simp[pF dY,asBool]⟩
    |false=>exact⟨_,_,dj h,bt gl tm h3,λw' _=>by simp[pF dY,asBool]⟩
   ·exact h.elim
  ·cases hc
 case h_4 op t x y yt ho=>
  split at hc
  ·rename_i x' y' h1 h2
   rw[execOp,ho]
   have hx:=bt gl tm h1
   have hy:=bt gl tm h2
   refine .of ?_
   unfold cBin at hc
   split at hc
   ·cases hc
    exact F8 hx hy (dj (k:=λy=>vbin op _ y k) (dj (k:=λx=>force (ev st y') λy=>vbin op x y k) h))
   ·cases hc
    exact F8 hx hy (dj (k:=λy=>vbin op _ y k) (dj (k:=λx=>force (ev st y') λy=>vbin op x y k) h))
   ·rename_i ht
    split at hc
    ·cases hc;exact GG hx hy (.inl ⟨rfl,rfl⟩) ht h
    ·cases hc;exact GG hx hy (.inr ⟨rfl,rfl⟩) ht h
    ·cases hc
   ·rename_i e ht
    split at hc
    ·cases hc
     rw[GJ h2]
     exact GK hx (.inl ⟨rfl,rfl⟩) ht h
    ·cases hc
     rw[GJ h2]
     exact GK hx (.inr ⟨rfl,rfl⟩) ht h
    ·cases hc
   ·rename_i e ht
    split at hc
    ·cases hc
    ·split at hc
     ·cases hc;exact GH hx hy (.inl ⟨rfl,rfl⟩) ht h
     ·cases hc;exact GH hx hy (.inr ⟨rfl,rfl⟩) ht h
     ·cases hc
   ·rename_i fs ht
    split at hc
    ·rename_i ks hk
     split at hc
     ·rename_i hg
      split at hc
      ·cases hc;exact ye hx hy (.inl ⟨rfl,rfl⟩) hk (by simp[aggT,ht]) hg h
      ·cases hc;exact ye hx hy (.inr ⟨rfl,rfl⟩) hk (by simp[aggT,ht]) hg h
      ·cases hc
     ·cases hc
    ·cases hc
   ·rename_i n e ht
    split at hc
    ·rename_i ks hk
     split at hc
     ·rename_i hg
      split at hc
      ·cases hc;exact ye hx hy (.inl ⟨rfl,rfl⟩) hk (by simp[aggT,ht]) hg h
      ·cases hc;exact ye hx hy (.inr ⟨rfl,rfl⟩) hk (by simp[aggT,ht]) hg h
      ·cases hc
     ·cases hc
    ·cases hc
   ·cases hc
  ·cases hc
 case h_5 op t x ho=>
  obtain⟨x',hx,rfl⟩:=aa0.1 hc
  rw[execOp,ho]
  exact .of (Oh (bt gl tm hx) h)
 case h_6 e _=>
  obtain⟨x',hx,rfl⟩:=aa0.1 hc
  rcases F4 P e x' with e1|⟨_,_,_,e1,_⟩<;>(rw[e1]at h;exact h.elim)
 case h_7 e _ _=>
  split at hc
  ·rename_i x' s _ _
   cases hc
   rcases F5 P e x' s with e1|⟨_,e1⟩<;>(rw[e1]at h;exact h.elim)
  ·cases hc
 case h_8 t parts ho=>
  rw[execOp,ho]
  split at hc
  ·rename_i fs z hu hz
   split at hc
   ·rename_i cr
    obtain⟨ps,hp,rfl⟩:=aa0.1 hc
    rcases F3 P t z ps with e1|⟨n,z0,rest,e1,h1,h2,h3⟩
    ·rw[e1]at h;exact .of (Bv gl tm hz (.inl ⟨fs,hu,cr,hp⟩) h)
    ·rw[e1]at h;exact .of (Bv gl tm hz (.inl ⟨fs,hu,cr,hp⟩) (N1 h1 h2 h3 h))
   ·cases hc
  ·rename_i n e z hu hz
   split at hc
   ·rename_i s hs
    obtain⟨ps,hp,rfl⟩:=aa0.1 hc
    exact .of (Bv gl tm hz (.inr ⟨n,e,s,hu,hs,hp⟩) h)
   ·cases hc
  ·cases hc
 case h_9=>
  split at hc
  ·split at hc
   ·split at hc
    ·cases hc;exact h.elim
    ·cases hc
   ·cases hc
  ·cases hc
 case h_10 t x ho=>
  split at hc
  ·rename_i x' s g hx hs hg
   cases hc
   rw[execOp,ho]
   exact .of (Bq hr (bt gl tm hx) (dj (k:=λa=>vload st.heap a s g k) h) hs hg)
  ·cases hc
 case h_11=>
  split at hc
  ·cases hc;exact h.elim
  ·cases hc
 case h_12 x ho=>
  obtain⟨x',hx,rfl⟩:=aa0.1 hc
  rw[execOp,ho]
  have hv:=bt gl tm hx
  obtain⟨hk,hn⟩:=GM hv h
  refine⟨_,_,hk,hv,λw' _=>?_⟩
  rcases hn with⟨ad,hn⟩|⟨f,fa,ca,hn⟩
  ·simp only[hn];rfl
  ·simp only[hn];rfl
 case h_13 t x f ho=>
  rw[execOp,ho]
  split at hc
  ·rename_i fs x' hu hx
   split at hc
   ·rename_i fd hf
    split at hc
    ·rename_i n hs
     cases hc
     exact .of (NO (bt gl tm hx) h hu hf hs)
    ·cases hc
   ·cases hc
  ·cases hc
 case h_14 t x f ho=>
  rw[execOp,ho]
  split at hc
  ·rename_i fs x' hu hx
   split at hc
   ·rename_i fd hf
    split at hc
    ·rename_i n g hs hg
     cases hc
     exact .of (NQ (bt gl tm hx) h hu hf hs hg)
    ·cases hc
   ·cases hc
  ·cases hc
 case h_15 t x i ho=>
  rw[execOp,ho]
  split at hc
  ·rename_i n e x' i' hu hx hi
   obtain⟨s,hs,rfl⟩:=aa0.1 hc
   exact .of (NI (bt gl tm hx) (bt gl tm hi) h hu hs)
  ·rename_i e x' i' hu hx hi
   obtain⟨s,hs,rfl⟩:=aa0.1 hc
   exact .of (NJ (bt gl tm hx) (bt gl tm hi) (dj (k:=λx=>vidxS x (ev st i') s k) h) hu hs)
  ·cases hc
 case h_16 t x i ho=>
  rw[execOp,ho]
  split at hc
  ·rename_i n e x' i' hu hx hi
   split at hc
   ·rename_i s g hs hg
    cases hc
    exact .of (NN (bt gl tm hx) (bt gl tm hi) h hu hs hg)
   ·cases hc
  ·rename_i x' i' hu hx hi
   cases hc
   exact .of (NL (bt gl tm hx) (bt gl tm hi) h hu)
  ·cases hc
 case h_17 t x lo hi mx ho=>
  rw[execOp,ho]
  split at hc
  ·rename_i n e x' kM bp nk hu hx hl hh hm
   obtain⟨s,hs,hc⟩:=acj.1 hc
   split at hc
   ·cases hc
   ·rename_i qS
    cases hc
    exact .of (NV gl tm (bt gl tm hx) hl hh hm (adK.2 qS) h hu hs)
  ·rename_i e x' kM bp nk hu hx hl hh hm
   obtain⟨s,hs,hc⟩:=acj.1 hc
   split at hc
   ·cases hc
   ·rename_i qS
    cases hc
    exact .of (NU gl tm (bt gl tm hx) hl hh hm (adK.2 qS) (dj (k:=λx=>vslcS x (kM.map (ev st)) (bp.map (ev st)) (nk.map (ev st)) s k) h) hu hs)
  ·rename_i x' kM bp hu hx hl hh hm
   cases hc
   have:mx=none:=by
    cases mx with
    |none=>rfl
    |some m=>simp only[cOpdO]at hm;obtain⟨y,_,hy⟩:=aa0.1 hm;cases hy
   subst this
   exact .of (NW gl tm (bt gl tm hx) hl hh h hu)
  ·cases hc
 case h_18 s d x ho=>
  rw[execOp,ho]
  split at hc
  ·rename_i kj kk x' hs hd hx
   cases hc
   exact .of (Ol (bt gl tm hx) h hs hd)
  ·rename_i x' hs hd hx
   cases hc
   have hv:=bt gl tm hx
   refine .of ?_
   have h:A4 (ev st x') k:=h
   generalize ev st x'=y at h hv
   unfold A4 at h
   split at h
   ·rw[pG hv]
    exact .mk h (.p (.str _)) λw' _=>by simp[convert,run_underlying hs,run_underlying hd]
   ·exact h.elim
  ·rename_i e x' hs hd hx
   split at hc
   ·rename_i he
    cases hc
    exact .of (NY hr (bt gl tm hx) (dj (k:=λx=>vslices st.heap x 1 λrows=>∃l:List UInt8,rows=l.map fY∧k (.p (.str l))) h) hs he hd)
   ·cases hc
  ·split at hc
   ·cases hc;exact h.elim
   ·cases hc
  ·cases hc
 case h_19 t x ho=>
  rw[execOp,ho]
  split at hc
  ·cases hc
  ·rename_i u x' yh hu hx
   cases hc
   have hv:=bt gl tm hx
   have h:vmkif t (ev st x') k:=dj (k:=λx=>vmkif t x k) h
   have aT:∀w',(Instr.makeInterface t (a.eval x)).run P w'=.ok (.iface t (a.eval x)) w':=λw'=>by
    simp only[Instr.makeInterface,Sem.run_bind,run_underlying hu,Result.andThen_ok]
    cases u<;>first|rfl|exact absurd rfl (yh _)
   refine .of ?_
   unfold vmkif at h
   split at h
   ·rename_i z heq
    rw[heq]at hv
    exact .mk h (.p (.bK (gW hv))) λw' _=>aT w'
   ·exact .mk h (.bK hv) λw' _=>aT w'
  ·cases hc
 case h_20 f first cap ho=>
  rw[execOp,ho]
  split at hc
  ·rename_i fl cl h1 h2
   cases hc
   exact .of (Oj gl tm h1 h2 h)
  ·cases hc
 case h_21=>
  split at hc
  ·split at hc
   ·split at hc
    ·cases hc;exact h.elim
    ·cases hc
   ·cases hc
  ·cases hc
 case h_22 x i ho=>
  obtain⟨x',hx,rfl⟩:=aa0.1 hc
  rw[execOp,ho]
  exact .of (Oi (bt gl tm hx) h)
 case h_23 c ho=>
  split at hc
  ·obtain⟨l,_,rfl⟩:=aa0.1 hc;exact h.elim
  ·split at hc
   ·cases hc;exact h.elim
   ·cases hc
  ·rename_i eY
   split at hc
   ·rename_i x t cV kO
    have e1:c.args= #[x]:=by apply abF;simpa using cV
    have e2:c.argTypes= #[t]:=by apply abF;simpa using kO
    rw[execOp,ho]
    simp only[resolve,eY,e1,e2,invoke,builtin]
    split at hc
    ·rename_i x' hu hx
     cases hc
     obtain⟨av,v,h1,h2,h3⟩:=NR (ty:=o.type) (bt gl tm hx) h hu
     exact⟨av,v,h1,h2,λw' bQ=>by
      have h4:=h3 w' bQ
      simp at h4 ⊢
      rw[h4]
      rfl⟩
    ·rename_i e x' hu hx
     cases hc
     obtain⟨av,v,h1,h2,h3⟩:=NS (ty:=o.type) (bt gl tm hx) h hu
     exact⟨av,v,h1,h2,λw' bQ=>by
      have h4:=h3 w' bQ
      simp at h4 ⊢
      rw[h4]
      rfl⟩
    ·rename_i kt et x' hu hx
     cases hc
     obtain⟨av,v,h1,h2,h3⟩:=Od (ty:=o.type) hr (bt gl tm hx) hu h
     exact⟨av,v,h1,h2,λw' bQ=>by
      have h4:=h3 w' bQ
      simp at h4 ⊢
      rw[h4]
      rfl⟩
    ·cases hc
   ·cases hc
  ·split at hc
   ·split at hc
    ·split at hc
     ·split at hc
      ·cases hc;exact h.elim
      ·cases hc
     ·cases hc
    ·split at hc
     ·split at hc
      ·cases hc;exact h.elim
      ·cases hc
     ·cases hc
    ·cases hc
   ·cases hc
  ·split at hc
   ·split at hc
    ·obtain⟨n,_,rfl⟩:=aa0.1 hc;exact h.elim
    ·cases hc
   ·cases hc
  ·rename_i eY
   split at hc
   ·rename_i x y cV
    have e1:c.args= #[x,y]:=by apply abF;simpa using cV
    rw[execOp,ho]
    simp only[resolve,eY,e1,invoke,builtin]
    split at hc
    ·rename_i x' y' hx hy
     cases hc
     obtain⟨av,v,h1,h2,h3⟩:=GL (P:=P) (isMax:=true) (ts:=c.argTypes) (ty:=o.type) (bt gl tm hx) (bt gl tm hy) h
     exact⟨av,v,h1,h2,λw' bQ=>by
      have h4:=h3 w' bQ
      simp at h4 ⊢
      rw[h4]
      rfl⟩
    ·cases hc
   ·cases hc
  ·rename_i eY
   split at hc
   ·rename_i x y cV
    have e1:c.args= #[x,y]:=by apply abF;simpa using cV
    rw[execOp,ho]
    simp only[resolve,eY,e1,invoke,builtin]
    split at hc
    ·rename_i x' y' hx hy
     cases hc
     obtain⟨av,v,h1,h2,h3⟩:=GL (P:=P) (isMax:=false) (ts:=c.argTypes) (ty:=o.type) (bt gl tm hx) (bt gl tm hy) h
     exact⟨av,v,h1,h2,λw' bQ=>by
      have h4:=h3 w' bQ
      simp at h4 ⊢
      rw[h4]
      rfl⟩
    ·cases hc
   ·cases hc
  ·split at hc
   ·split at hc
    ·split at hc
     ·split at hc
      ·cases hc;exact h.elim
      ·cases hc
     ·cases hc
    ·cases hc
   ·cases hc
  ·split at hc
   ·cases hc;exact h.elim
   ·cases hc
  ·cases hc
 case h_24=>
  split at hc
  ·obtain⟨q,_,rfl⟩:=aa0.1 hc
   exact h.elim
  ·cases hc
 case h_25 t m x ok ho=>
  rw[execOp,ho]
  split at hc
  ·rename_i kt et hu
   split at hc
   ·rename_i ag ks z m' x' hk hz hm hx
    cases hc
    exact .of (Ob hr (bt gl tm hm) (bt gl tm hx) hu hk hz (dj (k:=λx=>A6 st.heap ag ks z ok (ev st m') x k) h))
   ·cases hc
  ·cases hc
 case h_26=>
  split at hc
  ·split at hc
   ·cases hc;exact h.elim
   ·cases hc
  ·cases hc
 case h_27=>
  split at hc
  ·split at hc
   ·cases hc;exact h.elim
   ·cases hc
  ·cases hc
 case h_28=>
  split at hc
  ·split at hc
   ·cases hc;exact h.elim
   ·cases hc
  ·cases hc
 case h_29=>
  split at hc
  ·cases hc;exact h.elim
  ·cases hc
 case h_30=>
  split at hc
  ·cases hc;exact h.elim
  ·cases hc
 case h_31=>
  obtain⟨q,_,rfl⟩:=aa0.1 hc
  exact h.elim
 case h_32 x ho=>
  obtain⟨x',hx,rfl⟩:=aa0.1 hc
  rw[execOp,ho]
  exact .of (On hr (bt gl tm hx) (dj (k:=λx=>vmentry st.heap x k) h))
 case h_33 x xt t ok ho=>
  rw[execOp,ho]
  split at hc
  ·cases hc
  ·rename_i d z x' BJ hu hz hx
   cases hc
   exact .of (Oo (bt gl tm hx) hu BJ hz h)
  ·cases hc
 case h_34=>cases hc
end
def az.cF(ι:az)(b:Nat)(p:Option (Nat×Nat×Nat)):az:={ι with m:=λn=>if n=.v b then p else if n.base=b then none else ι n}
theorem az.oz(ι:az)(b:Nat)(p:Option (Nat×Nat×Nat)):ι.cF b p b=p:=by simp[az.cF]
theorem az.BK(ι:az)(b i:Nat)(p:Option (Nat×Nat×Nat)):ι.cF b p (.h b i)=none:=by simp[az.cF,Bn.base]
theorem az.gL(ι:az){b:Nat}{n:Bn}(p:Option (Nat×Nat×Nat))(h:n.base≠b):ι.cF b p n=ι n:=by
 simp only[az.cF]
 rw[aaR (λe=>h (by rw[e];rfl)),aaR h]
theorem az.mo{ι:az}{b:Nat}{p:Option (Nat×Nat×Nat)}{n:Bn}{q:Nat×Nat×Nat}(h:ι.cF b p n=some q):(n=.v b∧p=some q)∨(n.base≠b∧ι n=some q):=by
 simp only[az.cF]at h
 split at h
 ·rename_i e;exact .inl ⟨e,h⟩
 ·split at h
  ·cases h
  ·rename_i e;exact .inr ⟨e,h⟩
def Blk.Oq:Blk→Bool
 |.mx _=>true
 |.pr _ _=>true
 |_=>false
def fE(w:World)(ι:az)(cs:Array Value)(o:Nat):Blk→Prop
 |.dead=>False
 |.mp _ _ _=>False
 |.gh _ _=>False
 |.pn _ _ _ _=>False
 |.bF _ _ _ _ _=>False
 |.mi _ _ _=>False
 |.ax n arr cells=>arr.length=n∧o+(arr.map AV.p++cells).length≤cs.size∧∀(j:Nat) x,(arr.map AV.p++cells)[j]? =some x→∃v,cs[o+j]? =some v∧dQ v=true∧RA w ι x v
 |.mx cells=>o+cells.length≤cs.size∧∀(j:Nat) x,cells[j]? =some x→∃v,cs[o+j]? =some v∧dQ v=true∧RA w ι x v
 |.pr wd rows=>o+rows.length*wd≤cs.size∧(∀(i:Nat) row,rows[i]? =some row→row.length=wd)∧
  ∀(i:Nat) row (j:Nat) x,rows[i]? =some row→row[j]? =some x→x.one=true∧∃v,cs[o+(i*wd+j)]? =some v∧RP w ι.M x v
theorem fE.bare{w:World}{ι:az}{cs:Array Value}{o:Nat}{x:Blk}(h:fE w ι cs o x):x.bare=true:=by cases x<;>first|rfl|exact h.elim
theorem fE.later{w w':World}{ι aC:az}(hL:bc ι.M w w' aC.M)(bh:∀b p,ι b=some p→aC b=some p){cs:Array Value}{o:Nat}{x:Blk}(h:fE w ι cs o x):
 fE w' aC cs o x:=by
 cases x with
 |dead=>exact h
 |mp _ _ _=>exact h
 |gh _ _=>exact h
 |pn _ _ _ _=>exact h
 |bF _ _ _ _ _=>exact h
 |mi _ _ _=>exact h
 |ax n arr cells=>
  obtain⟨h0,h1,h2⟩:=h
  refine⟨h0,h1,λj x hx=>?_⟩
  obtain⟨v,hv,ho,hr⟩:=h2 j x hx
  exact⟨v,hv,ho,hr.later hL bh⟩
 |mx cells=>
  obtain⟨h1,h2⟩:=h
  refine⟨h1,λj x hx=>?_⟩
  obtain⟨v,hv,ho,hr⟩:=h2 j x hx
  exact⟨v,hv,ho,hr.later hL bh⟩
 |pr wd rows=>
  obtain⟨h1,h2,h3⟩:=h
  refine⟨h1,h2,λi row j x hi hx=>?_⟩
  obtain⟨ho,v,hv,hr⟩:=h3 i row j x hi hx
  exact⟨ho,v,hv,hr.later hL⟩
theorem fE.kL{w w':World}{ι aC:az}(hL:bc ι.M w w' aC.M){cs:Array Value}{o wd:Nat}{rows:List (List PV)}(h:fE w ι cs o (.pr wd rows)):
 fE w' aC cs o (.pr wd rows):=by
 obtain⟨h1,h2,h3⟩:=h
 refine⟨h1,h2,λi row j x hi hx=>?_⟩
 obtain⟨ho,v,hv,hr⟩:=h3 i row j x hi hx
 exact⟨ho,v,hv,hr.later hL⟩
theorem fE.rb{w:World}{ι:az}{c o:Nat}{cs:Array Value}{ty:TypeId}{fz:Nat×Nat}{x:Blk}(h:fE w ι cs o x)(hc:w.heap[c]? =some (.cells cs ty fz))(ht:kK cs.size fz):
 RB w ι (some (c,o,cs.size)) x:=by
 cases x with
 |dead=>exact h.elim
 |mp _ _ _=>exact h.elim
 |gh _ _=>exact h.elim
 |pn _ _ _ _=>exact h.elim
 |bF _ _ _ _ _=>exact h.elim
 |mi _ _ _=>exact h.elim
 |ax n arr cells=>exact⟨h.1,c,o,_,cs,ty,fz,rfl,hc,ht,rfl,h.2.1,h.2.2⟩
 |mx cells=>exact⟨c,o,_,cs,ty,fz,rfl,hc,ht,rfl,h.1,h.2⟩
 |pr wd rows=>exact .inr ⟨c,o,_,cs,ty,fz,rfl,hc,ht,rfl,h.1,h.2.1,h.2.2⟩
theorem RB.at{w:World}{ι:az}{c o s:Nat}{x:Blk}(h:RB w ι (some (c,o,s)) x)(hx:x.Oq=true:=by rfl):∃cs ty fz,w.heap[c]? =some (.cells cs ty fz)∧kK cs.size fz∧cs.size=s∧fE w ι cs o x:=by
 cases x with
 |dead=>cases h
 |mp _ _ _=>cases hx
 |gh _ _=>cases hx
 |pn _ _ _ _=>cases hx
 |bF _ _ _ _ _=>cases hx
 |mi _ _ _=>cases hx
 |ax _ _ _=>cases hx
 |mx cells=>
  obtain⟨c',o',s',cs,ty,fz,he,h1,hf,h2,h3,h4⟩:=h
  cases he
  exact⟨cs,ty,fz,h1,hf,h2,by rw[h2];exact h3,h4⟩
 |pr wd rows=>
  rcases h with⟨h0,_⟩|⟨c',o',s',cs,ty,fz,he,h1,hf,h2,h3,h4,h5⟩
  ·cases h0
  ·cases he
   exact⟨cs,ty,fz,h1,hf,h2,by rw[h2];exact h3,h4,h5⟩
def dD(w:World)(o:Obj):World:={w with heap:=w.heap.push o}
def bB(w:World)(c:Nat)(o:Obj):World:={w with heap:=w.heap.setIfInBounds c o}
theorem j8(w:World)(o:Obj)(c:Nat)(x:Obj)(h:w.heap[c]? =some x):(dD w o).heap[c]? =some x:=by
 have aq:=(aa8.1 h).1
 simp only[dD]
 rw[acG aq]
 rw[abu aq]at h
 exact h
theorem nv(w:World)(o:Obj):(dD w o).heap[w.heap.size]? =some o:=by
 show(w.heap.push o)[w.heap.size]? =some o
 simp
theorem iH(w:World)(c:Nat)(o:Obj)(h:c<w.heap.size):(bB w c o).heap[c]? =some o:=by simp[bB,h]
theorem fg(w:World){c d:Nat}(o:Obj)(h:d≠c):(bB w c o).heap[d]? =w.heap[d]?:=by
 simp only[bB];exact acg (abx h)
section
variable {cx:Cx} {ι:az} {h:List Blk} {w:World}
theorem vt{b:Bn}{x:Blk}{l:Nat}{r:Option (List (List PV))}(h:x.kill b=.gh l r):x=.gh l r:=by
 cases x with
 |mi m n s=>cases m<;>(simp[Blk.kill]at h)
 |_=>first|exact h|(simp[Blk.kill]at h)
theorem Mem.step(hm:Mem cx ι h w){aC:az}{h':List Blk}{w':World}(hr:bL aC h' w')(dd:∀(d:Nat) (x:Obj),¬ι.I d→w.heap[d]? =some x→w'.heap[d]? =some x)
 (eD:∀c,aC.I c→ι.I c∨w.heap.size≤c) (cw:w.heap.size≤w'.heap.size) (dq:w'.os=w.os∧w'.output=w.output)
 (hX:aC.X=ι.X) (hS:aC.S=ι.S) (hD:aC.D=ι.D) (hG:aC.G=ι.G) (gM:∀b:Nat,cx.E.fx b=true→aC b=ι b) (yi:cx.E.k≤h'.length)
 (pO:∀l r,nth .dead h' 0=.gh l r→nth .dead h 0=.gh l r):Mem cx aC h' w':=by
 refine⟨hr,?_,?_,?_,?_,?_,?_,?_,abg hm.gr cw,⟨dq.1.trans hm.os.1,dq.2.trans hm.os.2⟩,λb hb=>(gM b hb).trans (hm.fx b hb),yi,?_,?_,?_,by rw[hG,hS];exact hm.su,by rw[hD];exact hm.dz⟩
 ·rw[hX];exact λc hc=>abY (hm.xl c hc) cw
 ·rw[hX,hS];exact hm.xs
 ·rw[hX];exact hm.xe
 ·rw[hS];exact hm.se
 ·rw[hG];exact hm.ge
 ·intro c hc
  rcases eD c hc with h1|h1
  ·exact hm.ow c h1
  ·exact .inr (abg hm.gr h1)
 ·intro c h1 h2 h3
  have BL:¬ι.I c:=λhI=>by
   rcases hm.ow c hI with h4|h4
   ·exact h1 h4
   ·omega
  have h5:=hm.fr c h1 h2 h3
  have h6:cx.w0.heap[c]? =some cx.w0.heap[c]:=abu h3
  rw[h6]at h5 ⊢
  exact dd c _ BL h5
 ·rw[hD,hX,hS]
  intro d hd
  obtain⟨h1,h2,h3,h4⟩:=hm.dm d hd
  exact⟨h1,h2,h3,dd d _ (λ⟨b,o,s,hb⟩=>hm.hr.cD _ _ _ _ hb h1) h4⟩
 ·rw[hD];exact hm.dn
 ·intro l r hl
  obtain⟨h1,h2⟩:=hm.jt l r (pO l r hl)
  refine⟨h1,?_⟩
  rw[hS]
  exact cx.js _ _ _ _ _ _ h2 dd eD (λc hc=>hr.lt hc) cw dq
theorem Mem.mq(hm:Mem cx ι h w){b:Nat}(hb:b<h.length)(gM:cx.E.fx b=false){w':World}{p:Option (Nat×Nat×Nat)}{blk:Blk}{c:Nat}
 (hc:(∃o s,ι b=some (c,o,s))∨w.heap.size≤c) (hp:∀c' o s,p=some (c',o,s)→c'=c)
 (dd:∀(d:Nat) (x:Obj),d≠c→w.heap[d]? =some x→w'.heap[d]? =some x) (cw:w.heap.size≤w'.heap.size)
 (dq:w'.os=w.os∧w'.output=w.output) (bq:bc ι.M w w' (ι.cF b p).M→RB w' (ι.cF b p) p blk) (gj:∀l r,blk≠.gh l r:=by intro _ _ h;cases h) (jd:blk.bare=true:=by rfl):
 Mem cx (ι.cF b p) (setNth (killH b h) b blk) w'∧bc ι.M w w' (ι.cF b p).M:=by
 have j9:ι.I c∨w.heap.size≤c:=hc.imp (λ⟨o,s,h⟩=>⟨b,o,s,h⟩) id
 have vu:∀d,(ι.cF b p).I d→d=c∨∃(b':Bn) (o s:Nat),b'.base≠b∧ι b'=some (d,o,s):=by
  rintro d ⟨b',o,s,a7⟩
  rcases az.mo a7 with⟨_,h1⟩|⟨e,h1⟩
  ·exact .inl (hp _ _ _ h1)
  ·exact .inr ⟨b',o,s,e,h1⟩
 have hL:bc ι.M w w' (ι.cF b p).M:=by
  refine⟨λd x hd hx=>dd d x (λe=>?_) hx,λd hd=>?_,cw⟩
  ·subst e
   rcases j9 with h1|h1
   ·exact hd (.inl h1)
   ·have:=(aa8.1 hx).1;omega
  ·rcases hd with hd|hd
   ·rcases vu d hd with rfl|⟨b',o,s,_,h1⟩
    ·exact j9.imp .inl id
    ·exact .inl (.inl ⟨b',o,s,h1⟩)
   ·exact .inl (.inr hd)
 have bh:∀b',(Bn.v b).hit b'=false→∀q,ι b'=some q→(ι.cF b p) b'=some q:=λb' e q hq=>by rw[az.gL _ _ (Bn.oh e)];exact hq
 have jx:∀(b':Bn) d o s,b'.base≠b→ι b'=some (d,o,s)→d≠c:=by
  intro b' d o s e h1 e2
  subst e2
  rcases hc with⟨o2,s2,h2⟩|h2
  ·exact e (by rw[hm.hr.inj _ _ _ _ _ _ _ h1 h2];rfl)
  ·have:=hm.hr.lt ⟨b',o,s,h1⟩;omega
 have dL:∀(b':Bn) d o s,b'.base≠b→ι b'=some (d,o,s)→w'.heap[d]? =w.heap[d]?:=λb' d o s e hd=>by
  have bg:=jx b' d o s e hd
  obtain⟨ob,h1,_⟩:=hm.hr.size hd
  rw[h1,dd _ _ bg h1]
 refine⟨hm.step ⟨hm.hr.gl.later hL,λb'=>?_,λb1 b2 d o1 s1 o2 s2 h1 h2=>?_,λb1 d o1 s1 h1=>?_,λb' i=>?_⟩ (λd x hd hx=>dd d x (λe=>?_) hx) (λd hd=>?_) cw dq rfl rfl rfl rfl
  (λb' a7=>?_) (by rw[eA,abp,fc];exact hm.kl) (λl r hl=>?_),hL⟩
 ·rw[dc _ _ _ _ _ (by rw[fc];exact hb)]
  by_cases e:b'=b
  ·rw[aaS e];subst e;rw[az.oz];exact bq hL
  ·rw[aaR e,az.gL _ _ (n:=.v b') e,j0]
   exact(hm.hr.blk b').kill hL (λh=>h) bh λd o s hd=>dL (.v b') d o s e hd
 ·rcases az.mo h1 with⟨e1,g1⟩|⟨e1,g1⟩<;>rcases az.mo h2 with⟨e2,g2⟩|⟨e2,g2⟩
  ·rw[e1,e2]
  ·have:=hp _ _ _ g1;subst this
   exact absurd rfl (jx _ _ _ _ e2 g2)
  ·have:=hp _ _ _ g2;subst this
   exact absurd rfl (jx _ _ _ _ e1 g1)
  ·exact hm.hr.inj _ _ _ _ _ _ _ g1 g2
 ·rcases az.mo h1 with⟨e1,g1⟩|⟨e1,g1⟩
  ·have:=hp _ _ _ g1
   subst this
   rcases hc with⟨o2,s2,h2⟩|h2
   ·exact hm.hr.cD _ _ _ _ h2
   ·intro hX;have:=hm.xl _ hX;omega
  ·exact hm.hr.cD _ _ _ _ g1
 ·rw[dc _ _ _ _ _ (by rw[fc];exact hb)]
  by_cases e:b'=b
  ·rw[aaS e];subst e;exact HB.bare jd (az.BK _ _ _ _)
  ·rw[aaR e,az.gL _ _ (n:=.v b') e,az.gL _ _ (n:=.h b' i) e,j0]
   exact((hm.hr.hid b' i).later hL (λd o s hd=>dL (.v b') d o s e hd) (λd o s hd=>dL (.h b' i) d o s e hd)).kill _
 ·subst e
  rcases j9 with h1|h1
  ·exact hd h1
  ·have:=(aa8.1 hx).1;omega
 ·rcases vu d hd with rfl|⟨b',o,s,_,h1⟩
  ·exact j9
  ·exact .inl ⟨b',o,s,h1⟩
 ·rw[az.gL]
  intro e;have e:b'=b:=e;subst e;rw[gM]at a7;cases a7
 ·rw[dc _ _ _ _ _ (by rw[fc];exact hb)]at hl
  split at hl
  ·exact absurd hl (gj l r)
  ·rw[j0]at hl;exact vt hl
theorem Mem.BM(hm:Mem cx ι h w){b c o s:Nat}(hb:ι b=some (c,o,s)){w':World}{blk:Blk}
 (dd:∀(d:Nat) (x:Obj),d≠c→w.heap[d]? =some x→w'.heap[d]? =some x) (cw:w.heap.size≤w'.heap.size)
 (dq:w'.os=w.os∧w'.output=w.output) (bq:bc ι.M w w' ι.M→RB w' ι (some (c,o,s)) blk) (Ot:bc ι.M w w' ι.M→(∀i c' o s,ι (.h b i)=some (c',o,s)→w'.heap[c']? =w.heap[c']?)→∀i,HB w' ι (some (c,o,s)) (ι (.h b i)) i blk) (gj:∀l r,blk≠.gh l r:=by intro _ _ h;cases h):
 Mem cx ι (setNth h b blk) w'∧bc ι.M w w' ι.M:=by
 have hlen:b<h.length:=by
  obtain⟨ob,_,hd⟩:=hm.hr.size hb
  exact hm.hr.fO hd
 have hL:bc ι.M w w' ι.M:=⟨λd x hd hx=>dd d x (λe=>hd (e▸.inl ⟨b,o,s,hb⟩)) hx,λd hd=>.inl hd,cw⟩
 have dL:∀(b':Bn) d o' s',b'≠.v b→ι b'=some (d,o',s')→w'.heap[d]? =w.heap[d]?:=λb' d o' s' e hd=>by
  have bg:d≠c:=λe2=>by subst e2;exact e (hm.hr.inj _ _ _ _ _ _ _ hd hb)
  obtain⟨ob,h1,_⟩:=hm.hr.size hd
  rw[h1,dd _ _ bg h1]
 refine⟨hm.step ⟨hm.hr.gl.later hL,λb'=>?_,hm.hr.inj,hm.hr.cD,λb' i=>?_⟩ (λd x hd hx=>dd d x (λe=>?_) hx) (λd hd=>.inl hd) cw dq rfl rfl rfl rfl
  (λb' a7=>rfl) (by rw[eA,abp];exact hm.kl) (λl r hl=>?_),hL⟩
 ·rw[dc _ _ _ _ _ hlen]
  by_cases e:b'=b
  ·rw[aaS e];subst e;rw[hb];exact bq hL
  ·rw[aaR e]
   exact(hm.hr.blk b').later hL (λh=>h) (λ_ _ h=>h) λd o' s' hd=>dL (.v b') d o' s' (Bn.qM e) hd
 ·rw[dc _ _ _ _ _ hlen]
  by_cases e:b'=b
  ·rw[aaS e];subst e;rw[hb];exact Ot hL (λi c' o' s' hd=>dL _ _ _ _ (λe=>by cases e) hd) i
  ·rw[aaR e]
   exact(hm.hr.hid b' i).later hL (λd o' s' hd=>dL (.v b') d o' s' (Bn.qM e) hd) (λd o' s' hd=>dL (.h b' i) d o' s' (λe=>by cases e) hd)
 ·subst e;exact hd ⟨b,o,s,hb⟩
 ·rw[dc _ _ _ _ _ hlen]at hl
  split at hl
  ·exact absurd hl (gj l r)
  ·exact hl
theorem Mem.write(hm:Mem cx ι h w){b c o s:Nat}(hb:ι b=some (c,o,s)){w':World}{blk:Blk}
 (dd:∀(d:Nat) (x:Obj),d≠c→w.heap[d]? =some x→w'.heap[d]? =some x) (cw:w.heap.size≤w'.heap.size)
 (dq:w'.os=w.os∧w'.output=w.output) (bq:bc ι.M w w' ι.M→RB w' ι (some (c,o,s)) blk) (lJ:(nth .dead h b).bare=true) (gj:∀l r,blk≠.gh l r:=by intro _ _ h;cases h) (jd:blk.bare=true:=by rfl):
 Mem cx ι (setNth h b blk) w'∧bc ι.M w w' ι.M:=hm.BM hb dd cw dq bq (λ_ _ i=>HB.bare jd ((hm.hr.hid b i).none lJ)) gj
theorem Mem.lay(hm:Mem cx ι h w){w':World}{c o s:Nat}{blk:Blk}(hc:w.heap.size≤c)
 (hold:∀(d:Nat) (x:Obj),w.heap[d]? =some x→w'.heap[d]? =some x)
 (dq:w'.os=w.os∧w'.output=w.output)
 (bq:bc ι.M w w' (ι.cF h.length (some (c,o,s))).M→(∀b p,ι b=some p→(ι.cF h.length (some (c,o,s))) b=some p)→RB w' (ι.cF h.length (some (c,o,s))) (some (c,o,s)) blk) (gj:∀l r,blk≠.gh l r:=by intro _ _ h;cases h) (jd:blk.bare=true:=by rfl):
 Mem cx (ι.cF h.length (some (c,o,s))) (h++[blk]) w'∧bc ι.M w w' (ι.cF h.length (some (c,o,s))).M∧
  ∀b p,ι b=some p→(ι.cF h.length (some (c,o,s))) b=some p:=by
 have aq:∀(b':Bn) q,ι b'=some q→b'.base≠h.length:=λb' q hq e=>by
  obtain⟨c',o',s'⟩:=q
  obtain⟨ob,_,hd⟩:=hm.hr.size hq
  rw[e]at hd
  exact absurd (hm.hr.fO hd) (acm _)
 have bh:∀b p,ι b=some p→(ι.cF h.length (some (c,o,s))) b=some p:=λb p hb=>by
  rw[az.gL _ _ (aq _ _ hb)]
  exact hb
 have cw:w.heap.size≤w'.heap.size:=Ext.size hold
 have vu:∀d,(ι.cF h.length (some (c,o,s))).I d→d=c∨ι.I d:=by
  rintro d ⟨b',o',s',a7⟩
  rcases az.mo a7 with⟨_,h1⟩|⟨_,h1⟩
  ·cases h1;exact .inl rfl
  ·exact .inr ⟨b',o',s',h1⟩
 have hL:bc ι.M w w' (ι.cF h.length (some (c,o,s))).M:=
  ⟨λd x _ hx=>hold d x hx,λd hd=>hd.elim (λhd=>(vu d hd).elim (λe=>.inr (e▸hc)) λh=>.inl (.inl h)) λh=>.inl (.inr h),cw⟩
 have dL:∀(b':Bn) d o' s',ι b'=some (d,o',s')→w'.heap[d]? =w.heap[d]?:=λb' d o' s' hd=>by
  obtain⟨ob,h1,_⟩:=hm.hr.size hd
  rw[h1,hold _ _ h1]
 refine⟨hm.step ⟨hm.hr.gl.later hL,λb'=>?_,λb1 b2 d o1 s1 o2 s2 h1 h2=>?_,λb1 d o1 s1 h1=>?_,λb' i=>?_⟩ (λd x _ hx=>hold d x hx) (λd hd=>?_) cw dq rfl rfl rfl rfl
  (λb' a7=>?_) (by rw[aa7];exact abg hm.kl (adL _ _)) (λl r hl=>?_),hL,bh⟩
 ·rw[pD]
  by_cases e:b'=h.length
  ·rw[aaS e];subst e;rw[az.oz];exact bq hL bh
  ·rw[aaR e,az.gL _ _ (n:=.v b') e]
   exact(hm.hr.blk b').later hL (λh=>h) bh λd o' s' hd=>dL _ _ _ _ hd
 ·have aq:∀b' d o' s',ι b'=some (d,o',s')→d≠c:=λb' d o' s' h3 e=>by
   have:=hm.hr.lt ⟨b',o',s',h3⟩;omega
  rcases az.mo h1 with⟨e1,g1⟩|⟨e1,g1⟩<;>rcases az.mo h2 with⟨e2,g2⟩|⟨e2,g2⟩
  ·rw[e1,e2]
  ·cases g1;exact absurd rfl (aq _ _ _ _ g2)
  ·cases g2;exact absurd rfl (aq _ _ _ _ g1)
  ·exact hm.hr.inj _ _ _ _ _ _ _ g1 g2
 ·rcases az.mo h1 with⟨e1,g1⟩|⟨e1,g1⟩
  ·cases g1
   intro hX;have:=hm.xl _ hX;omega
  ·exact hm.hr.cD _ _ _ _ g1
 ·rw[pD]
  by_cases e:b'=h.length
  ·rw[aaS e];subst e;exact HB.bare jd (az.BK _ _ _ _)
  ·rw[aaR e,az.gL _ _ (n:=.v b') e,az.gL _ _ (n:=.h b' i) e]
   exact(hm.hr.hid b' i).later hL (λd o' s' hd=>dL _ _ _ _ hd) (λd o' s' hd=>dL _ _ _ _ hd)
 ·rcases vu d hd with rfl|h1
  ·exact .inr hc
  ·exact .inl h1
 ·rw[az.gL]
  intro e;have e:b'=h.length:=e;subst e;have:=cx.fk _ a7;have:=hm.kl;omega
 ·rw[pD]at hl
  split at hl
  ·exact absurd hl (gj l r)
  ·exact hl
theorem GP(hr:bL ι h w){x:Blk}(hx:x.bare=true)(b i:Nat):HB w ι (ι (.v b)) (ι (.h b i)) i (nth .dead (h++[x]) b):=by
 rw[pD]
 split
 ·rename_i e
  have:=hr.hid b i
  rw[mg _ _ _ (by omega)]at this
  exact HB.bare hx this
 ·exact hr.hid b i
def az.gw(ι:az)(b i:Nat)(p:Option (Nat×Nat×Nat)):az:={ι with m:=λn=>if n=.h b i then p else ι n}
theorem az.vw(ι:az)(b i:Nat)(p:Option (Nat×Nat×Nat)):ι.gw b i p (.h b i)=p:=by simp[az.gw]
theorem az.oA(ι:az){b i:Nat}{n:Bn}(p:Option (Nat×Nat×Nat))(h:n≠.h b i):ι.gw b i p n=ι n:=by simp[az.gw,h]
theorem az.yj(ι:az){b i n:Nat}(p:Option (Nat×Nat×Nat)):ι.gw b i p (.v n)=ι (.v n):=ι.oA p (λe=>by cases e)
theorem az.pP{ι:az}{b i:Nat}{p:Option (Nat×Nat×Nat)}{n:Bn}{q:Nat×Nat×Nat}(h:ι.gw b i p n=some q):(n=.h b i∧p=some q)∨(n≠.h b i∧ι n=some q):=by
 by_cases e:n=.h b i
 ·subst e;rw[az.vw]at h;exact .inl ⟨rfl,h⟩
 ·rw[az.oA _ _ e]at h;exact .inr ⟨e,h⟩
theorem Bn.yk{b i:Nat}{x:Bn}(h:(Bn.h b i).hit x=false):x≠.h b i:=λe=>by subst e;simp[Bn.hit,Bn.hitH]at h
structure Alike(x y:Blk)(i wd:Nat)(rows:List (List PV))(t:Bool):Prop where
 cd:∀j,y.inner j=if j=i then some (wd,rows,t)else x.inner j
 rb:∀(w:World) (ι:az) p,RB w ι p x→RB w ι p y
 pv:∀(w:World) p j v,lE w p x j v→lE w p y j v
 gh:∀l r,y≠.gh l r
theorem Mem.inner(hm:Mem cx ι h w){b i wd:Nat}(hb:b<h.length){rows':List (List PV)}{blk:Blk}(ha:Alike (nth .dead h b) blk i wd rows' false){w':World}{q:Option (Nat×Nat×Nat)}{c:Nat}
 (hc:(∃o s,ι (.h b i)=some (c,o,s))∨w.heap.size≤c) (hp:∀c' o s,q=some (c',o,s)→c'=c)
 (dd:∀(d:Nat) (x:Obj),d≠c→w.heap[d]? =some x→w'.heap[d]? =some x) (cw:w.heap.size≤w'.heap.size)
 (dq:w'.os=w.os∧w'.output=w.output) (bq:bc ι.M w w' (ι.gw b i q).M→RB w' (ι.gw b i q) q (.pr wd rows')):
 Mem cx (ι.gw b i q) (setNth (killH (.h b i) h) b blk) w'∧bc ι.M w w' (ι.gw b i q).M:=by
 have j9:ι.I c∨w.heap.size≤c:=hc.imp (λ⟨o,s,h⟩=>⟨_,o,s,h⟩) id
 have hI:∀d,(ι.gw b i q).I d→d=c∨∃(b':Bn) (o s:Nat),b'≠.h b i∧ι b'=some (d,o,s):=by
  rintro d ⟨b',o,s,a7⟩
  rcases az.pP a7 with⟨_,h1⟩|⟨e,h1⟩
  ·exact .inl (hp _ _ _ h1)
  ·exact .inr ⟨b',o,s,e,h1⟩
 have hL:bc ι.M w w' (ι.gw b i q).M:=by
  refine⟨λd x hd hx=>dd d x (λe=>?_) hx,λd hd=>?_,cw⟩
  ·subst e
   rcases j9 with h1|h1
   ·exact hd (.inl h1)
   ·have:=(aa8.1 hx).1;omega
  ·rcases hd with hd|hd
   ·rcases hI d hd with rfl|⟨b',o,s,_,h1⟩
    ·exact j9.imp .inl id
    ·exact .inl (.inl ⟨b',o,s,h1⟩)
   ·exact .inl (.inr hd)
 have bh:∀b',(Bn.h b i).hit b'=false→∀p,ι b'=some p→(ι.gw b i q) b'=some p:=λb' e p hq=>by rw[az.oA _ _ (Bn.yk e)];exact hq
 have jx:∀(b':Bn) d o s,b'≠.h b i→ι b'=some (d,o,s)→d≠c:=by
  intro b' d o s e h1 e2
  subst e2
  rcases hc with⟨o2,s2,h2⟩|h2
  ·exact e (hm.hr.inj _ _ _ _ _ _ _ h1 h2)
  ·have:=hm.hr.lt ⟨b',o,s,h1⟩;omega
 have dL:∀(b':Bn) d o s,b'≠.h b i→ι b'=some (d,o,s)→w'.heap[d]? =w.heap[d]?:=λb' d o s e hd=>by
  have bg:=jx b' d o s e hd
  obtain⟨ob,h1,_⟩:=hm.hr.size hd
  rw[h1,dd _ _ bg h1]
 have hv:∀n:Nat,(Bn.v n)≠.h b i:=λn e=>by cases e
 refine⟨hm.step ⟨hm.hr.gl.later hL,λb'=>?_,λb1 b2 d o1 s1 o2 s2 h1 h2=>?_,λb1 d o1 s1 h1=>?_,λb' j=>?_⟩ (λd x hd hx=>dd d x (λe=>?_) hx) (λd hd=>?_) cw dq rfl rfl rfl rfl
  (λb' a7=>az.yj _ _) (by rw[eA,abp,fc];exact hm.kl) (λl r hl=>?_),hL⟩
 ·rw[dc _ _ _ _ _ (by rw[fc];exact hb),az.yj]
  have h0:=(hm.hr.blk b').kill (b:=.h b i) hL (λh=>h) bh λd o s hd=>dL (.v b') d o s (hv _) hd
  by_cases e:b'=b
  ·subst e;rw[aaS rfl]
   have h1:=(ha.rb w ι _ (hm.hr.blk b')).kill (b:=.h b' i) (aC:=ι.gw b' i q) hL (λh=>h) bh λd o s hd=>dL (.v b') d o s (hv _) hd
   have e3:blk.kill (.h b' i)=blk:=by
    have hi:=ha.cd i
    rw[aaS rfl]at hi
    cases blk<;>first|rfl|cases hi
   rw[e3]at h1;exact h1
  ·rw[aaR e,j0];exact h0
 ·rcases az.pP h1 with⟨e1,g1⟩|⟨e1,g1⟩<;>rcases az.pP h2 with⟨e2,g2⟩|⟨e2,g2⟩
  ·rw[e1,e2]
  ·have:=hp _ _ _ g1;subst this
   exact absurd rfl (jx _ _ _ _ e2 g2)
  ·have:=hp _ _ _ g2;subst this
   exact absurd rfl (jx _ _ _ _ e1 g1)
  ·exact hm.hr.inj _ _ _ _ _ _ _ g1 g2
 ·rcases az.pP h1 with⟨e1,g1⟩|⟨e1,g1⟩
  ·have:=hp _ _ _ g1
   subst this
   rcases hc with⟨o2,s2,h2⟩|h2
   ·exact hm.hr.cD _ _ _ _ h2
   ·intro hX;have:=hm.xl _ hX;omega
  ·exact hm.hr.cD _ _ _ _ g1
 ·rw[dc _ _ _ _ _ (by rw[fc];exact hb),az.yj]
  by_cases e:b'=b
  ·subst e
   rw[aaS rfl]
   unfold HB
   rw[ha.cd j]
   by_cases e2:j=i
   ·subst e2;rw[aaS rfl,az.vw];exact⟨bq hL,λh=>by cases h⟩
   ·rw[aaR e2,az.oA _ _ (λe=>e2 (by cases e;rfl))]
    have h0:=(hm.hr.hid b' j).later hL (λd o s hd=>dL (.v b') d o s (hv _) hd) (λd o s hd=>dL (.h b' j) d o s (λe=>e2 (by cases e;rfl)) hd)
    unfold HB at h0
    cases hx:(nth .dead h b').inner j with
    |none=>rw[hx]at h0;exact h0
    |some y=>
     obtain⟨GQ,GR,t⟩:=y
     rw[hx]at h0
     exact⟨h0.1,λht=>let ⟨v,v1,v2⟩:=h0.2 ht;⟨v,ha.pv _ _ _ _ v1,v2⟩⟩
  ·rw[aaR e,az.oA _ _ (λe2=>e (by cases e2;rfl)),j0]
   exact((hm.hr.hid b' j).later hL (λd o s hd=>dL (.v b') d o s (hv _) hd) (λd o s hd=>dL (.h b' j) d o s (λe2=>e (by cases e2;rfl)) hd)).kill _
 ·subst e
  rcases j9 with h1|h1
  ·exact hd h1
  ·have:=(aa8.1 hx).1;omega
 ·rcases hI d hd with rfl|⟨b',o,s,_,h1⟩
  ·exact j9
  ·exact .inl ⟨b',o,s,h1⟩
 ·rw[dc _ _ _ _ _ (by rw[fc];exact hb)]at hl
  split at hl
  ·exact absurd hl (ha.gh l r)
  ·rw[j0]at hl;exact vt hl
theorem Mem.stay(hm:Mem cx ι h w){b i wd c o s:Nat}{rows rows':List (List PV)}{t:Bool}{blk:Blk}(a_:(nth .dead h b).inner i=some (wd,rows,t))(ha:Alike (nth .dead h b) blk i wd rows' t)(hlen:rows'.length=rows.length)
 (hc:ι (.h b i)=some (c,o,s)) {w':World} (dd:∀(d:Nat) (x:Obj),d≠c→w.heap[d]? =some x→w'.heap[d]? =some x) (cw:w.heap.size≤w'.heap.size)
 (dq:w'.os=w.os∧w'.output=w.output) (bq:bc ι.M w w' ι.M→RB w' ι (some (c,o,s)) (.pr wd rows')):
 Mem cx ι (setNth h b blk) w'∧bc ι.M w w' ι.M:=by
 have hb:b<h.length:=by
  obtain⟨ob,_,hd⟩:=hm.hr.size hc
  exact hm.hr.fO hd
 have hL:bc ι.M w w' ι.M:=⟨λd x hd hx=>dd d x (λe=>hd (e▸.inl ⟨.h b i,o,s,hc⟩)) hx,λd hd=>.inl hd,cw⟩
 have dL:∀(b':Bn) d o' s',b'≠.h b i→ι b'=some (d,o',s')→w'.heap[d]? =w.heap[d]?:=λb' d o' s' e hd=>by
  have bg:d≠c:=λe2=>by subst e2;exact e (hm.hr.inj _ _ _ _ _ _ _ hd hc)
  obtain⟨ob,h1,_⟩:=hm.hr.size hd
  rw[h1,dd _ _ bg h1]
 have hv:∀n:Nat,(Bn.v n)≠.h b i:=λn e=>by cases e
 refine⟨hm.step ⟨hm.hr.gl.later hL,λb'=>?_,hm.hr.inj,hm.hr.cD,λb' j=>?_⟩ (λd x hd hx=>dd d x (λe=>?_) hx) (λd hd=>.inl hd) cw dq rfl rfl rfl rfl
  (λb' a7=>rfl) (by rw[eA,abp];exact hm.kl) (λl r hl=>?_),hL⟩
 ·rw[dc _ _ _ _ _ hb]
  have h0:=(hm.hr.blk b').later hL (λh=>h) (λ_ _ h=>h) λd o' s' hd=>dL (.v b') d o' s' (hv _) hd
  by_cases e:b'=b
  ·subst e;rw[aaS rfl];exact ha.rb _ _ _ h0
  ·rw[aaR e];exact h0
 ·rw[dc _ _ _ _ _ hb]
  by_cases e:b'=b
  ·subst e
   rw[aaS rfl]
   have h1:=hm.hr.hid b' j
   by_cases e2:j=i
   ·subst e2
    unfold HB at h1 ⊢
    rw[a_]at h1
    rw[ha.cd j,aaS rfl,hc]
    refine⟨bq hL,λht=>?_⟩
    obtain⟨v,v1,v2⟩:=h1.2 ht
    rw[hc]at v2
    exact⟨v,ha.pv _ _ _ _ (v1.later λc' o' s' hd=>dL (.v b') c' o' s' (hv _) hd),by rw[hlen];exact v2⟩
   ·have h0:=h1.later hL (λd o s hd=>dL (.v b') d o s (hv _) hd) (λd o s hd=>dL (.h b' j) d o s (λe=>e2 (by cases e;rfl)) hd)
    unfold HB at h0 ⊢
    rw[ha.cd j,aaR e2]
    cases hx:(nth .dead h b').inner j with
    |none=>rw[hx]at h0;exact h0
    |some y=>
     obtain⟨GQ,GR,t2⟩:=y
     rw[hx]at h0
     exact⟨h0.1,λht=>let ⟨v,v1,v2⟩:=h0.2 ht;⟨v,ha.pv _ _ _ _ v1,v2⟩⟩
  ·rw[aaR e]
   exact(hm.hr.hid b' j).later hL (λd o s hd=>dL (.v b') d o s (hv _) hd) (λd o s hd=>dL (.h b' j) d o s (λe2=>e (by cases e2;rfl)) hd)
 ·subst e;exact hd ⟨.h b i,o,s,hc⟩
 ·rw[dc _ _ _ _ _ hb]at hl
  split at hl
  ·exact absurd hl (ha.gh l r)
  ·exact hl
def az.j_(ι:az)(b:Nat)(p:Option (Nat×Nat×Nat)):az:={ι with m:=λn=>if n=.v b then p else ι n}
theorem az.ym(ι:az)(b:Nat)(p:Option (Nat×Nat×Nat)):ι.j_ b p (.v b)=p:=by simp[az.j_]
theorem az.q7(ι:az){b:Nat}{n:Bn}(p:Option (Nat×Nat×Nat))(h:n≠.v b):ι.j_ b p n=ι n:=by simp[az.j_,h]
theorem az.Ou(ι:az){b n i:Nat}(p:Option (Nat×Nat×Nat)):ι.j_ b p (.h n i)=ι (.h n i):=ι.q7 p (λe=>by cases e)
theorem az.yn{ι:az}{b:Nat}{p:Option (Nat×Nat×Nat)}{n:Bn}{q:Nat×Nat×Nat}(h:ι.j_ b p n=some q):(n=.v b∧p=some q)∨(n≠.v b∧ι n=some q):=by
 by_cases e:n=.v b
 ·subst e;rw[az.ym]at h;exact .inl ⟨rfl,h⟩
 ·rw[az.q7 _ _ e]at h;exact .inr ⟨e,h⟩
theorem Mem.outer(hm:Mem cx ι h w){b wo wd n:Nat}{cells:List (Bool×List (List PV))}(hn:nth .dead h b=.pn wo wd cells none)(gM:cx.E.fx b=false){w':World}{q:Option (Nat×Nat×Nat)}{c:Nat}
 (hc:(∃o s,ι (.v b)=some (c,o,s))∨w.heap.size≤c) (hp:∀c' o s,q=some (c',o,s)→c'=c)
 (dd:∀(d:Nat) (x:Obj),d≠c→w.heap[d]? =some x→w'.heap[d]? =some x) (cw:w.heap.size≤w'.heap.size)
 (dq:w'.os=w.os∧w'.output=w.output) (bq:bc ι.M w w' (ι.j_ b q).M→RB w' (ι.j_ b q) q (.pn wo wd (cells++List.replicate n (true,[])) none))
 (Ov:∀i v,i<cells.length→lE w (ι (.v b)) (.pn wo wd cells none) i v→lE w' q (.pn wo wd (cells++List.replicate n (true,[])) none) i v)
 (eD:∀i,cells.length≤i→i<cells.length+n→∃oa,lE w' q (.pn wo wd (cells++List.replicate n (true,[])) none) i (.slice oa 0 0)):
 Mem cx (ι.j_ b q) (setNth (killH b h) b (.pn wo wd (cells++List.replicate n (true,[])) none)) w'∧bc ι.M w w' (ι.j_ b q).M:=by
 have hb:b<h.length:=hm.hr.fO (by rw[hn];simp)
 have j9:ι.I c∨w.heap.size≤c:=hc.imp (λ⟨o,s,h⟩=>⟨_,o,s,h⟩) id
 have hI:∀d,(ι.j_ b q).I d→d=c∨∃(b':Bn) (o s:Nat),b'≠.v b∧ι b'=some (d,o,s):=by
  rintro d ⟨b',o,s,a7⟩
  rcases az.yn a7 with⟨_,h1⟩|⟨e,h1⟩
  ·exact .inl (hp _ _ _ h1)
  ·exact .inr ⟨b',o,s,e,h1⟩
 have hL:bc ι.M w w' (ι.j_ b q).M:=by
  refine⟨λd x hd hx=>dd d x (λe=>?_) hx,λd hd=>?_,cw⟩
  ·subst e
   rcases j9 with h1|h1
   ·exact hd (.inl h1)
   ·have:=(aa8.1 hx).1;omega
  ·rcases hd with hd|hd
   ·rcases hI d hd with rfl|⟨b',o,s,_,h1⟩
    ·exact j9.imp .inl id
    ·exact .inl (.inl ⟨b',o,s,h1⟩)
   ·exact .inl (.inr hd)
 have bh:∀b',(Bn.v b).hit b'=false→∀p,ι b'=some p→(ι.j_ b q) b'=some p:=λb' e p hq=>by
  rw[az.q7 _ _ (λe2=>Bn.oh e (by rw[e2];rfl))];exact hq
 have jx:∀(b':Bn) d o s,b'≠.v b→ι b'=some (d,o,s)→d≠c:=by
  intro b' d o s e h1 e2
  subst e2
  rcases hc with⟨o2,s2,h2⟩|h2
  ·exact e (hm.hr.inj _ _ _ _ _ _ _ h1 h2)
  ·have:=hm.hr.lt ⟨b',o,s,h1⟩;omega
 have dL:∀(b':Bn) d o s,b'≠.v b→ι b'=some (d,o,s)→w'.heap[d]? =w.heap[d]?:=λb' d o s e hd=>by
  have bg:=jx b' d o s e hd
  obtain⟨ob,h1,_⟩:=hm.hr.size hd
  rw[h1,dd _ _ bg h1]
 have hh:∀n i:Nat,(Bn.h n i)≠.v b:=λn i e=>by cases e
 refine⟨hm.step ⟨hm.hr.gl.later hL,λb'=>?_,λb1 b2 d o1 s1 o2 s2 h1 h2=>?_,λb1 d o1 s1 h1=>?_,λb' j=>?_⟩ (λd x hd hx=>dd d x (λe=>?_) hx) (λd hd=>?_) cw dq rfl rfl rfl rfl
  (λb' a7=>az.q7 _ _ (Bn.qM λe=>by subst e;rw[gM]at a7;cases a7)) (by rw[eA,abp,fc];exact hm.kl) (λl r hl=>?_),hL⟩
 ·rw[dc _ _ _ _ _ (by rw[fc];exact hb)]
  by_cases e:b'=b
  ·subst e;rw[aaS rfl,az.ym];exact bq hL
  ·rw[aaR e,j0,az.q7 _ _ (Bn.qM e)]
   exact(hm.hr.blk b').kill hL (λh=>h) bh λd o s hd=>dL (.v b') d o s (Bn.qM e) hd
 ·rcases az.yn h1 with⟨e1,g1⟩|⟨e1,g1⟩<;>rcases az.yn h2 with⟨e2,g2⟩|⟨e2,g2⟩
  ·rw[e1,e2]
  ·have:=hp _ _ _ g1;subst this
   exact absurd rfl (jx _ _ _ _ e2 g2)
  ·have:=hp _ _ _ g2;subst this
   exact absurd rfl (jx _ _ _ _ e1 g1)
  ·exact hm.hr.inj _ _ _ _ _ _ _ g1 g2
 ·rcases az.yn h1 with⟨e1,g1⟩|⟨e1,g1⟩
  ·have:=hp _ _ _ g1
   subst this
   rcases hc with⟨o2,s2,h2⟩|h2
   ·exact hm.hr.cD _ _ _ _ h2
   ·intro hX;have:=hm.xl _ hX;omega
  ·exact hm.hr.cD _ _ _ _ g1
 ·rw[dc _ _ _ _ _ (by rw[fc];exact hb),az.Ou]
  by_cases e:b'=b
  ·subst e
   rw[aaS rfl,az.ym]
   have h0:=hm.hr.hid b' j
   unfold HB at h0 ⊢
   rw[hn]at h0
   simp only[Blk.inner]at h0 ⊢
   by_cases hj:j<cells.length
   ·rw[abm hj]
    cases hx:cells[j]? with
    |none=>rw[hx]at h0;exact h0
    |some y=>
     obtain⟨fl,rows⟩:=y
     rw[hx]at h0
     cases fl with
     |false=>exact h0
     |true=>
      exact⟨h0.1.kL hL λd o s hd=>dL _ d o s (hh _ _) hd,λht=>let ⟨v,v1,v2⟩:=h0.2 ht;⟨v,Ov _ _ hj v1,v2⟩⟩
   ·rw[abq (by omega)]
    rw[aa4 (by omega)]at h0
    by_cases Ow:j<cells.length+n
    ·rw[acd,aaS (by omega)]
     obtain⟨oa,hv⟩:=eD j (by omega) Ow
     have h0:ι (.h b' j)=none:=h0
     exact⟨.inl ⟨h0,rfl⟩,λ_=>⟨_,hv,.inr ⟨rfl,oa,rfl⟩⟩⟩
    ·rw[acd,aaR (by omega)];exact h0
  ·rw[aaR e,az.q7 _ _ (Bn.qM e),j0]
   exact((hm.hr.hid b' j).later hL (λd o s hd=>dL (.v b') d o s (Bn.qM e) hd) (λd o s hd=>dL (.h b' j) d o s (hh _ _) hd)).kill _
 ·subst e
  rcases j9 with h1|h1
  ·exact hd h1
  ·have:=(aa8.1 hx).1;omega
 ·rcases hI d hd with rfl|⟨b',o,s,_,h1⟩
  ·exact j9
  ·exact .inl ⟨b',o,s,h1⟩
 ·rw[dc _ _ _ _ _ (by rw[fc];exact hb)]at hl
  split at hl
  ·cases hl
  ·rw[j0]at hl;exact vt hl
theorem Mem.GS(hm:Mem cx ι h w){m b i wd i0 len:Nat}{cap:Option Nat}{rows:List (List PV)}(jN:m≠b)(iG:nth .dead h m=.pr wd rows)(vy:cx.E.fx m=false)(hb:b<h.length){v:Value}
 (hv:RA w ι (.sl m wd i0 len cap) v) (hl:i0+len=rows.length) {blk:Blk} {t:Bool} (ha:Alike (nth .dead h b) blk i wd (rows.drop i0) t) (ht:t=true→lE w (ι (.v b)) blk i v):
 ∃aC:az,Mem cx aC (setNth (setNth (killH m (killH (.h b i) h)) m .dead) b blk) w∧bc ι.M w w aC.M∧RA w aC (.cd b wd i len) v∧(aC (.v b)=ι (.v b)∧aC.D=ι.D)∧(∀x u,RA w ι x u→RA w aC ((x.kill (.h b i)).kill m) u):=by
 have Ox:m<h.length:=hm.hr.fO (by rw[iG];simp)
 have hd:(rows.drop i0).length=len:=by simp;omega
 obtain⟨q,gY,Oy,GU⟩:∃q:Option (Nat×Nat×Nat),(∀c o s,q=some (c,o,s)→∃o' s',ι (.v m)=some (c,o',s'))∧RB w ι q (.pr wd (rows.drop i0))∧pC q wd len v:=by
  have bq:=hm.hr.blk m
  rw[iG]at bq
  cases hv with
  |db aR=>exact⟨none,by simp,.inl ⟨rfl,abf hd⟩,.inr ⟨rfl,_,rfl⟩⟩
  |sl gZ hle aR hs=>
   rename_i c o s cc
   rw[gZ]at bq
   rcases bq with⟨h0,_⟩|⟨c',o',s',cs,ty,fz,he,h1,h2,h3,h4,h5,h6⟩
   ·cases h0
   cases he
   refine⟨some (c,o+i0*wd,s),λc1 o1 s1 e=>by cases e;exact⟨_,_,gZ⟩,.inr ⟨c,o+i0*wd,s,cs,ty,fz,rfl,h1,h2,h3,?_,λn row hn=>?_,λn row j x hn hx=>?_⟩,.inl ⟨c,o+i0*wd,s,cc,rfl,rfl,hle,?_⟩⟩
   ·have e:rows.length*wd=i0*wd+(rows.drop i0).length*wd:=by rw[hd,←aa6,hl]
    omega
   ·rw[abJ]at hn;exact h5 _ _ hn
   ·rw[abJ]at hn
    obtain⟨g1,u,g2,g3⟩:=h6 _ _ _ _ hn hx
    exact⟨g1,u,by rw[←g2];congr 1;rw[aa6];omega,g3⟩
   ·rw[aa6]at hs;omega
 let oB:=ι.gw b i q
 let bZ:=oB.cF m none
 have BN:∀c,oB.I c→ι.I c:=by
  rintro c ⟨x,o,s,hx⟩
  rcases az.pP hx with⟨_,h1⟩|⟨_,h1⟩
  ·obtain⟨o',s',h2⟩:=gY _ _ _ h1;exact⟨_,_,_,h2⟩
  ·exact⟨_,_,_,h1⟩
 have yp:∀x p,bZ x=some p→x.base≠m∧oB x=some p:=λx p hx=>by
  rcases az.mo hx with⟨_,h2⟩|h2
  ·cases h2
  ·exact h2
 have BO:∀c,bZ.I c→oB.I c:=λc ⟨x,o,s,hx⟩=>⟨x,o,s,(yp _ _ hx).2⟩
 have BP:bc ι.M w w oB.M:=⟨λ_ _ _ h=>h,λc hc=>.inl (hc.imp (BN c) id),aaV _⟩
 have mw:bc oB.M w w bZ.M:=⟨λ_ _ _ h=>h,λc hc=>.inl (hc.imp (BO c) id),aaV _⟩
 have hL:bc ι.M w w bZ.M:=⟨λ_ _ _ h=>h,λc hc=>.inl (hc.imp (λh=>BN c (BO c h)) id),aaV _⟩
 have BQ:∀n,(Bn.h b i).hit n=false→∀p,ι n=some p→oB n=some p:=λn hn p hp=>by
  show ι.gw b i q n=_
  rw[az.oA _ _ (Bn.yk hn)];exact hp
 have pQ:∀n,(Bn.v m).hit n=false→∀p,oB n=some p→bZ n=some p:=λn hn p hp=>by
  show oB.cF m none n=_
  rw[az.gL _ _ (Bn.oh hn)];exact hp
 have sX:∀n:Nat,n≠m→bZ (.v n)=ι (.v n):=λn hn=>by
  show(ι.gw b i q).cF m none (.v n)=_
  rw[az.gL _ _ (n:=.v n) hn,az.yj]
 have Oz:bZ (.v m)=none:=az.oz _ _ _
 have GV:∀n j:Nat,n≠m→¬(n=b∧j=i)→bZ (.h n j)=ι (.h n j):=λn j hn hj=>by
  show(ι.gw b i q).cF m none (.h n j)=_
  rw[az.gL _ _ (n:=.h n j) hn,az.oA _ _ (λe=>hj (by cases e;exact⟨rfl,rfl⟩))]
 have GW:bZ (.h b i)=q:=by
  show(ι.gw b i q).cF m none (.h b i)=_
  rw[az.gL _ _ (n:=.h b i) (abx jN),az.vw]
 have kP:∀n,nth .dead (setNth (setNth (killH m (killH (.h b i) h)) m .dead) b blk) n=if n=b then blk else if n=m then .dead else((nth .dead h n).kill (.h b i)).kill m:=λn=>by
  rw[dc _ _ _ _ _ (by rw[eA,abp,fc,fc];exact hb)]
  by_cases e:n=b
  ·rw[aaS e,aaS e]
  ·rw[aaR e,aaR e,dc _ _ _ _ _ (by rw[fc,fc];exact Ox)]
   by_cases e2:n=m
   ·rw[aaS e2,aaS e2]
   ·rw[aaR e2,aaR e2,j0,j0]
 have dN:∀k:Bn,blk.kill k=blk:=λk=>by
  have hi:=ha.cd i
  rw[aaS rfl]at hi
  cases blk<;>first|rfl|cases hi
 refine⟨bZ,hm.step ⟨hm.hr.gl.later hL,λn=>?_,λx y c o s o' s' h1 h2=>?_,λx c o s h1=>?_,λn j=>?_⟩ (λd x hd hx=>hx) (λd hd=>.inl (BN d (BO d hd))) (aaV _) ⟨rfl,rfl⟩ rfl rfl rfl rfl
  (λn hn=>sX n (λe=>by subst e;rw[vy]at hn;cases hn)) (by rw[eA,abp,eA,abp,fc,fc];exact hm.kl) (λl r hl=>?_),hL,?_,⟨sX b (abx jN),rfl⟩,λx u hx=>((hx.kill BP BQ).kill mw pQ)⟩
 ·rw[kP]
  by_cases e:n=b
  ·subst e
   rw[aaS rfl,sX n (abx jN)]
   have:=((ha.rb w ι _ (hm.hr.blk n)).kill (b:=.h n i) BP (λh=>h) BQ λ_ _ _ _=>rfl).kill (b:=.v m) mw (λh=>h) pQ λ_ _ _ _=>rfl
   rw[dN,dN]at this
   exact this
  ·rw[aaR e]
   by_cases e2:n=m
   ·subst e2;rw[aaS rfl,Oz];rfl
   ·rw[aaR e2,sX n e2]
    exact((hm.hr.blk n).kill (b:=.h b i) BP (λh=>h) BQ λ_ _ _ _=>rfl).kill (b:=.v m) mw (λh=>h) pQ λ_ _ _ _=>rfl
 ·obtain⟨g1,g2⟩:=yp _ _ h1
  obtain⟨g3,g4⟩:=yp _ _ h2
  rcases az.pP g2 with⟨a1,a2⟩|⟨a1,a2⟩<;>rcases az.pP g4 with⟨a3,a4⟩|⟨a3,a4⟩
  ·rw[a1,a3]
  ·obtain⟨o2,s2,h5⟩:=gY _ _ _ a2
   exact absurd (by rw[hm.hr.inj _ _ _ _ _ _ _ a4 h5];rfl) g3
  ·obtain⟨o2,s2,h5⟩:=gY _ _ _ a4
   exact absurd (by rw[hm.hr.inj _ _ _ _ _ _ _ a2 h5];rfl) g1
  ·exact hm.hr.inj _ _ _ _ _ _ _ a2 a4
 ·obtain⟨g1,g2⟩:=yp _ _ h1
  rcases az.pP g2 with⟨a1,a2⟩|⟨a1,a2⟩
  ·obtain⟨o2,s2,h5⟩:=gY _ _ _ a2
   exact hm.hr.cD _ _ _ _ h5
  ·exact hm.hr.cD _ _ _ _ a2
 ·rw[kP]
  by_cases e:n=b
  ·subst e
   rw[aaS rfl,sX n (abx jN)]
   unfold HB
   rw[ha.cd j]
   by_cases e2:j=i
   ·subst e2
    rw[aaS rfl,GW]
    exact⟨Oy.kL hL (λ_ _ _ _=>rfl),λh=>⟨v,ht h,by rw[hd];exact GU⟩⟩
   ·rw[aaR e2,GV n j (abx jN) (λh=>e2 h.2)]
    have h0:=(hm.hr.hid n j).later hL (λ_ _ _ _=>rfl) (λ_ _ _ _=>rfl)
    unfold HB at h0
    cases hx:(nth .dead h n).inner j with
    |none=>rw[hx]at h0;exact h0
    |some y=>
     obtain⟨GQ,GR,t2⟩:=y
     rw[hx]at h0
     exact⟨h0.1,λht=>let ⟨v,v1,v2⟩:=h0.2 ht;⟨v,ha.pv _ _ _ _ v1,v2⟩⟩
  ·rw[aaR e]
   by_cases e2:n=m
   ·subst e2;rw[aaS rfl];exact HB.bare rfl (az.BK _ _ _ _)
   ·rw[aaR e2,sX n e2,GV n j e2 (λh=>e h.1)]
    exact(((hm.hr.hid n j).later hL (λ_ _ _ _=>rfl) (λ_ _ _ _=>rfl)).kill _).kill _
 ·rw[kP]at hl
  split at hl
  ·exact absurd hl (ha.gh l r)
  ·split at hl
   ·cases hl
   ·exact vt (vt hl)
 ·rcases GU with⟨c',o',s',cc,q1,q2,ql,qs⟩|⟨q1,oa,q2⟩
  ·rw[q2];exact .cd (GW.trans q1) ql qs
  ·rw[q2,q1];exact .iC
theorem Mem.same(hm:Mem cx ι h w){w':World}(hh:w'.heap=w.heap)(dq:w'.os=w.os∧w'.output=w.output):Mem cx ι h w':=by
 have hL:bc ι.M w w' ι.M:=⟨λc o _ hc=>by rw[hh];exact hc,λc hc=>.inl hc,by rw[hh];exact aaV _⟩
 exact hm.step ⟨hm.hr.gl.later hL,λb=>(hm.hr.blk b).later hL (λh=>h) (λ_ _ h=>h) λc o s _=>by rw[hh],hm.hr.inj,hm.hr.cD,λb i=>(hm.hr.hid b i).later hL (λc o s _=>by rw[hh]) (λc o s _=>by rw[hh])⟩ (λc o _ hc=>by rw[hh];exact hc) (λc hc=>.inl hc)
  (by rw[hh];exact aaV _) dq rfl rfl rfl rfl (λ_ _=>rfl) hm.kl (λ_ _ h=>h)
end
theorem jf{w w':World}{ι aC:az}{t:List (Nat×AV)}{a:Act}(hL:bc ι.M w w' aC.M)(bh:∀b p,ι b=some p→aC b=some p)
 (h:∀s,RA w ι (lk t s) (a.tmps.getD s undef)):∀s,RA w' aC (lk t s) (a.tmps.getD s undef):=λs=>(h s).later hL bh
theorem oC{w w':World}{ι aC:az}{t:List (Nat×AV)}{a:Act}{b:Bn}(hL:bc ι.M w w' aC.M)(bh:∀b',b.hit b'=false→∀p,ι b'=some p→aC b'=some p)
 (h:∀s,RA w ι (lk t s) (a.tmps.getD s undef)):∀s,RA w' aC (lk (killT b t) s) (a.tmps.getD s undef):=λs=>by
 rw[qO];exact(h s).kill hL bh
section
variable {cx:Cx} {ι:az} {st:St} {a:Act} {w:World}
def g_(cx:Cx)(q:Bool)(w:World)(k:St→Prop)(a':Act)(w':World):Prop:=Kc cx k a' w'∧(q=true→Ext w w')
theorem dO{P:Program}{o:Oper}{K:Act→World→Prop}{Q:Exit→Act→World→Prop}{v:Value}{w':World}
 (h:(execOp a.eval o).run P w=.ok (.value v) w') (hk:K (a.put o.dst v) w'):o.wp P a w K Q:=by
 unfold Oper.wp;rw[h];exact hk
theorem nw{P:Program}{o:Oper}{K:Act→World→Prop}{Q:Exit→Act→World→Prop}{w':World}
 (h:(execOp a.eval o).run P w=.ok .skip w') (hk:K (a.put o.dst undef) w'):o.wp P a w K Q:=by
 unfold Oper.wp;rw[h];exact hk
theorem GX(b:Nat)(h:List Blk)(x:Blk):(setNth (killH b h) b x).length=h.length:=by
 rw[eA];simp[fc]
theorem jv.blk{cells:List AV}{cs:Array Value}(h:jv w ι cells cs):fE w ι cs 0 (.mx cells):=by
 refine⟨by have:=h.1;omega,λj x hx=>?_⟩
 obtain⟨h1,h2⟩:=h.2 j x hx
 have aq:j<cs.size:=by rw[h.1];exact(aaW.1 hx).1
 refine⟨cs[j],by simp[aq],?_,?_⟩
 ·simpa [aq]using h1
 ·simpa [aq]using h2
theorem jv.row{ps:List PV}{cs:Array Value}(h:jv w ι (ps.map .p) cs):fE w ι cs 0 (.pr ps.length [ps]):=by
 refine⟨by have:=h.1;simp at this ⊢;omega,λi row hi=>?_,λi row j x hi hx=>?_⟩
 ·cases i<;>simp at hi
  subst hi;rfl
 ·cases i<;>simp at hi
  subst hi
  have gd:(ps.map AV.p)[j]? =some (.p x):=by simp[hx]
  obtain⟨h1,h2⟩:=h.2 j _ gd
  have aq:j<cs.size:=by rw[h.1];exact(aaW.1 gd).1
  have hr:=gW h2
  exact⟨hr.pI h1,cs.getD j undef,by simp[aq],hr⟩
theorem vz(hr:Rel cx ι st a w){d:Option Nat}(hd:∀t,d=some t→cx.bw t=true){cs:Array Value}{ty:TypeId}{blk:Blk}{wd:Nat}{k:St→Prop}{q:Bool}
 (hb:fE w ι cs 0 blk) (hk:k (iX st d (.ptr st.heap.length wd 0 0) blk)):
 g_ cx q w k (a.put d (.pointer (some ⟨w.heap.size,0,none⟩))) (dD w (.cells cs ty)):=by
 have jg:(dD w (.cells cs ty)).heap[w.heap.size]? =some (.cells cs ty (0,0)):=nv _ _
 have OA:kK cs.size (0,0):=λo _ h=>by omega
 obtain⟨hm,hL,bh⟩:=hr.mem.lay (w':=dD w (.cells cs ty)) (c:=w.heap.size) (o:=0) (s:=cs.size) (blk:=blk) (aaV _) (j8 w _) ⟨rfl,rfl⟩
  (λhL bh=>(hb.later hL bh).rb jg OA) (λl r e=>by subst e;exact hb) hb.bare
 refine⟨⟨_,_,⟨?_,sJ (st:=⟨st.tmps,st.heap++[blk]⟩) (jf hL bh hr.tm) hr.sz.1 (λt ht=>cx.eI t (hd t ht)) ?_,Sz.put hr.sz hd _,by rw[Act.sI];exact hr.df⟩,hk⟩,λ_=>j8 w _⟩
 ·rw[pE];exact hm
 ·have:=RA.ptr (w:=dD w (.cells cs ty)) (ι:=ι.cF st.heap.length (some (w.heap.size,0,cs.size))) (wd:=wd) (i:=0) (j:=0) (az.oz _ _ _)
  simpa using this
theorem OB(hr:Rel cx ι st a w){o:Oper}{e:TypeId}{z:List PV}{arr:Bool}(ho:o.op=.alloc e)(hz:zeroT cx.P e=some z)(hd:∀t,o.dst=some t→cx.bw t=true)
 {q:Bool} {k:St→Prop} (h:iB cx.E q (.alloc arr z) o.dst st k) {Q:Exit→Act→World→Prop}:o.wp cx.P a w (g_ cx q w k) Q:=by
 obtain⟨i,v,hi,sR,ja,qZ,oD⟩:=qT (w:=w) (ι:=ι) hz
 have aT:(execOp a.eval o).run cx.P w=.ok (.value (.pointer (some ⟨w.heap.size,0,none⟩))) (dD w (.cells v.cells e)):=by
  simp[execOp,ho,Instr.alloc,oq hi sR,newVar,newRow]
  rfl
 refine dO aT (vz hr hd ?_ h)
 cases arr with
 |true=>exact ja.row
 |false=>exact ja.blk
theorem OC(hr:Rel cx ι st a w){o:Oper}{e:TypeId}{z rest:List PV}{n:Nat}{z0:PV}(ho:o.op=.alloc e)(hz:zeroT cx.P e=some z)(hn:n≤z.length)(cr:(z.take n).all (eqPV z0)=true)(pM:z.drop n=rest)(hd:∀t,o.dst=some t→cx.bw t=true)
 {q:Bool} {k:St→Prop} (h:iB cx.E q (.sy n z0 rest) o.dst st k) {Q:Exit→Act→World→Prop}:o.wp cx.P a w (g_ cx q w k) Q:=by
 obtain⟨i,v,hi,sR,ja,qZ,oD⟩:=qT (w:=w) (ι:=ι) hz
 have aT:(execOp a.eval o).run cx.P w=.ok (.value (.pointer (some ⟨w.heap.size,0,none⟩))) (dD w (.cells v.cells e)):=by
  simp[execOp,ho,Instr.alloc,oq hi sR,newVar,newRow]
  rfl
 refine dO aT (vz hr hd ?_ h)
 have e1:List.replicate n z0=z.take n:=by
  symm
  rw[adG]
  refine⟨by simp;omega,λx hx=>?_⟩
  exact(Gj (abl.1 cr x hx)).symm
 have e2:(List.replicate n z0).map AV.p++rest.map AV.p=z.map AV.p:=by
  rw[e1,←pM,←abo,ab_]
 have hb:=ja.blk
 refine⟨by simp,?_⟩
 rw[e2]
 exact hb
theorem BR:∀l:List PV,allP (l.map .p)=some l
 |[]=>rfl
 |x::r=>by simp[allP,BR r]
theorem OD{x:AV}{k:List PV→Prop}(h:A_ x k):qK (cellsOf x) k:=by
 unfold A_ at h
 split at h
 ·rename_i l;unfold qK;simp[cellsOf,BR,h]
 ·exact h
theorem OE(hr:Rel cx ι st a w){o:Oper}{e:TypeId}{x:Operand}{x':aS}{n sz:Nat}(ho:o.op=.box e x)(hx:cOpd x=some x')(hd:∀t,o.dst=some t→cx.bw t=true)
 {q:Bool} {k:St→Prop} (h:iB cx.E q (.uT n x' sz) o.dst st k) {Q:Exit→Act→World→Prop}:o.wp cx.P a w (g_ cx q w k) Q:=by
 have hv:=bt hr.mem.hr.gl hr.tm hx
 have aT:(execOp a.eval o).run cx.P w=.ok (.value (.pointer (some ⟨w.heap.size,0,none⟩))) (dD w (.cells (a.eval x).cells e)):=by
  simp[execOp,ho,Instr.box,newVar,newRow]
  rfl
 obtain⟨arr,rest,hc,⟨aZ,hn,bM⟩,h⟩:=h
 have ja:jv w ι (cellsOf (ev st x')) (a.eval x).cells:=pL aZ hv
 have hb:=ja.blk
 rw[hc]at hb
 exact dO aT (vz (blk:=.ax n arr rest) hr hd ⟨hn,hb⟩ h)
theorem OF(hr:Rel cx ι st a w){o:Oper}{e:TypeId}{x:Operand}{x':aS}{sz:Nat}{arr:Bool}(ho:o.op=.box e x)(hx:cOpd x=some x')(hd:∀t,o.dst=some t→cx.bw t=true)
 {q:Bool} {k:St→Prop} (h:iB cx.E q (.box arr x' sz) o.dst st k) {Q:Exit→Act→World→Prop}:o.wp cx.P a w (g_ cx q w k) Q:=by
 have hv:=bt hr.mem.hr.gl hr.tm hx
 have aT:(execOp a.eval o).run cx.P w=.ok (.value (.pointer (some ⟨w.heap.size,0,none⟩))) (dD w (.cells (a.eval x).cells e)):=by
  simp[execOp,ho,Instr.box,newVar,newRow]
  rfl
 have h:xR arr sz o.dst st (ev st x') k:=dj (k:=λv=>xR arr sz o.dst st v k) h
 unfold xR at h
 cases arr with
 |true=>
  have h:=OD h
  simp only[qK]at h
  split at h
  ·rename_i ps hp
   obtain⟨bM,h⟩:=h
   have aZ:vok (ev st x')=true:=by
    generalize ev st x'=y at hp
    cases y<;>first|rfl|(simp[cellsOf,allP]at hp)
   have ja:jv w ι (cellsOf (ev st x')) (a.eval x).cells:=pL aZ hv
   rw[vg hp]at ja
   subst bM
   exact dO aT (vz hr hd ja.row h)
  ·exact h.elim
 |false=>
  simp only at h
  cases hb:(vok (ev st x')&&Nat.beq (cellsOf (ev st x')).length sz)with
  |false=>rw[hb]at h;exact h.elim
  |true=>
   rw[hb]at h
   simp only[aa2]at hb
   have ja:jv w ι (cellsOf (ev st x')) (a.eval x).cells:=pL hb.1 hv
   exact dO aT (vz hr hd ja.blk h)
theorem nA{P:Program}(c o:Nat)(ty:TypeId)(fz:Nat×Nat):∀(vs:List Value) (i:Nat) (cur:Array Value) (w:World),w.heap[c]? =some (.cells cur ty fz)→
 o+i+vs.length≤cur.size→kK cur.size fz→(∀v∈vs,dQ v=true)→
 (storeCells ⟨c,o,none⟩ vs i).run P w=.ok () (bB w c (.cells (cur.toList.take (o+i)++vs++cur.toList.drop (o+i+vs.length)).toArray ty fz))
 |[],i,cur,w,hg,_,_,_=>by
  simp only[storeCells,abR,List.length_nil,Nat.add_zero,ab_,Array.toArray_toList,bB]
  show Result.ok () w=_
  congr 1
  have:w.heap.setIfInBounds c (.cells cur ty fz)=w.heap:=by
   apply adM
   intro j
   by_cases e:c=j
   ·subst e
    have aq:=(aa8.1 hg).1
    simp[aq,hg]
    exact(aa8.1 hg).2.symm
   ·rw[acg e]
  rw[this]
 |v::rest,i,cur,w,hg,hl,ht,h1=>by
  have aq:=(aa8.1 hg).1
  have hi:o+i<cur.size:=by simp at hl;omega
  have bn:w.cell? ⟨c,o+i,none⟩=some cur[o+i]:=by simp[World.cell?,hg,hi]
  have OG:w.frozen? ⟨c,o+i,none⟩=false:=by
   simp only[World.frozen?,hg]
   have:=ht (o+i) hi
   simp only[not_and,Nat.not_lt]at this
   simp only[Bool.and_eq_false_iff,acS,Nat.not_le,Nat.not_lt]
   by_cases h0:fz.1≤o+i
   ·exact .inr (this h0)
   ·exact .inl (by omega)
  have nB:w.setCell ⟨c,o+i,none⟩ v=bB w c (.cells (cur.setIfInBounds (o+i) v) ty fz):=by
   simp only[World.setCell,bB]
   congr 1
   apply adM
   intro j
   rw[acu]
   by_cases e:c=j
   ·subst e
    have e1:=(aa8.1 hg).2
    simp[aq,e1]
   ·rw[acg e];simp[e]
  have aU:(store ((⟨c,o,none⟩:Addr).add i) v).run P w=.ok () (bB w c (.cells (cur.setIfInBounds (o+i) v) ty fz)):=by
   rw[gK,run_store P w _ v _ (h1 v (by simp)),bn]
   simp[OG,nB]
  have ih:=nA (P:=P) c o ty fz rest (i+1) (cur.setIfInBounds (o+i) v) (bB w c (.cells (cur.setIfInBounds (o+i) v) ty fz)) (iH _ _ _ aq)
   (by simp at hl ⊢;omega) (by simpa using ht) (λx hx=>h1 x (by simp[hx]))
  simp only[storeCells,Sem.run_bind,aU,Result.andThen_ok,ih]
  congr 1
  simp only[bB,Array.setIfInBounds_setIfInBounds]
  congr 3
  have e:=list_seg_step cur.toList (o+i) v rest (by simp at hl ⊢;omega)
  simpa [Array.toList_setIfInBounds,aa9]using e
end
end Hk
