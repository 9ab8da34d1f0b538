/- Texts of this claim, put together: Defs, Rel, Comp, Val, Val2, Val3, Val4, Val5, Mapv, Val6, Mem, Eff. -/
import Derived.OrdersHeld
import Derived.Laws.Cells
import Derived.Lib.Hide
import GoSem.Core.View
import GoSem.Dispatch
import Derived.Laws.World
import Derived.Laws.Strings
import Derived.Laws.Slices
import Derived.Laws.BytesString
import Derived.Laws.BytesArg
import Derived.Laws.StructEq
import Derived.MapKept
import Derived.Laws.Entries
import Derived.Laws.CopyRow
set_option linter.unusedSimpArgs false
set_option linter.unusedVariables false
namespace Hk
abbrev aaF:=@if_neg
abbrev aaG:=@if_pos
abbrev aaH:=@congrArg
abbrev aaI:=@List.getElem?_eq_getElem
abbrev aaJ:=@Nat.le_refl
abbrev aaK:=@List.getElem?_eq_some_iff
abbrev aaL:=@Nat.zero_add
abbrev aaM:=@List.getElem?_map
abbrev aaN:=@List.getD_eq_getElem?_getD
abbrev aaO:=@Option.map_eq_some_iff
abbrev aaP:=@Nat.zero_le
abbrev aaQ:=@Bool.and_eq_true
abbrev aaR:=@List.length_map
abbrev aaS:=@List.getElem?_eq_none
abbrev aaT:=@List.mem_range
abbrev aaU:=@Nat.add_mul
abbrev aaV:=@List.length_append
abbrev aaW:=@Array.getElem?_eq_some_iff
abbrev aaX:=@Nat.add_assoc
abbrev aaY:=@List.mem_of_getElem?
abbrev aaZ:=@List.getElem?_set
abbrev aa0:=@List.mem_cons
abbrev aa1:=@List.eq_nil_of_length_eq_zero
abbrev aa2:=@Nat.le_trans
abbrev aa3:=@List.mem_map
abbrev aa4:=@List.take_length
abbrev aa5:=@decide_eq_true
abbrev aa6:=@Nat.le_of_ble_eq_true
abbrev aa7:=@decide_eq_true_eq
abbrev aa8:=@List.all_eq_true
abbrev aa9:=@List.getElem?_append_left
abbrev aa_:=@decide_eq_false
abbrev abb:=@List.map_append
abbrev abd:=@List.length_set
abbrev abe:=@List.getElem?_append_right
abbrev abf:=@List.mem_append
abbrev abg:=@Nat.eq_of_beq_eq_true
abbrev abh:=@Array.getElem?_eq_getElem
abbrev abi:=@List.append_assoc
abbrev abj:=@List.ext_getElem?
abbrev abk:=@Ne.symm
abbrev abl:=@Nat.mul_le_mul_right
abbrev abm:=@if_false
abbrev abn:=@Bool.eq_iff_iff
abbrev abo:=@List.getElem?_range
abbrev abp:=@List.take_add_one
abbrev abq:=@List.mem_filter
abbrev abr:=@List.map_cons
abbrev abt:=@Array.ext'
abbrev abu:=@if_true
abbrev abv:=@beq_iff_eq
abbrev abw:=@List.getElem?_append
abbrev abx:=@List.getElem?_drop
abbrev aby:=@Nat.le_of_eq
abbrev abz:=@Nat.lt_or_ge
abbrev abA:=@List.getElem_mem
abbrev abB:=@List.length_take
abbrev abC:=@Nat.one_mul
abbrev abD:=@List.filter_append
abbrev abE:=@List.map_map
abbrev abF:=@List.append_nil
abbrev abG:=@of_decide_eq_true
abbrev abH:=@List.range_succ
abbrev abI:=@List.drop_drop
abbrev abJ:=@Bool.not_eq_true'
abbrev abK:=@List.any_eq_false
abbrev abL:=@Nat.lt_of_lt_of_le
abbrev abM:=@Bool.true_and
abbrev abN:=@Nat.mul_one
abbrev abO:=@List.length_filter_le
abbrev abP:=@Bool.false_eq_true
abbrev abQ:=@List.length_range
abbrev abR:=@List.map_set
abbrev abS:=@List.map_congr_left
abbrev abT:=@List.getElem?_take
abbrev abU:=@List.take_of_length_le
abbrev abV:=@Array.getElem?_eq_none
abbrev abW:=@List.getElem?_toArray
abbrev abX:=@List.mem_singleton
abbrev abY:=@List.take_append_drop
abbrev abZ:=@List.length_drop
abbrev ab0:=@List.length_eq_one_iff
abbrev ab1:=@List.getElem?_replicate
abbrev ab2:=@List.nodup_cons
abbrev ab3:=@List.any_eq_true
abbrev ab4:=@Array.getElem?_setIfInBounds_ne
abbrev ab5:=@Array.getD_eq_getD_getElem?
abbrev ab6:=@Nat.min_eq_left
abbrev ab7:=@Option.bind_eq_some_iff
abbrev ab8:=@Bool.and_assoc
abbrev ab9:=@Nat.lt_irrefl
abbrev ab_:=@Nat.not_lt_zero
abbrev aca:=@decide_eq_true_iff
abbrev acb:=@List.findIdx?_eq_some_iff_getElem
abbrev acd:=@List.findIdx?_eq_none_iff
abbrev ace:=@Nat.blt_eq
abbrev acf:=@Nat.zero_mul
abbrev acg:=@Array.getElem?_modify
abbrev ach:=@Array.getElem?_append
abbrev aci:=@Nat.ble_eq
abbrev acj:=@List.getElem?_take_of_lt
abbrev ack:=@Bool.or_eq_true
abbrev acm:=@List.take_append_of_le_length
abbrev acn:=@List.filter_congr
abbrev aco:=@List.idxOf_lt_length_iff
abbrev acp:=@decide_false
abbrev acq:=@List.mem_iff_getElem?
abbrev acr:=@Nat.beq_refl
abbrev acs:=@Array.getElem?_push_lt
abbrev acu:=@Nat.add_comm
abbrev acv:=@List.getElem_of_mem
abbrev acw:=@Nat.sub_self
abbrev acx:=@List.mem_of_mem_take
abbrev acy:=@List.getElem?_of_mem
abbrev acz:=@List.filter_eq_nil_iff
abbrev acA:=@List.mem_append_left
abbrev acB:=@List.length_pos_iff
abbrev acC:=@and_true
abbrev acD:=@List.mem_cons_of_mem
abbrev acE:=@Int.toNat_of_nonneg
abbrev acF:=@List.range'_succ
abbrev acG:=@decide_eq_false_iff_not
abbrev acH:=@List.range_eq_range'
abbrev acI:=@List.length_replicate
abbrev acJ:=@Prod.mk.injEq
abbrev acK:=@List.cons.injEq
abbrev acL:=@false_or
abbrev acM:=@List.take_left
abbrev acN:=@List.pairwise_iff_getElem
abbrev acO:=@List.nodup_append
abbrev acP:=@List.getElem_idxOf
abbrev acQ:=@Classical.byContradiction
abbrev acR:=@Nat.lt_succ_self
abbrev acS:=@Nat.mod_lt
abbrev acT:=@Array.eq_empty_of_size_eq_zero
abbrev acU:=@Bool.false_or
abbrev acV:=@getElem!_pos
abbrev acW:=@of_decide_eq_false
abbrev acX:=@Eq.trans
abbrev acY:=@List.mem_iff_getElem
abbrev acZ:=@List.pairwise_cons
abbrev ac0:=@List.pairwise_map
abbrev ac1:=@List.map_const'
abbrev ac2:=@Array.getElem?_toList
abbrev ac3:=@List.drop_append
abbrev ac4:=@List.drop_eq_nil_of_le
abbrev ac5:=@List.mapM_cons
abbrev ac6:=@List.map_take
abbrev ac7:=@List.drop_eq_getElem_cons
abbrev ac8:=@List.size_toArray
abbrev ac9:=@List.set_set
abbrev ac_:=@Bool.not_false
abbrev ada:=@Option.some.inj
abbrev adb:=@List.not_mem_nil
abbrev ade:=@Option.some.injEq
abbrev adf:=@List.nodup_nil
abbrev adg:=@Bool.or_eq_false_iff
abbrev adh:=@Array.getElem?_mapIdx
abbrev adi:=@List.mem_map_of_mem
abbrev adj:=@List.idxOf_append
abbrev adk:=@Int.le_refl
abbrev adl:=@Nat.mul_le_mul
abbrev adn:=@List.getElem_range
abbrev ado:=@List.Pairwise.imp_of_mem
abbrev adp:=@Classical.not_not
abbrev adq:=@ByteArray.ext
abbrev adr:=@List.take_append
abbrev ads:=@List.eq_replicate_iff
abbrev adt:=@List.forIn_cons
abbrev adu:=@List.drop_zero
abbrev adv:=@Array.mem_of_getElem?
abbrev adw:=@Bool.eq_false_iff
abbrev adx:=@Nat.le_add_right
abbrev ady:=@Array.ext_getElem?
abbrev adz:=@not_true_eq_false
abbrev adA:=@Nat.lt_or_gt_of_ne
abbrev adB:=@Nat.eq_zero_or_pos
abbrev adC:=@Nat.mul_comm
abbrev adD:=@Nat.mod_eq_of_lt
abbrev adE:=@Bool.not_eq_true
abbrev adF:=@Nat.succ_pos
abbrev adG:=@Bool.and_true
abbrev adH:=@Bool.not_eq_false'
abbrev adI:=@decide_eq_decide
abbrev adJ:=@List.find?_eq_none
abbrev adK:=@List.filter_cons
abbrev adL:=@List.set_append_right
abbrev adM:=@Nat.add_sub_cancel
abbrev adN:=@List.mem_of_mem_drop
abbrev adO:=@List.mem_reverse
abbrev adP:=@Nat.pos_of_ne_zero
abbrev adQ:=@Nat.le_of_not_lt
abbrev adR:=@List.foldl_append
abbrev adS:=@List.flatMap_append
abbrev adT:=@Int.ofNat_lt
abbrev adU:=@Array.getElem?_extract
abbrev adV:=@Array.mapM_eq_mapM_toList
abbrev adW:=@Option.isSome_iff_exists
abbrev adX:=@Std.Legacy.Range.forIn_eq_forIn_range'
abbrev adY:=@Array.getElem?_of_mem
abbrev adZ:=@List.drop_append_of_le_length
abbrev ad0:=@List.set_eq_take_append_cons_drop
abbrev ad1:=@BitVec.eq_of_toNat_eq
abbrev ad2:=@Nat.testBit_two_pow_mul_add
abbrev ad3:=@Int.fdiv_eq_ediv_of_nonneg
abbrev ad4:=@List.find?_eq_some_iff_getElem
abbrev ad5:=@List.mem_take_iff_getElem
abbrev ad6:=@List.pairwise_mergeSort
abbrev ad7:=@List.pairwise_singleton
abbrev ad8:=@List.mem_or_eq_of_mem_set
abbrev ad9:=@List.perm_append_comm
abbrev ad_:=@List.length_erase_of_mem
abbrev aea:=@List.length_pos_of_mem
abbrev aeb:=@List.exists_mem_of_ne_nil
end Hk
namespace Hk
open Go
inductive PV where
 |int (k:IntKind) (n:Int)
 |b (b:Bool)
 |str (l:List UInt8)
 |lit (v:Value)
 |au (wd:Nat) (rows:List (List PV)) (cap:Option Nat)
 |b5 (row:List PV) (j:Nat)
 |agg (cells:List PV)
 |fn (f:Nat) (first captured:List PV)
 |bK (t:TypeId) (x:PV)
 deriving Inhabited
inductive Bn where
 |v (b:Nat)
 |h (b i:Nat)
 deriving DecidableEq
instance:Coe Nat Bn:=⟨.v⟩
def Bn.base:Bn→Nat
 |.v b=>b
 |.h b _=>b
def Bn.map(f:Nat→Nat):Bn→Bn
 |.v b=>.v (f b)
 |.h b i=>.h (f b) i
inductive AV where
 |p (x:PV)
 |agg (cells:List AV)
 |aD (vs:List AV)
 |fn (f:Nat) (first captured:List AV)
 |bK (t:TypeId) (x:AV)
 |ptr (b wd i j:Nat)
 |sl (b wd i len:Nat) (cap:Option Nat)
 |aF (b wd i j esz len:Nat)
 |mpr (b:Nat)
 |b8 (b wd i len:Nat)
 |ip (b wd i r j:Nat)
 |undef
 deriving Inhabited
inductive aS where
 |t (n:Nat)
 |c (x:PV)
inductive CK where
 |int (k:IntKind)
 |b
 |str
inductive Blk where
 |dead
 |mx (cells:List AV)
 |pr (wd:Nat) (rows:List (List PV))
 |mp (ag:Bool) (ks:List CK) (ents:List (PV×PV))
 |ax (n:Nat) (arr:List PV) (cells:List AV)
 |gh (l:Nat) (left:Option (List (List PV)))
 |pn (wo wd:Nat) (cells:List (Bool×List (List PV))) (op:Option Nat)
 |bF (ag:Bool) (ks:List CK) (wd:Nat) (ents:List (PV×List (List PV))) (op:Option Nat)
 |mi (m:Option Nat) (n:Nat) (seen:List Nat)
 deriving Inhabited
def Blk.inner:Blk→Nat→Option (Nat×List (List PV)×Bool)
 |.pn _ wd cells op,i=>match cells[i]? with
  |some (true,rows)=>some (wd,rows,!decide (op=some i))
  |_=>none
 |.bF _ _ wd ents op,i=>match ents[i]? with
  |some (_,rows)=>some (wd,rows,!decide (op=some i))
  |none=>none
 |_,_=>none
structure St where
 tmps:List (Nat×AV)
 heap:List Blk
inductive RO where
 |bD (x:aS)
 |pick (c a b:aS)
 |bin (op:BinOp) (x y:aS)
 |xj (neg:Bool) (ks:List CK) (x y:aS)
 |AD (neg:Bool) (x y:aS)
 |AE (neg:Bool) (x y:aS)
 |AF (neg:Bool) (x:aS)
 |un (op:UnOp) (x:aS)
 |load (x:aS) (sz:Nat) (ag:Bool)
 |Fj (x:aS)
 |Fk (x i:aS) (len esz:Nat)
 |Fl (x i:aS) (esz:Nat)
 |Fm (x i:aS)
 |Fo (x i:aS) (len esz:Nat) (ag:Bool)
 |Fp (x:aS) (off:Nat)
 |si (x:aS) (off sz:Nat) (ag:Bool)
 |Fq (x:aS) (lo hi mx:Option aS) (esz:Nat)
 |Fs (x:aS) (lo hi mx:Option aS) (len esz:Nat)
 |Ft (x:aS) (lo hi:Option aS)
 |len (x:aS)
 |Fu (x:aS)
 |mm (isMax:Bool) (x y:aS)
 |Fv (k:IntKind) (x:aS)
 |strOf (x:aS)
 |Fw (x:aS)
 |ext (x:aS) (i:Nat)
 |Fx (f:Nat) (first captured:List aS)
 |Fy (t:TypeId) (x:aS)
 |build (zero:List PV) (parts:List (Nat×Nat×aS))
 |xn (n:Nat) (z:PV) (rest:List PV) (parts:List (Nat×Nat×aS))
 |alloc (arr:Bool) (zero:List PV)
 |sj (n:Nat) (z:PV) (rest:List PV)
 |box (arr:Bool) (x:aS) (sz:Nat)
 |uJ (n:Nat) (x:aS) (sz:Nat)
 |xp (esz:Nat) (parts:List aS)
 |xq (zero:List PV) (esz bytes:Nat) (l c:aS)
 |bytesOf (x:aS)
 |store (x v:aS) (sz:Nat)
 |app (s x:aS) (esz bytes:Nat)
 |copy (d s:aS) (esz:Nat)
 |xr (x:aS) (zero:List PV) (esz:Nat)
 |call (f:Nat) (args:List aS)
 |AG (f:aS) (args:List aS)
 |xu (ag:Bool) (ks:List CK)
 |AH (ag:Bool) (ks:List CK) (zero:PV) (ok:Bool) (m x:aS)
 |Fz (m:aS)
 |uK (ag:Bool) (ks:List CK) (m x v:aS)
 |uL (ag:Bool) (ks:List CK) (zero:PV) (m x:aS)
 |xw (m s v:aS)
 |AI (m:aS)
 |AJ (x:aS)
 |FA (x:aS)
 |FB (t:TypeId) (zero:PV) (ok:Bool) (x:aS)
 |inv (uM:List (TypeId×Nat×Option (Nat×Bool))) (x:aS) (args:List aS)
structure It where
 g:Option (Nat×Bool)
 d:Option Nat
 o:RO
inductive DT where
 |done
 |take (it:It) (rest:DT)
 |alt (it:It) (last:Bool) (rest other:DT)
 |xx
inductive RC where
 |skip
 |ops (l:List It)
 |draw (t:DT)
 |seq (a b:RC)
 |cond (c:aS) (a b:RC)
 |block (id:Nat) (a:RC)
 |loop (live:List Nat) (a:RC)
 |AK (live:List Nat) (f:aS) (ps:List Nat) (asg a:RC)
 |exit (id:Nat)
 |ret
inductive sk where
 |tmp (t:Nat)
 |cell (t sz:Nat) (ag:Bool)
structure iz where
 np:Nat
 nt:Nat
 res:List sk
 body:RC
inductive Ex where
 |normal|exit (id:Nat)|ret
def uN:List PV:=[.int .u8 0,.int .u8 1,.int .u8 56,.int .u8 2,.int .u8 57,.int .u8 49,.int .u8 28,.int .u8 3,.int .u8 61,.int .u8 58,.int .u8 42,.int .u8 50,.int .u8 38,.int .u8 29,.int .u8 17,.int .u8 4,.int .u8 62,.int .u8 47,.int .u8 59,.int .u8 36,.int .u8 45,.int .u8 43,.int .u8 51,.int .u8 22,.int .u8 53,.int .u8 39,.int .u8 33,.int .u8 30,.int .u8 24,.int .u8 18,.int .u8 12,.int .u8 5,.int .u8 63,.int .u8 55,.int .u8 48,.int .u8 27,.int .u8 60,.int .u8 41,.int .u8 37,.int .u8 16,.int .u8 46,.int .u8 35,.int .u8 44,.int .u8 21,.int .u8 52,.int .u8 32,.int .u8 23,.int .u8 11,.int .u8 54,.int .u8 26,.int .u8 40,.int .u8 15,.int .u8 34,.int .u8 20,.int .u8 31,.int .u8 10,.int .u8 25,.int .u8 14,.int .u8 19,.int .u8 9,.int .u8 13,.int .u8 8,.int .u8 7,.int .u8 6]
def AL:List (Nat×List PV):=[(0,uN)]
def glbRow:List (Nat×List PV)→Nat→Option (List PV)
 |[],_=>none
 |(g,r)::l,n=>bif Nat.beq g n then some r else glbRow l n
abbrev dP:Value→Bool:=Value.oneCell'
def lk:List (Nat×AV)→Nat→AV
 |[],_=>.undef
 |(k,v)::r,n=>bif Nat.beq k n then v else lk r n
def nth{α:Type}(d:α):List α→Nat→α
 |[],_=>d
 |x::_,0=>x
 |_::r,n+1=>nth d r n
def setNth{α:Type}:List α→Nat→α→List α
 |[],_,_=>[]
 |_::r,0,v=>v::r
 |x::r,n+1,v=>x::setNth r n v
def dropN{α:Type}:Nat→List α→List α
 |0,l=>l
 |n+1,l=>l.drop (n+1)
def ev(st:St):aS→AV
 |.t n=>lk st.tmps n
 |.c x=>.p x
def St.put(st:St)(d:Option Nat)(v:AV):St:=
 match d with
 |some d=>⟨(d,v)::st.tmps,st.heap⟩
 |none=>st
def uO(x:PV)(k:PV→Prop):Prop:=
 match x with
 |.int kk n=>k (.int kk n)
 |.b n=>k (.b n)
 |.str n=>k (.str n)
 |.lit n=>k (.lit n)
 |.au w r c=>k (.au w r c)
 |.b5 r j=>k (.b5 r j)
 |.agg r=>k (.agg r)
 |.fn f a c=>k (.fn f a c)
 |.bK t x=>k (.bK t x)
def force(a:AV)(k:AV→Prop):Prop:=
 match a with
 |.p x=>uO x λx=>k (.p x)
 |.agg l=>k (.agg l)
 |.aD l=>k (.aD l)
 |.fn f a c=>k (.fn f a c)
 |.bK t x=>k (.bK t x)
 |.ptr b w i j=>k (.ptr b w i j)
 |.sl b w i l c=>k (.sl b w i l c)
 |.aF b w i j e l=>k (.aF b w i j e l)
 |.mpr b=>k (.mpr b)
 |.b8 b w i l=>k (.b8 b w i l)
 |.ip b w i r j=>k (.ip b w i r j)
 |.undef=>k .undef
inductive bk(b:Bool)(k:Bool→Prop):Prop where
 |mk (h:k b):bk b k
theorem qu{k:Bool→Prop}(h:k true):bk true k:=⟨h⟩
theorem qv{k:Bool→Prop}(h:k false):bk false k:=⟨h⟩
theorem dr{b:Bool}{k:Bool→Prop}(h1:b=true→k true)(h2:b=false→k false):bk b k:=by
 cases b
 ·exact⟨h2 rfl⟩
 ·exact⟨h1 rfl⟩
theorem AM{b:Bool}{k:Bool→Prop}(h:bk b k):k b:=h.1
def allP:List AV→Option (List PV)
 |[]=>some []
 |.p x::r=>match allP r with
  |some l=>some (x::l)
  |none=>none
 |_::_=>none
def qw(l:List AV):AV:=
 match allP l with
 |some ps=>.p (.agg ps)
 |none=>.agg l
def cellsOf:AV→List AV
 |.p (.agg l)=>l.map .p
 |.agg l=>l
 |x=>[x]
def vok:AV→Bool
 |.undef=>false
 |.aD _=>false
 |_=>true
def Bn.hitV:Bn→Nat→Bool
 |.v b,b'=>Nat.beq b' b
 |.h _ _,_=>false
def Bn.hitH:Bn→Nat→Nat→Bool
 |.v b,b',_=>Nat.beq b' b
 |.h b _,b',_=>Nat.beq b' b
mutual
def AV.kill(b:Bn):AV→AV
 |.p x=>.p x
 |.agg l=>.agg (AV.killL b l)
 |.aD l=>.aD (AV.killL b l)
 |.fn f a c=>.fn f (AV.killL b a) (AV.killL b c)
 |.bK t x=>.bK t (AV.kill b x)
 |.ptr b' w i j=>bif b.hitV b' then .undef else .ptr b' w i j
 |.sl b' w i l c=>bif b.hitV b' then .undef else .sl b' w i l c
 |.aF b' w i j e l=>bif b.hitV b' then .undef else .aF b' w i j e l
 |.mpr b'=>bif b.hitV b' then .undef else .mpr b'
 |.b8 b' w i l=>bif b.hitH b' i then .undef else .b8 b' w i l
 |.ip b' w i r j=>bif b.hitH b' i then .undef else .ip b' w i r j
 |.undef=>.undef
def AV.killL(b:Bn):List AV→List AV
 |[]=>[]
 |x::r=>AV.kill b x::AV.killL b r
end
def killT(b:Bn):List (Nat×AV)→List (Nat×AV)
 |[]=>[]
 |(s,x)::r=>(s,AV.kill b x)::killT b r
def Blk.kill(b:Bn):Blk→Blk
 |.dead=>.dead
 |.mx cells=>.mx (AV.killL b cells)
 |.pr wd rows=>.pr wd rows
 |.mp ag ks e=>.mp ag ks e
 |.gh l r=>.gh l r
 |.ax n a c=>.ax n a (AV.killL b c)
 |.pn wo wd c op=>.pn wo wd c op
 |.bF ag ks wd e op=>.bF ag ks wd e op
 |.mi (some m) n s=>.mi (bif b.hitV m then none else some m) n s
 |.mi none n s=>.mi none n s
def killH(b:Bn):List Blk→List Blk
 |[]=>[]
 |x::r=>Blk.kill b x::killH b r
def St.kill(b:Bn)(st:St):St:=⟨killT b st.tmps,killH b st.heap⟩
def intAr(op:BinOp)(k:IntKind)(a b:Int):Int:=
 match op with
 |.add=>k.wrap (a+b)
 |.sub=>k.wrap (a - b)
 |.mul=>k.wrap (a*b)
 |.and=>k.wrap (BitVec.ofInt k.bits a &&& BitVec.ofInt k.bits b).toNat
 |.or=>k.wrap (BitVec.ofInt k.bits a ||| BitVec.ofInt k.bits b).toNat
 |.xor=>k.wrap (BitVec.ofInt k.bits a ^^^ BitVec.ofInt k.bits b).toNat
 |.andNot=>k.wrap (BitVec.ofInt k.bits a &&& ~~~ BitVec.ofInt k.bits b).toNat
 |.quo=>k.wrap (a.tdiv b)
 |.rem=>a.tmod b
 |.shl=>k.wrap (a*2^(min b.toNat k.bits))
 |.shr=>a.fdiv (2^(min b.toNat k.bits))
 |_=>0
def intCm(op:BinOp)(a b:Int):Bool:=
 match op with
 |.eql=>a==b
 |.neq=>a !=b
 |.lss=>a<b
 |.leq=>a≤b
 |.gtr=>a>b
 |.geq=>a≥b
 |_=>false
def qx(op:BinOp)(a b:List UInt8):Bool:=
 match op with
 |.eql=>a==b
 |.neq=>!(a==b)
 |.lss=>Op.bytesLess a b
 |.leq=>Op.bytesLess a b||a==b
 |.gtr=>!(Op.bytesLess a b||a==b)
 |.geq=>!Op.bytesLess a b
 |_=>false
def mX(a b:IntKind)(A:Prop):Prop:=
 match a,b with
 |.i8,.i8=>A|.i16,.i16=>A|.i32,.i32=>A|.i64,.i64=>A
 |.u8,.u8=>A|.u16,.u16=>A|.u32,.u32=>A|.u64,.u64=>A
 |_,_=>False
def vbin(op:BinOp)(x y:AV)(k:AV→Prop):Prop:=
 match x,y with
 |.p (.int kk a),.p (.int kb b)=>
  match op with
  |.add|.sub|.mul|.and|.or|.xor|.andNot=>mX kk kb (k (.p (.int kk (intAr op kk a b))))
  |.quo|.rem=>mX kk kb (b≠0∧k (.p (.int kk (intAr op kk a b))))
  |.shl|.shr=>0≤b∧k (.p (.int kk (intAr op kk a b)))
  |.eql|.neq|.lss|.leq|.gtr|.geq=>mX kk kb (k (.p (.b (intCm op a b))))
 |.p (.str a),.p (.str b)=>
  match op with
  |.add=>a.length+b.length≤9223372036854775807∧k (.p (.str (a++b)))
  |.eql|.neq|.lss|.leq|.gtr|.geq=>k (.p (.b (qx op a b)))
  |_=>False
 |_,_=>False
def cellEq:PV→PV→Bool
 |.int _ a,.int _ b=>a==b
 |.b a,.b b=>a==b
 |.str a,.str b=>a==b
 |_,_=>false
def cellsEq:List PV→List PV→Bool
 |x::r,y::s=>cellEq x y&&cellsEq r s
 |_,_=>true
def plainCells:List CK→List PV→List PV→Prop
 |[],[],[]=>True
 |.int k::ks,.int k1 _::r,.int k2 _::s=>mX k k1 (mX k k2 (plainCells ks r s))
 |.b::ks,.b _::r,.b _::s=>plainCells ks r s
 |.str::ks,.str _::r,.str _::s=>plainCells ks r s
 |_,_,_=>False
def vun(op:UnOp)(x:AV)(k:AV→Prop):Prop:=
 match op,x with
 |.neg,.p (.int kk n)=>k (.p (.int kk (intAr .sub kk 0 n)))
 |.xor,.p (.int kk n)=>k (.p (.int kk (intAr .xor kk (if kk.signed then -1 else kk.max) n)))
 |.not,.p (.b b)=>k (.p (.b (!b)))
 |_,_=>False
def vrow(row:List PV)(j sz:Nat)(ag:Bool)(k:AV→Prop):Prop:=
 match ag with
 |true=>∃cs,(dropN j row).take sz=cs∧cs.length=sz∧k (.p (.agg cs))
 |false=>∃x,row[j]? =some x∧uO x λx=>k (.p x)
def mY(cells:List AV)(j sz:Nat)(ag:Bool)(k:AV→Prop):Prop:=
 match ag with
 |true=>(bif Nat.ble (j+sz) cells.length then k (qw ((dropN j cells).take sz))else False)
 |false=>(bif Nat.blt j cells.length then force (nth .undef cells j) k else False)
def uP(arr:List PV)(cells:List AV):AV:=
 match allP cells with
 |some ps=>.p (.agg (arr++ps))
 |none=>.agg (arr.map .p++cells)
def AN(n:Nat)(arr:List PV)(cells:List AV)(j sz:Nat)(ag:Bool)(k:AV→Prop):Prop:=
 match ag with
 |false=>(j<n∧∃x,arr[j]? =some x∧uO x λx=>k (.p x))∨(n≤j∧∃x,cells[j - n]? =some x∧force x k)
 |true=>(bif Nat.ble n j then(bif Nat.ble (j - n+sz) cells.length then k (qw ((dropN (j - n) cells).take sz))else False)
  else bif Nat.beq j 0 then(bif Nat.beq sz n then k (.p (.agg arr))else bif Nat.ble n sz&&Nat.ble (sz - n) cells.length then k (uP arr (cells.take (sz - n)))else False)else False)
def vload(h:List Blk)(a:AV)(sz:Nat)(ag:Bool)(k:AV→Prop):Prop:=
 match a with
 |.ptr b wd i j=>
  match nth .dead h b with
  |.mx cells=>match i with
   |0=>mY cells j sz ag k
   |_+1=>False
  |.ax n arr cells=>match i with
   |0=>AN n arr cells j sz ag k
   |_+1=>False
  |.pr b6 rows=>bif Nat.beq wd b6 then ∃row,rows[i]? =some row∧vrow row j sz ag k else False
  |.pn wo w cells op=>bif Nat.beq wd wo&&Nat.beq sz 1&&!ag then ∃fl rows,cells[i*wo+j]? =some (fl,rows)∧
   (match fl with
   |true=>op=none∧k (.b8 b w (i*wo+j) rows.length)
   |false=>k (.p (.au w rows (some rows.length))))else False
  |_=>False
 |.p (.b5 row j)=>vrow row j sz ag k
 |.ip b wd i r j=>match nth .dead h b with
  |.pn _ w cells _=>bif Nat.beq wd w then ∃rows row,cells[i]? =some (true,rows)∧rows[r]? =some row∧vrow row j sz ag k else False
  |_=>False
 |_=>False
def vidxA(x i:AV)(len esz:Nat)(k:AV→Prop):Prop:=
 match i with
 |.p (.int _ n)=>
  (0≤n∧n<(len:Int))∧
  match x with
  |.ptr b wd r j=>k (.ptr b wd r (j+n.toNat*esz))
  |.p (.b5 row j)=>k (.p (.b5 row (j+n.toNat*esz)))
  |_=>False
 |_=>False
def vidxS(x i:AV)(esz:Nat)(k:AV→Prop):Prop:=
 match i with
 |.p (.int _ n)=>
  match x with
  |.p (.au wd rows _)=>(0≤n∧n<(rows.length:Int))∧∃row,rows[n.toNat]? =some row∧bif Nat.beq wd esz then k (.p (.b5 row 0))else False
  |.sl b wd r len _=>(0≤n∧n<(len:Int))∧bif Nat.beq wd esz then k (.ptr b wd (r+n.toNat) 0)else False
  |.aF b wd r j e len=>(0≤n∧n<(len:Int))∧bif Nat.beq e esz then k (.ptr b wd r (j+n.toNat*esz))else False
  |.b8 b wd i len=>(0≤n∧n<(len:Int))∧bif Nat.beq wd esz then k (.ip b wd i n.toNat 0)else False
  |_=>False
 |_=>False
def vidxStr(x i:AV)(k:AV→Prop):Prop:=
 match x,i with
 |.p (.str l),.p (.int _ n)=>0≤n∧∃c,l[n.toNat]? =some c∧k (.p (.int .u8 c.toNat))
 |_,_=>False
def vidxArr(x i:AV)(len esz:Nat)(ag:Bool)(k:AV→Prop):Prop:=
 match x,i with
 |.p (.agg cells),.p (.int _ n)=>(0≤n∧n<(len:Int))∧vrow cells (n.toNat*esz) esz ag k
 |_,_=>False
def uQ(x:AV)(off:Nat)(k:AV→Prop):Prop:=
 match x with
 |.ptr b wd i j=>k (.ptr b wd i (j+off))
 |.p (.b5 row j)=>k (.p (.b5 row (j+off)))
 |_=>False
def AO(x:AV)(off sz:Nat)(ag:Bool)(k:AV→Prop):Prop:=
 match x with
 |.p (.agg cells)=>vrow cells off sz ag k
 |.agg cells=>mY cells off sz ag k
 |_=>False
def vbnd(o:Option AV)(d:Int)(k:Int→Prop):Prop:=
 match o with
 |none=>k d
 |some (.p (.int _ n))=>k n
 |some _=>False
def vslcS(x:AV)(lo hi mx:Option AV)(esz:Nat)(k:AV→Prop):Prop:=
 match x with
 |.p (.au wd rows cap)=>
  match mx with
  |none=>vbnd lo 0 λl=>vbnd hi rows.length λh=>(0≤l∧l≤h∧h≤(rows.length:Int))∧
   bif Nat.beq wd esz||rows.isEmpty then ∃rs,(dropN l.toNat rows).take (h.toNat - l.toNat)=rs∧rs.length=h.toNat - l.toNat∧
    k (.p (.au wd rs (cap.map (·- l.toNat))))else False
  |some m=>vbnd lo 0 λl=>vbnd hi rows.length λh=>vbnd (some m) 0 λm=>(0≤l∧l≤h∧h≤m∧m≤(rows.length:Int))∧
   bif Nat.beq wd esz||rows.isEmpty then ∃rs,(dropN l.toNat rows).take (h.toNat - l.toNat)=rs∧rs.length=h.toNat - l.toNat∧
    k (.p (.au wd rs (some (m.toNat - l.toNat))))else False
 |.sl b wd i len cap=>
  match mx with
  |none=>vbnd lo 0 λl=>vbnd hi len λh=>(0≤l∧l≤h∧h≤(len:Int))∧
   bif Nat.beq wd esz then k (.sl b wd (i+l.toNat) (h.toNat - l.toNat) (cap.map (·- l.toNat)))else False
  |some m=>vbnd lo 0 λl=>vbnd hi len λh=>vbnd (some m) 0 λm=>(0≤l∧l≤h∧h≤m∧m≤(len:Int))∧
   bif Nat.beq wd esz then k (.sl b wd (i+l.toNat) (h.toNat - l.toNat) (some (m.toNat - l.toNat)))else False
 |_=>False
def vslcA(x:AV)(lo hi mx:Option AV)(len esz:Nat)(k:AV→Prop):Prop:=
 match x with
 |.ptr b wd i j=>vbnd lo 0 λl=>vbnd hi len λh=>vbnd mx len λm=>(0≤l∧l≤h∧h≤m∧m≤(len:Int))∧
  k (.aF b wd i (j+l.toNat*esz) esz (h.toNat - l.toNat))
 |_=>False
def vslcStr(x:AV)(lo hi:Option AV)(k:AV→Prop):Prop:=
 match x with
 |.p (.str s)=>vbnd lo 0 λl=>vbnd hi s.length λh=>(0≤l∧l≤h∧h≤(s.length:Int))∧
  k (.p (.str ((dropN l.toNat s).take (h.toNat - l.toNat))))
 |_=>False
def AP(x:AV)(k:AV→Prop):Prop:=
 match x with
 |.p (.au _ r _)=>k (.p (.int .i64 r.length))
 |.sl _ _ _ l _=>k (.p (.int .i64 l))
 |.aF _ _ _ _ _ l=>k (.p (.int .i64 l))
 |.b8 _ _ _ l=>k (.p (.int .i64 l))
 |_=>False
def AQ(x:AV)(k:AV→Prop):Prop:=
 match x with
 |.p (.str l)=>k (.p (.int .i64 l.length))
 |_=>False
def fY(b:UInt8):List PV:=[.int .u8 b.toNat]
def vslices(h:List Blk)(x:AV)(esz:Nat)(k:List (List PV)→Prop):Prop:=
 match x with
 |.p (.au wd rows _)=>(bif Nat.beq wd esz||rows.isEmpty then k rows else False)
 |.sl b wd i len _=>match nth .dead h b with
  |.pr b6 rows=>bif Nat.beq wd b6&&Nat.beq wd esz then ∃rs,(dropN i rows).take len=rs∧rs.length=len∧k rs else False
  |_=>False
 |.aF b wd i j e len=>match nth .dead h b with
  |.pr b6 rows=>bif Nat.beq wd b6&&Nat.beq e esz&&Nat.beq e 1 then ∃row rs,rows[i]? =some row∧((dropN j row).take len).map (λx=>[x])=rs∧rs.length=len∧k rs else False
  |_=>False
 |_=>False
def lv(h:List Blk)(x:AV)(esz:Nat)(k:List (List PV)→Prop):Prop:=
 match x with
 |.p (.str l)=>(bif Nat.beq esz 1 then k (l.map fY)else False)
 |x=>vslices h x esz k
def vext(x:AV)(i:Nat)(k:AV→Prop):Prop:=
 match x with
 |.aD l=>(bif Nat.blt i l.length then force (nth .undef l i) k else False)
 |_=>False
def evL(st:St):List aS→List AV
 |[]=>[]
 |x::r=>ev st x::evL st r
def fillA:List AV→List (Nat×Nat×AV)→Option (List AV)
 |cells,[]=>some cells
 |cells,(off,size,v)::r=>
  let cs:=cellsOf v
  bif vok v&&Nat.beq cs.length size&&Nat.ble (off+size) cells.length then fillA (cells.take off++cs++cells.drop (off+size)) r else none
def evParts(st:St):List (Nat×Nat×aS)→List (Nat×Nat×AV)
 |[]=>[]
 |(o,s,x)::r=>(o,s,ev st x)::evParts st r
abbrev FC:=Nat→List AV→List Blk→List Nat→(AV→List Blk→Prop)→Prop
structure En where
 F:FC
 fx:Nat→Bool
 k:Nat
 G:Nat→List PV→Bool→List (List PV)→Prop
 en:Bool
def AV.keep(b wd:Nat)(rows:List (List PV))(x:AV):AV:=
 match x with
 |.sl b' b6 i l c=>bif Nat.beq b' b&&Nat.beq b6 wd then .p (.au wd ((dropN i rows).take l) none)else AV.kill (.v b) (.sl b' b6 i l c)
 |x=>AV.kill (.v b) x
def uR(b wd:Nat)(rows:List (List PV)):List (Nat×AV)→List (Nat×AV)
 |[]=>[]
 |(s,x)::r=>(s,AV.keep b wd rows x)::uR b wd rows r
def xy(b wd:Nat)(rows:List (List PV))(x:AV)(k:Prop):Prop:=
 match x with
 |.sl b' b6 i l _=>bif Nat.beq b' b&&Nat.beq b6 wd then i+l≤rows.length∧k else k
 |_=>k
def uS(b wd:Nat)(rows:List (List PV)):List (Nat×AV)→Prop
 |[]=>True
 |(_,x)::r=>xy b wd rows x (uS b wd rows r)
inductive lz(A B C:Prop):Prop
 |kill (h:A)
 |keep (h:B)
 |cap (h:C)
def vpure(E:En)(st:St)(x:AV)(k:St→PV→Prop):Prop:=
 match x with
 |.p x=>uO x λx=>k st x
 |.sl b wd i len cap=>match nth .dead st.heap b with
  |.pr b6 rows=>bif Nat.beq wd b6&&!E.fx b then ∃rs,(dropN i rows).take len=rs∧rs.length=len∧
   lz (k ⟨killT b st.tmps,setNth (killH b st.heap) b .dead⟩ (.au wd rs none)) (uS b wd rows st.tmps∧k ⟨uR b wd rows st.tmps,setNth (killH b st.heap) b .dead⟩ (.au wd rs none))
    (k ⟨killT b st.tmps,setNth (killH b st.heap) b .dead⟩ (.au wd rs cap))else False
  |.pn wo w cells op=>bif Nat.beq wd wo&&Nat.beq wo 1&&!E.fx b then(op=none∧i=0∧len=cells.length)∧
   k ⟨killT b st.tmps,setNth (killH b st.heap) b .dead⟩ (.au 1 (cells.map λc=>[.au w c.2 none]) none)else False
  |_=>False
 |_=>False
def ph(E:En)(st:St):List AV→(St→List PV→Prop)→Prop
 |[],k=>k st []
 |x::r,k=>vpure E st x λst y=>ph E st r λst ys=>k st (y::ys)
def vagg(E:En)(st:St)(x:AV)(k:St→List PV→Prop):Prop:=
 match x with
 |.p (.agg l)=>k st l
 |x=>ph E st (cellsOf x) k
def xA(E:En)(st:St):List AV→(St→List (List PV)→Prop)→Prop
 |[],k=>k st []
 |x::r,k=>vagg E st x λst row=>xA E st r λst rows=>k st (row::rows)
def valsOnly(it:RO):Bool:=
 match it with
 |.alloc _ _|.sj _ _ _|.box _ _ _|.uJ _ _ _|.xp _ _|.xq _ _ _ _ _|.bytesOf _|.store _ _ _|.app _ _ _ _|.copy _ _ _|.xr _ _ _|.call _ _|.AG _ _|.xu _ _|.uK _ _ _ _ _|.uL _ _ _ _ _|.xw _ _ _|.AI _|.AJ _|.inv _ _ _=>false
 |_=>true
def vcmpa(neg:Bool)(ks:List CK)(x y:AV)(k:AV→Prop):Prop:=
 match x,y with
 |.p (.agg a),.p (.agg b)=>plainCells ks a b∧k (.p (.b (bif neg then !cellsEq a b else cellsEq a b)))
 |_,_=>False
def vcmpb(neg:Bool)(x y:AV)(k:AV→Prop):Prop:=
 match x,y with
 |.p (.b a),.p (.b b)=>k (.p (.b (bif neg then !(a==b)else(a==b))))
 |_,_=>False
def vcmpp(neg:Bool)(x y:AV)(k:AV→Prop):Prop:=
 match x,y with
 |.p (.lit (.pointer none)),.p (.lit (.pointer none))=>k (.p (.b (bif neg then false else true)))
 |.ptr _ _ _ _,.p (.lit (.pointer none))=>k (.p (.b (bif neg then true else false)))
 |.p (.b5 _ _),.p (.lit (.pointer none))=>k (.p (.b (bif neg then true else false)))
 |_,_=>False
def AR(neg:Bool)(x:AV)(k:AV→Prop):Prop:=
 match x with
 |.p (.au _ rows _)=>(rows=[]→k (.p (.b (!neg))))∧k (.p (.b neg))
 |.sl _ _ _ l _=>(l=0→k (.p (.b (!neg))))∧k (.p (.b neg))
 |_=>False
def vmm(isMax:Bool)(x y:AV)(k:AV→Prop):Prop:=
 match x,y with
 |.p (.int kk a),.p (.int kb b)=>mX kk kb (k (.p (.int kk (bif isMax then max a b else min a b))))
 |_,_=>False
def vmkfn(f:Nat)(first cap:List AV)(k:AV→Prop):Prop:=
 match allP first,allP cap with
 |some a,some c=>k (.p (.fn f a c))
 |_,_=>k (.fn f first cap)
def vbuild(o:Option (List AV))(k:AV→Prop):Prop:=
 match o with
 |some l=>k (qw l)
 |none=>False
def shiftP(n:Nat):List (Nat×Nat×AV)→Option (List (Nat×Nat×AV))
 |[]=>some []
 |(off,s,v)::r=>bif Nat.ble n off then(match shiftP n r with
  |some l=>some ((off - n,s,v)::l)
  |none=>none)else none
def uT(arr:List PV)(cells:List AV)(parts:Option (List (Nat×Nat×AV)))(k:AV→Prop):Prop:=
 match parts with
 |some ps=>match fillA cells ps with
  |some l=>k (uP arr l)
  |none=>False
 |none=>False
def vbuildx(n:Nat)(z:PV)(rest:List PV)(parts:List (Nat×Nat×AV))(k:AV→Prop):Prop:=
 match parts with
 |(0,s,v)::r=>∃arr pj,cellsOf v=arr.map .p++pj∧(vok v=true∧arr.length=n∧n+pj.length=s∧pj.length≤rest.length)∧uT arr (pj++(rest.drop pj.length).map .p) (shiftP n r) k
 |ps=>uT (List.replicate n z) (rest.map .p) (shiftP n ps) k
def vpick(c a b:AV)(k:AV→Prop):Prop:=
 match c with
 |.p (.b c)=>bk c λc=>match c with
  |true=>force a k
  |false=>force b k
 |_=>False
def vnil(x:AV)(k:AV→Prop):Prop:=
 match x with
 |.ptr b wd i j=>k (.ptr b wd i j)
 |.p (.b5 row j)=>k (.p (.b5 row j))
 |.p (.fn f a c)=>k (.p (.fn f a c))
 |.fn f a c=>k (.fn f a c)
 |_=>False
def AS(kk:IntKind)(x:AV)(k:AV→Prop):Prop:=
 match x with
 |.p (.int _ n)=>k (.p (.int kk (kk.wrap n)))
 |_=>False
def AT(x:AV)(k:AV→Prop):Prop:=
 match x with
 |.p (.str l)=>k (.p (.str l))
 |_=>False
def vmkif(t:TypeId)(x:AV)(k:AV→Prop):Prop:=
 match x with
 |.p x=>k (.p (.bK t x))
 |x=>k (.bK t x)
def FD:IntKind→IntKind→Bool
 |.i8,.i8=>true|.i16,.i16=>true|.i32,.i32=>true|.i64,.i64=>true
 |.u8,.u8=>true|.u16,.u16=>true|.u32,.u32=>true|.u64,.u64=>true
 |_,_=>false
def ckEq:CK→CK→Bool
 |.int a,.int b=>FD a b
 |.b,.b=>true
 |.str,.str=>true
 |_,_=>false
def cksEq:List CK→List CK→Bool
 |[],[]=>true
 |a::r,c::s=>ckEq a c&&cksEq r s
 |_,_=>false
def qy:Bool→Bool→Bool
 |true,b=>b
 |false,b=>!b
def xB:CK→PV→Prop
 |.int k,.int k' _=>mX k k' True
 |.b,.b _=>True
 |.str,.str _=>True
 |_,_=>False
def cellsK:List CK→List PV→Prop
 |[],[]=>True
 |k::ks,x::r=>xB k x∧cellsK ks r
 |_,_=>False
def dQ(ag:Bool)(ks:List CK)(x:PV):Prop:=
 match ag,x with
 |true,.agg l=>cellsK ks l
 |false,x=>cellsK ks [x]
 |_,_=>False
def keyEq:PV→PV→Bool
 |.agg a,.agg b=>cellsEq a b
 |x,y=>cellEq x y
def mfind:List (PV×PV)→PV→Nat→Option (Nat×PV)
 |[],_,_=>none
 |(k,v)::r,x,i=>bif keyEq x k then some (i,v)else mfind r x (i+1)
def mput:List (PV×PV)→PV→PV→List (PV×PV)
 |[],x,v=>[(x,v)]
 |(k,u)::r,x,v=>bif keyEq x k then(x,v)::r else(k,u)::mput r x v
def setVal:List (PV×PV)→Nat→PV→List (PV×PV)
 |[],_,_=>[]
 |(k,_)::r,0,v=>(k,v)::r
 |e::r,n+1,v=>e::setVal r n v
def mfindN:List (PV×List (List PV))→PV→Nat→Option (Nat×List (List PV))
 |[],_,_=>none
 |(k,v)::r,x,i=>bif keyEq x k then some (i,v)else mfindN r x (i+1)
def AU(zero:PV):Option (Nat×PV)→PV
 |some (_,v)=>v
 |none=>zero
@[reducible] def FE {α:Type}:Option α→Bool
 |some _=>true
 |none=>false
def xC(zero:PV)(ok:Bool)(o:Option (Nat×PV)):AV:=
 match ok with
 |true=>.aD [.p (AU zero o),.p (.b (FE o))]
 |false=>.p (AU zero o)
def qz(x:AV)(k:PV→Prop):Prop:=
 match x with
 |.p x=>k x
 |_=>False
def vmap(h:List Blk)(m:AV)(ag:Bool)(ks:List CK)(k:Nat→List (PV×PV)→Prop):Prop:=
 match m with
 |.mpr b=>match nth .dead h b with
  |.mp l6 l7 ents=>(bif qy ag l6&&cksEq ks l7 then k b ents else False)
  |_=>False
 |_=>False
def vmapn(h:List Blk)(m:AV)(ag:Bool)(ks:List CK)(k1:Nat→List (PV×PV)→Prop)(k2:Nat→Nat→List (PV×List (List PV))→Option Nat→Prop):Prop:=
 match m with
 |.mpr b=>match nth .dead h b with
  |.mp l6 l7 ents=>(bif qy ag l6&&cksEq ks l7 then k1 b ents else False)
  |.bF l6 l7 wd ents op=>(bif qy ag l6&&cksEq ks l7 then k2 b wd ents op else False)
  |_=>False
 |_=>False
def l8(ok:Bool)(v:AV)(f:Bool):AV:=
 match ok with
 |true=>.aD [v,.p (.b f)]
 |false=>v
def AW(h:List Blk)(ag:Bool)(ks:List CK)(zero:PV)(ok:Bool)(m x:AV)(k:AV→Prop):Prop:=
 qz x λx=>dQ ag ks x∧vmapn h m ag ks (λ_ ents=>∃o,mfind ents x 0=o∧k (xC zero ok o))
  λb wd ents op=>∃o,mfindN ents x 0=o∧match o with
   |some (i,rows)=>op=none∧k (l8 ok (.b8 b wd i rows.length) true)
   |none=>k (l8 ok (.p zero) false)
def AX(h:List Blk)(m:AV)(k:AV→Prop):Prop:=
 match m with
 |.mpr b=>match nth .dead h b with
  |.mp _ _ ents=>k (.p (.int .i64 ents.length))
  |_=>False
 |_=>False
def vtas(t:TypeId)(zero:PV)(ok:Bool)(x:AV)(k:AV→Prop):Prop:=
 match x with
 |.p (.bK t' y)=>(bif Nat.beq t' t then k (l8 ok (.p y) true)else bif ok then k (l8 true (.p zero) false)else False)
 |.bK t' y=>(bif Nat.beq t' t then k (l8 ok y true)else bif ok then k (l8 true (.p zero) false)else False)
 |_=>False
def vmentry(h:List Blk)(x:AV)(k:AV→Prop):Prop:=
 match x with
 |.ptr b _ 0 0=>match nth .dead h b with
  |.mi (some m) n (i::_)=>match nth .dead h m with
   |.mp _ _ ents=>n=ents.length∧∃y v,ents[i]? =some (y,v)∧k (.aD [.p y,.p v])
   |_=>False
  |_=>False
 |_=>False
def so(o:RO)(st:St)(k:AV→Prop):Prop:=
 match o with
 |.bD x=>force (ev st x) k
 |.pick c a b=>vpick (ev st c) (ev st a) (ev st b) k
 |.bin op x y=>force (ev st x) λx=>force (ev st y) λy=>vbin op x y k
 |.xj neg ks x y=>vcmpa neg ks (ev st x) (ev st y) k
 |.AD neg x y=>vcmpb neg (ev st x) (ev st y) k
 |.AE neg x y=>vcmpp neg (ev st x) (ev st y) k
 |.AF neg x=>AR neg (ev st x) k
 |.un op x=>vun op (ev st x) k
 |.load x sz ag=>force (ev st x) λa=>vload st.heap a sz ag k
 |.Fj x=>vnil (ev st x) k
 |.Fk x i len esz=>vidxA (ev st x) (ev st i) len esz k
 |.Fl x i esz=>force (ev st x) λx=>vidxS x (ev st i) esz k
 |.Fm x i=>vidxStr (ev st x) (ev st i) k
 |.Fo x i len esz ag=>vidxArr (ev st x) (ev st i) len esz ag k
 |.Fp x off=>uQ (ev st x) off k
 |.si x off sz ag=>AO (ev st x) off sz ag k
 |.Fq x lo hi mx esz=>force (ev st x) λx=>vslcS x (lo.map (ev st)) (hi.map (ev st)) (mx.map (ev st)) esz k
 |.Fs x lo hi mx len esz=>vslcA (ev st x) (lo.map (ev st)) (hi.map (ev st)) (mx.map (ev st)) len esz k
 |.Ft x lo hi=>vslcStr (ev st x) (lo.map (ev st)) (hi.map (ev st)) k
 |.len x=>AP (ev st x) k
 |.Fu x=>AQ (ev st x) k
 |.mm isMax x y=>vmm isMax (ev st x) (ev st y) k
 |.Fv kk x=>AS kk (ev st x) k
 |.strOf x=>force (ev st x) λx=>vslices st.heap x 1 λrows=>∃l:List UInt8,rows=l.map fY∧k (.p (.str l))
 |.Fw x=>AT (ev st x) k
 |.ext x i=>vext (ev st x) i k
 |.Fx f first cap=>vmkfn f (evL st first) (evL st cap) k
 |.Fy t x=>force (ev st x) λx=>vmkif t x k
 |.build zero parts=>vbuild (fillA (zero.map .p) (evParts st parts)) k
 |.xn n z rest parts=>vbuildx n z rest (evParts st parts) k
 |.AH ag ks zero ok m x=>force (ev st x) λx=>AW st.heap ag ks zero ok (ev st m) x k
 |.Fz m=>AX st.heap (ev st m) k
 |.FB t zero ok x=>vtas t zero ok (ev st x) k
 |.FA x=>force (ev st x) λx=>vmentry st.heap x k
 |_=>False
mutual
inductive cP:PV→PV→Prop
 |refl (x:PV):cP x x
 |au {wd:Nat} {rows rows':List (List PV)} {cap gH:Option Nat}:kG rows rows'→(gH=none∨gH=cap)→cP (.au wd rows cap) (.au wd rows' gH)
 |nil {wd b6:Nat} {cap gH:Option Nat}:(gH=none∨gH=cap)→cP (.au wd [] cap) (.au b6 [] gH)
 |agg {xs ys:List PV}:fZ xs ys→cP (.agg xs) (.agg ys)
inductive fZ:List PV→List PV→Prop
 |refl (l:List PV):fZ l l
 |cons {x y:PV} {xs ys:List PV}:cP x y→fZ xs ys→fZ (x::xs) (y::ys)
inductive kG:List (List PV)→List (List PV)→Prop
 |refl (l:List (List PV)):kG l l
 |cons {x y:List PV} {xs ys:List (List PV)}:fZ x y→kG xs ys→kG (x::xs) (y::ys)
end
mutual
inductive ah(h:List Blk)(fz kp:Nat→Bool):AV→AV→Prop
 |p {x y:PV}:cP x y→ah h fz kp (.p x) (.p y)
 |aE (x:AV):ah h fz kp x .undef
 |ptr {b w i j:Nat}:kp b=true→ah h fz kp (.ptr b w i j) (.ptr b w i j)
 |sl {b w i l:Nat} {cap gH:Option Nat}:kp b=true→(gH=none∨gH=cap)→ah h fz kp (.sl b w i l cap) (.sl b w i l gH)
 |aF {b w i j e l:Nat}:kp b=true→ah h fz kp (.aF b w i j e l) (.aF b w i j e l)
 |mpr {b:Nat}:kp b=true→ah h fz kp (.mpr b) (.mpr b)
 |dI {b w i l:Nat} {cap:Option Nat} {rows rs:List (List PV)} {y:PV}:fz b=true→nth .dead h b=.pr w rows→(dropN i rows).take l=rs→
  rs.length=l→cP (.au w rs none) y→ah h fz kp (.sl b w i l cap) (.p y)
 |xD {b l wd:Nat} {cap:Option Nat} {cells:List (Bool×List (List PV))} {y:PV}:fz b=true→nth .dead h b=.pn 1 wd cells none→l=cells.length→
  cP (.au 1 (cells.map λc=>[.au wd c.2 none]) none) y→ah h fz kp (.sl b 1 0 l cap) (.p y)
 |AY {b w i j:Nat} {rows:List (List PV)} {row:List PV}:fz b=true→nth .dead h b=.pr w rows→rows[i]? =some row→ah h fz kp (.ptr b w i j) (.p (.b5 row j))
 |n3 {b w j:Nat} {row:List PV}:fz b=true→nth .dead h b=.mx (row.map .p)→ah h fz kp (.ptr b w 0 j) (.p (.b5 row j))
 |sr {b w n j:Nat} {arr row:List PV}:fz b=true→nth .dead h b=.ax n arr (row.map .p)→ah h fz kp (.ptr b w 0 j) (.p (.b5 (arr++row) j))
 |agg {l l':List AV}:ak h fz kp l l'→ah h fz kp (.agg l) (.agg l')
 |qA {l:List AV} {ys:List PV}:ak h fz kp l (ys.map .p)→ah h fz kp (.agg l) (.p (.agg ys))
 |aD {l l':List AV}:ak h fz kp l l'→ah h fz kp (.aD l) (.aD l')
 |fn {f:Nat} {a a' c c':List AV}:ak h fz kp a a'→ak h fz kp c c'→ah h fz kp (.fn f a c) (.fn f a' c')
 |mZ {f:Nat} {a c:List AV} {a' c':List PV}:ak h fz kp a (a'.map .p)→ak h fz kp c (c'.map .p)→ah h fz kp (.fn f a c) (.p (.fn f a' c'))
 |bK {t:TypeId} {x y:AV}:ah h fz kp x y→ah h fz kp (.bK t x) (.bK t y)
 |Nc {t:TypeId} {x:AV} {y:PV}:ah h fz kp x (.p y)→ah h fz kp (.bK t x) (.p (.bK t y))
inductive ak(h:List Blk)(fz kp:Nat→Bool):List AV→List AV→Prop
 |nil:ak h fz kp [] []
 |cons {x y:AV} {xs ys:List AV}:ah h fz kp x y→ak h fz kp xs ys→ak h fz kp (x::xs) (y::ys)
end
def Nd(wd:Nat)(x:PV)(c:Option (Bool×List (List PV))):Prop:=
 (c=some (true,[])∧∃w0,x=.au w0 [] (some 0))∨∃rs,c=some (false,rs)∧x=.au wd rs (some rs.length)
inductive aj(h:List Blk)(fz kp:Nat→Bool):Blk→Blk→Prop
 |dead (x:Blk):aj h fz kp x .dead
 |mx {l l':List AV}:ak h fz kp l l'→aj h fz kp (.mx l) (.mx l')
 |pr {wd:Nat} {r r':List (List PV)}:kG r r'→aj h fz kp (.pr wd r) (.pr wd r')
 |prt {wd:Nat} {r s:List (List PV)}:aj h fz kp (.pr wd (r++s)) (.pr wd r)
 |mp {ag:Bool} {ks:List CK} {e:List (PV×PV)}:aj h fz kp (.mp ag ks e) (.mp ag ks e)
 |ax {n:Nat} {a a':List PV} {c c':List AV}:fZ a a'→ak h fz kp c c'→aj h fz kp (.ax n a c) (.ax n a' c')
 |gh {l:Nat} {r:Option (List (List PV))}:aj h fz kp (.gh l r) (.gh l r)
 |pn {wo wd:Nat} {c:List (Bool×List (List PV))} {op:Option Nat}:aj h fz kp (.pn wo wd c op) (.pn wo wd c op)
 |bF {ag:Bool} {ks:List CK} {wd:Nat} {e:List (PV×List (List PV))} {op:Option Nat}:aj h fz kp (.bF ag ks wd e op) (.bF ag ks wd e op)
 |uU {wo wd:Nat} {rows:List (List PV)} {c:List (Bool×List (List PV))}:c.length=rows.length*wo→(∀(i j:Nat) row x,rows[i]? =some row→row[j]? =some x→Nd wd x c[i*wo+j]?)→aj h fz kp (.pr wo rows) (.pn wo wd c none)
 |FG {wo wd:Nat} {rows:List (List PV)} {c:List (Bool×List (List PV))}:c.length=rows.length*(wo+1)→(∀(i:Nat) row,rows[i]? =some row→row.length=wo+1)→
  (∀(i j:Nat) row x,rows[i]? =some row→row[j]? =some x→∃fl rs,c[i*(wo+1)+j]? =some (fl,rs)∧x=.au wd rs none)→aj h fz kp (.pn (wo+1) wd c none) (.pr (wo+1) rows)
 |mi {m m':Option Nat} {n:Nat} {s:List Nat}:(∀b,m'=some b→m=some b∧kp b=true)→aj h fz kp (.mi m n s) (.mi m' n s)
 |FH {ag:Bool} {ks:List CK} {wd:Nat}:aj h fz kp (.mp ag ks []) (.bF ag ks wd [] none)
 |FI {ag:Bool} {ks:List CK} {wd:Nat} {e:List (PV×List (List PV))} {e':List (PV×PV)}:e'=(e.map λp=>(p.1,.au wd p.2 none))→aj h fz kp (.bF ag ks wd e none) (.mp ag ks e')
inductive ar(h:List Blk)(fz kp:Nat→Bool):List Blk→List Blk→Prop
 |nil (l:List Blk):ar h fz kp l []
 |cons {x y:Blk} {xs ys:List Blk}:aj h fz kp x y→ar h fz kp xs ys→ar h fz kp (x::xs) (y::ys)
inductive aA(h:List Blk)(fz kp:Nat→Bool)(t:List (Nat×AV)):List (Nat×AV)→Prop
 |nil:aA h fz kp t []
 |cons {s:Nat} {y:AV} {r:List (Nat×AV)}:ah h fz kp (lk t s) y→aA h fz kp t r→aA h fz kp t ((s,y)::r)
def fixOk(fx:Nat→Bool)(h:List Blk):Nat→Bool
 |0=>true
 |k+1=>(!fx k||(match nth .dead h k with|.dead=>false|_=>true))&&fixOk fx h k
def c9(h:List Blk)(b:Nat):Bool:=
 match nth .dead h b with
 |.dead=>false
 |_=>true
def cX(E:En)(st st':St):Prop:=
 (Nat.ble E.k st'.heap.length=true∧fixOk E.fx st'.heap E.k=true)∧
 aA st.heap (λb=>!c9 st'.heap b) (λb=>c9 st'.heap b) st.tmps st'.tmps∧
 ar st.heap (λb=>!c9 st'.heap b) (λb=>c9 st'.heap b) st.heap st'.heap
def trim(live:List Nat)(st:St):St:=⟨live.map λs=>(s,lk st.tmps s),st.heap⟩
def matV(n wd:Nat):AV→AV×List Blk
 |.p (.au _ [] (some 0))=>(.sl n wd 0 0 none,[.pr wd []])
 |x=>(x,[])
def setT:List (Nat×AV)→Nat→AV→List (Nat×AV)
 |[],_,_=>[]
 |(k,v)::r,n,x=>bif Nat.beq k n then(k,x)::r else(k,v)::setT r n x
inductive pk where
 |slot (s wd:Nat)
 |cell (b j wd:Nat)
def St.mat1(st:St):pk→St
 |.slot s wd=>match matV st.heap.length wd (lk st.tmps s)with
  |(x,bs)=>⟨setT st.tmps s x,st.heap++bs⟩
 |.cell b j wd=>match nth .dead st.heap b with
  |.mx cells=>match matV st.heap.length wd (nth .undef cells j)with
   |(x,bs)=>⟨st.tmps,setNth st.heap b (.mx (setNth cells j x))++bs⟩
  |.ax n arr cells=>bif Nat.ble n j then match matV st.heap.length wd (nth .undef cells (j - n))with
   |(x,bs)=>⟨st.tmps,setNth st.heap b (.ax n arr (setNth cells (j - n) x))++bs⟩
   else st
  |_=>st
def St.kH(st:St):List pk→St
 |[]=>st
 |m::r=>(st.mat1 m).kH r
mutual
def AV.ren(ids:List Nat)(n:Nat):AV→AV
 |.p x=>.p x
 |.agg l=>.agg (AV.dW ids n l)
 |.aD l=>.aD (AV.dW ids n l)
 |.fn f a c=>.fn f (AV.dW ids n a) (AV.dW ids n c)
 |.bK t x=>.bK t (AV.ren ids n x)
 |.ptr b w i j=>.ptr (renB ids n b) w i j
 |.sl b w i l c=>.sl (renB ids n b) w i l c
 |.aF b w i j e l=>.aF (renB ids n b) w i j e l
 |.mpr b=>.mpr (renB ids n b)
 |.b8 b w i l=>.b8 (renB ids n b) w i l
 |.ip b w i r j=>.ip (renB ids n b) w i r j
 |.undef=>.undef
def AV.dW(ids:List Nat)(n:Nat):List AV→List AV
 |[]=>[]
 |x::r=>AV.ren ids n x::AV.dW ids n r
def renB:List Nat→Nat→Nat→Nat
 |[],n,b=>n+b
 |x::_,_,0=>x
 |_::r,n,b+1=>renB r n b
end
def Blk.ren(ids:List Nat)(n:Nat):Blk→Blk
 |.dead=>.dead
 |.mx cells=>.mx (AV.dW ids n cells)
 |.pr wd rows=>.pr wd rows
 |.mp ag ks e=>.mp ag ks e
 |.gh l r=>.gh l r
 |.ax m a c=>.ax m a (AV.dW ids n c)
 |.pn wo wd c op=>.pn wo wd c op
 |.bF ag ks wd e op=>.bF ag ks wd e op
 |.mi m k s=>.mi (m.map (renB ids n)) k s
def fA(ids:List Nat)(n:Nat):List Blk→List Blk
 |[]=>[]
 |x::r=>Blk.ren ids n x::fA ids n r
def getIds(h:List Blk):List Nat→List Blk
 |[]=>[]
 |i::r=>nth .dead h i::getIds h r
def backH(h:List Blk):List Nat→List Blk→List Blk
 |[],new=>h++new
 |i::r,x::new=>backH (setNth h i x) r new
 |_::_,[]=>h
def killAll:List Nat→St→St
 |[],st=>st
 |b::r,st=>killAll r (st.kill b)
def memN:List Nat→Nat→Bool
 |[],_=>false
 |x::r,n=>Nat.beq x n||memN r n
def lA:List Nat→Bool
 |[]=>true
 |x::r=>!memN r x&&lA r
def liveIds(h:List Blk):List Nat→Bool
 |[]=>true
 |i::r=>(match nth .dead h i with|.dead=>false|.gh _ _=>false|.pn _ _ _ _=>false|.bF _ _ _ _ _=>false|.mi _ _ _=>false|_=>true)&&liveIds h r
def eU(ids:List Nat):List Nat→List Nat
 |[]=>[]
 |k::r=>nth 0 ids k::eU ids r
def n4(fx:Nat→Bool):List Nat→Bool
 |[]=>true
 |b::r=>!fx b&&n4 fx r
def n5(n:Nat):List Nat→Bool
 |[]=>true
 |b::r=>Nat.blt b n&&n5 n r
mutual
def flatP:PV→Bool
 |.au _ _ _=>false
 |.b5 _ _=>false
 |.agg l=>flatPL l
 |.fn _ a c=>flatPL a&&flatPL c
 |.bK _ x=>flatP x
 |_=>true
def flatPL:List PV→Bool
 |[]=>true
 |x::r=>flatP x&&flatPL r
end
mutual
def flatV:AV→Bool
 |.p x=>flatP x
 |.aD l=>xE l
 |_=>false
def xE:List AV→Bool
 |[]=>true
 |x::r=>flatV x&&xE r
end
def isNil{α:Type}:List α→Bool
 |[]=>true
 |_::_=>false
def m_(l:List Nat):List Nat→Bool
 |[]=>true
 |x::r=>!memN l x&&m_ l r
def eV:List Nat→St→St
 |[],st=>st
 |b::r,st=>eV r ⟨killT b st.tmps,setNth (killH b st.heap) b .dead⟩
def l9(E:En)(q:Bool)(f:Nat)(args:List AV)(d:Option Nat)(st:St)(k:St→Prop):Prop:=
 ∃(ids:List Nat) (H:List Blk) (gI:List AV) (mv:List Nat) (cH:AV→List Blk→Prop) (fr:List Nat) (flat:Bool),
  E.F f gI H mv cH∧
  ((bif q then isNil ids else true)=true∧(bif flat then isNil ids&&isNil fr else true)=true∧n4 E.fx (eU ids mv)=true∧n4 E.fx fr=true∧
    n5 H.length mv=true∧n5 st.heap.length fr=true∧ids.length=H.length∧lA ids=true∧m_ ids fr=true∧liveIds st.heap ids=true)∧
  fA ids st.heap.length H=getIds st.heap ids∧
  ak st.heap (λb=>flat||memN fr b) (memN ids) args (AV.dW ids st.heap.length gI)∧
  ∀r H',cH r H'→H.length≤H'.length→(flat=true→flatV r=true∧H'=[])∧
   k ((⟨(killAll (eU ids mv) (eV fr st)).tmps,backH (killAll (eU ids mv) (eV fr st)).heap ids (fA ids st.heap.length H')⟩:St).put d (AV.ren ids st.heap.length r))
inductive iV(E:En)(q:Bool)(f:Nat)(args:List AV)(d:Option Nat)(st:St)(k:St→Prop):Prop where
 |mk (h:l9 E q f args d st k):iV E q f args d st k
def iW(st:St)(d:Option Nat)(v:AV)(b:Blk):St:=(⟨st.tmps,st.heap++[b]⟩:St).put d v
def forceN(n:Nat)(k:Nat→Prop):Prop:=
 match n with
 |0=>k 0
 |1=>k 1
 |2=>k 2
 |3=>k 3
 |4=>k 4
 |5=>k 5
 |6=>k 6
 |7=>k 7
 |8=>k 8
 |9=>k 9
 |10=>k 10
 |11=>k 11
 |12=>k 12
 |13=>k 13
 |14=>k 14
 |15=>k 15
 |16=>k 16
 |17=>k 17
 |18=>k 18
 |19=>k 19
 |20=>k 20
 |21=>k 21
 |22=>k 22
 |23=>k 23
 |n=>k n
theorem Nf(n:Nat)(k:Nat→Prop):forceN n k=k n:=by unfold forceN;split<;>rfl
def ss(x:AV)(k:AV→Prop):Prop:=
 match x with
 |.p x=>k (.p x)
 |.agg l=>k (.agg l)
 |.aD l=>k (.aD l)
 |.fn f a c=>k (.fn f a c)
 |.bK t x=>k (.bK t x)
 |.ptr b w i j=>forceN b λb=>k (.ptr b w i j)
 |.sl b w i l c=>forceN b λb=>k (.sl b w i l c)
 |.aF b w i j e l=>forceN b λb=>k (.aF b w i j e l)
 |.mpr b=>forceN b λb=>k (.mpr b)
 |.b8 b w i l=>forceN b λb=>k (.b8 b w i l)
 |.ip b w i r j=>forceN b λb=>k (.ip b w i r j)
 |.undef=>k .undef
def forceT:List (Nat×AV)→(List (Nat×AV)→Prop)→Prop
 |[],k=>k []
 |(s,x)::r,k=>ss x λx=>forceT r λr=>k ((s,x)::r)
def forceCs:List AV→(List AV→Prop)→Prop
 |[],k=>k []
 |x::r,k=>ss x λx=>forceCs r λr=>k (x::r)
def forceB(x:Blk)(k:Blk→Prop):Prop:=
 match x with
 |.dead=>k .dead
 |.mx cells=>forceCs cells λc=>k (.mx c)
 |.pr wd rows=>k (.pr wd rows)
 |.mp ag ks e=>k (.mp ag ks e)
 |.ax n a c=>forceCs c λc=>k (.ax n a c)
 |.gh l r=>k (.gh l r)
 |.pn wo wd c op=>k (.pn wo wd c op)
 |.bF ag ks wd e op=>k (.bF ag ks wd e op)
 |.mi m n s=>k (.mi m n s)
def forceH:List Blk→(List Blk→Prop)→Prop
 |[],k=>k []
 |x::r,k=>forceB x λx=>forceH r λr=>k (x::r)
def forceSt(st:St)(k:St→Prop):Prop:=
 match st with
 |⟨t,h⟩=>forceT t λt=>forceH h λh=>k ⟨t,h⟩
theorem xF(x:AV)(k:AV→Prop):ss x k=k x:=by cases x<;>first|rfl|(rw[ss,Nf])
theorem FJ:∀(t:List (Nat×AV)) (k:List (Nat×AV)→Prop),forceT t k=k t
 |[],k=>rfl
 |(s,x)::r,k=>by rw[forceT,xF,FJ r]
theorem FK:∀(t:List AV) (k:List AV→Prop),forceCs t k=k t
 |[],k=>rfl
 |x::r,k=>by rw[forceCs,xF,FK r]
theorem Ng(x:Blk)(k:Blk→Prop):forceB x k=k x:=by cases x<;>first|rfl|(rw[forceB,FK])
theorem FL:∀(t:List Blk) (k:List Blk→Prop),forceH t k=k t
 |[],k=>rfl
 |x::r,k=>by rw[forceH,Ng,FL r]
theorem na(st:St)(k:St→Prop):forceSt st k=k st:=by obtain⟨t,h⟩:=st;rw[forceSt,FJ,FL]
def vstore0(E:En)(st:St)(a v:AV)(sz:Nat)(k:St→Prop):Prop:=
 match a with
 |.ptr b wd i j=>
  match nth .dead st.heap b with
  |.mx cells=>match i with
   |0=>(bif vok v&&Nat.beq (cellsOf v).length sz&&Nat.ble (j+sz) cells.length then
    forceSt ⟨st.tmps,setNth st.heap b (.mx (cells.take j++cellsOf v++cells.drop (j+sz)))⟩ k else False)
   |_+1=>False
  |.pr _ _=>bif vok v then vagg E st v λst ys=>(match nth .dead st.heap b with
   |.pr b6 rows=>bif Nat.beq wd b6 then ∃row,rows[i]? =some row∧
    ys.length=sz∧j+sz≤row.length∧k ⟨st.tmps,setNth st.heap b (.pr wd (rows.set i (row.take j++ys++row.drop (j+sz))))⟩else False
   |_=>False)else False
  |_=>False
 |_=>False
def AZ(n:Nat)(arr:List PV)(cells:List AV)(j:Nat)(v:AV)(sz:Nat)(k:List PV→List AV→Prop):Prop:=
 bif Nat.beq sz 1 then(j<n∧∃y,cellsOf v=[.p y]∧k (arr.set j y) cells)∨
  (n≤j∧(bif vok v&&Nat.beq (cellsOf v).length sz&&Nat.ble (j - n+sz) cells.length then k arr (cells.take (j - n)++cellsOf v++cells.drop (j - n+sz))else False))
 else bif Nat.ble n j then(bif vok v&&Nat.beq (cellsOf v).length sz&&Nat.ble (j - n+sz) cells.length then k arr (cells.take (j - n)++cellsOf v++cells.drop (j - n+sz))else False)
 else ∃jH rest,cellsOf v=jH.map .p++rest∧(vok v=true∧j=0∧jH.length=n∧n+rest.length=sz∧rest.length≤cells.length)∧k jH (rest++cells.drop rest.length)
def vpnst(E:En)(st:St)(b wo wd:Nat)(cells:List (Bool×List (List PV)))(op:Option Nat)(i:Nat)(v:AV)(k:St→Prop):Prop:=
 match v with
 |.b8 b' w' i' len=>bif Nat.beq b' b&&Nat.beq w' wd then(i'=i∧(op=none∨op=some i))∧∃rows,cells[i]? =some (true,rows)∧rows.length=len∧
  k ⟨st.tmps,setNth st.heap b (.pn wo wd cells none)⟩else False
 |.sl m w' i0 len _=>match nth .dead st.heap m with
  |.pr w2 rows=>bif Nat.beq w' wd&&Nat.beq w2 wd&&!E.fx m&&!Nat.beq m b then(i0+len=rows.length∧(op=none∨op=some i)∧i<cells.length)∧
   forceSt ⟨killT m (killT (.h b i) st.tmps),setNth (setNth (killH m (killH (.h b i) st.heap)) m .dead) b (.pn wo wd (cells.set i (true,dropN i0 rows)) none)⟩ k else False
  |_=>False
 |_=>False
def vstore(E:En)(st:St)(a v:AV)(sz:Nat)(k:St→Prop):Prop:=
 match a with
 |.ptr b wd i j=>
  match nth .dead st.heap b with
  |.pn wo w cells op=>bif Nat.beq wd wo&&Nat.beq sz 1 then vpnst E st b wo w cells op (i*wo+j) v k else False
  |.ax n arr cells=>match i with
   |0=>AZ n arr cells j v sz λarr cells=>k ⟨st.tmps,setNth st.heap b (.ax n arr cells)⟩
   |_+1=>False
  |_=>vstore0 E st (.ptr b wd i j) v sz k
 |.ip b wd i r j=>match nth .dead st.heap b with
  |.pn wo w cells op=>bif Nat.beq wd w&&Nat.beq sz 1 then ∃rows row y,(cells[i]? =some (true,rows)∧rows[r]? =some row∧j<row.length)∧cellsOf v=[.p y]∧
   k ⟨st.tmps,setNth st.heap b (.pn wo w (cells.set i (true,rows.set r (row.set j y))) op)⟩else False
  |_=>False
 |_=>False
def cK:Nat:=70368744177664
def vapp(E:En)(st:St)(s x:AV)(esz bytes:Nat)(d:Option Nat)(k:St→Prop):Prop:=
 match s with
 |.p (.au _ [] (some 0))=>lv st.heap x esz λxs=>xs.length*bytes≤cK∧
  k (iW st d (.sl st.heap.length esz 0 xs.length none) (.pr esz xs))
 |.p (.au wd rows (some c))=>lv st.heap x esz λxs=>(c<rows.length+xs.length∧(rows.length+xs.length)*bytes≤cK)∧
  (bif Nat.beq wd esz then k (iW st d (.sl st.heap.length esz 0 (rows.length+xs.length) none) (.pr esz (rows++xs)))else False)
 |.p (.au wd rows none)=>lv st.heap x esz λxs=>xs=[]∧k (st.put d (.p (.au wd rows none)))
 |.sl b wd i len _=>match nth .dead st.heap b with
  |.pr b6 rows=>bif Nat.beq wd b6&&Nat.beq wd esz&&!E.fx b then lv st.heap x esz λxs=>
   i+len=rows.length∧(len+xs.length)*bytes≤cK∧
   forceSt ⟨killT b st.tmps,setNth (killH b st.heap) b (.pr wd (dropN i rows++xs))⟩ λst=>k (st.put d (.sl b wd 0 (len+xs.length) none))else False
  |.pn wo w cells op=>bif Nat.beq wd wo&&Nat.beq wo esz&&Nat.beq esz 1&&!E.fx b then lv st.heap x esz λxs=>∃n w0,xs=List.replicate n [.au w0 [] (some 0)]∧
   (op=none∧i=0∧len=cells.length∧(len+n)*bytes≤cK)∧
   forceSt ⟨killT b st.tmps,setNth (killH b st.heap) b (.pn wo w (cells++List.replicate n (true,[])) none)⟩ λst=>k (st.put d (.sl b wo 0 (len+n) none))else False
  |_=>False
 |.b8 b wd i len=>match nth .dead st.heap b with
  |.pn wo b6 cells op=>bif Nat.beq wd b6&&Nat.beq wd esz then lv st.heap x esz λxs=>∃rows,cells[i]? =some (true,rows)∧(op=none∧rows.length=len∧(len+xs.length)*bytes≤cK)∧
   forceSt ⟨killT (.h b i) st.tmps,setNth (killH (.h b i) st.heap) b (.pn wo wd (cells.set i (true,rows++xs)) (some i))⟩ λst=>k (st.put d (.b8 b wd i (len+xs.length)))else False
  |.bF ag ks b6 ents op=>bif Nat.beq wd b6&&Nat.beq wd esz then lv st.heap x esz λxs=>∃y rows,ents[i]? =some (y,rows)∧(op=none∧rows.length=len∧(len+xs.length)*bytes≤cK)∧
   forceSt ⟨killT (.h b i) st.tmps,setNth (killH (.h b i) st.heap) b (.bF ag ks wd (ents.set i (y,rows++xs)) (some i))⟩ λst=>k (st.put d (.b8 b wd i (len+xs.length)))else False
  |_=>False
 |_=>False
def vcopy(st:St)(a s:AV)(esz:Nat)(d:Option Nat)(k:St→Prop):Prop:=
 match a with
 |.sl b wd i len _=>match nth .dead st.heap b with
  |.pr b6 rows=>bif Nat.beq wd b6&&Nat.beq wd esz then lv st.heap s esz λxs=>i+len≤rows.length∧
   k ((⟨st.tmps,setNth st.heap b (.pr wd (rows.take i++xs.take (min xs.length len)++rows.drop (i+min xs.length len)))⟩:St).put d (.p (.int .i64 (min xs.length len:Nat))))else False
  |_=>False
 |.aF b wd i j e len=>match nth .dead st.heap b with
  |.pr b6 rows=>bif Nat.beq wd b6&&Nat.beq e esz&&Nat.beq e 1 then lv st.heap s esz λxs=>∃row ys,rows[i]? =some row∧j+len≤row.length∧
   xs.take (min xs.length len)=ys.map (λx=>[x])∧
   k ((⟨st.tmps,setNth st.heap b (.pr wd (rows.set i (row.take j++ys++row.drop (j+min xs.length len))))⟩:St).put d (.p (.int .i64 (min xs.length len:Nat))))else False
  |_=>False
 |_=>False
def xG(st:St)(x:AV)(zero:List PV)(esz:Nat)(d:Option Nat)(k:St→Prop):Prop:=
 match x with
 |.sl b wd i len _=>match nth .dead st.heap b with
  |.pr b6 rows=>bif Nat.beq wd b6&&Nat.beq wd esz then i+len≤rows.length∧
   k ((⟨st.tmps,setNth st.heap b (.pr wd (rows.take i++List.replicate len zero++rows.drop (i+len)))⟩:St).put d (.aD []))else False
  |_=>False
 |_=>False
def qB(l:List AV)(k:List PV→Prop):Prop:=
 match allP l with
 |some ps=>k ps
 |none=>False
def A0(x:AV)(k:List PV→Prop):Prop:=
 match x with
 |.p (.agg l)=>k l
 |x=>qB (cellsOf x) k
def xH(arr:Bool)(sz:Nat)(d:Option Nat)(st:St)(v:AV)(k:St→Prop):Prop:=
 match arr with
 |true=>A0 v λps=>ps.length=sz∧k (iW st d (.ptr st.heap.length sz 0 0) (.pr sz [ps]))
 |false=>(bif vok v&&Nat.beq (cellsOf v).length sz then k (iW st d (.ptr st.heap.length sz 0 0) (.mx (cellsOf v)))else False)
def Nh(n sz:Nat)(d:Option Nat)(st:St)(v:AV)(k:St→Prop):Prop:=
 ∃arr rest,cellsOf v=arr.map .p++rest∧(vok v=true∧arr.length=n∧n+rest.length=sz)∧k (iW st d (.ptr st.heap.length sz 0 0) (.ax n arr rest))
def A1(zero:List PV)(esz bytes:Nat)(d:Option Nat)(st:St)(l c:AV)(k:St→Prop):Prop:=
 match l,c with
 |.p (.int _ n),.p (.int _ m)=>(0≤n∧n≤m∧m*bytes≤cK∧m≤cK)∧
  k (iW st d (.sl st.heap.length esz 0 n.toNat (some m.toNat)) (.pr esz (List.replicate n.toNat zero)))
 |_,_=>False
def A2(d:Option Nat)(st:St)(x:AV)(k:St→Prop):Prop:=
 match x with
 |.p (.str l)=>k (iW st d (.sl st.heap.length 1 0 l.length none) (.pr 1 (l.map fY)))
 |_=>False
def vyield(en:Bool)(l:Nat)(args:List AV)(d:Option Nat)(st:St)(k:St→Prop):Prop:=
 match st.heap with
 |.gh l' (some (y::r))::h=>l=l'∧qB args λps=>ps=y∧
  ((bif en&&isNil r then True else k ((⟨st.tmps,.gh l' (some r)::h⟩:St).put d (.p (.b true))))∧k ((⟨st.tmps,.gh l' none::h⟩:St).put d (.p (.b false))))
 |_=>False
def vcallv(E:En)(q:Bool)(f:AV)(args:List AV)(d:Option Nat)(st:St)(k:St→Prop):Prop:=
 match f with
 |.p (.fn f a c)=>iV E q f (a.map .p++args++c.map .p) d st k
 |.fn f a c=>iV E q f (a++args++c) d st k
 |.p (.lit (.func (.yield l) fi _))=>match q with
  |true=>False
  |false=>fi= #[]∧vyield E.en l args d st k
 |_=>False
def A3(E:En)(st:St)(ag:Bool)(ks:List CK)(b wd:Nat)(ents:List (PV×List (List PV)))(op:Option Nat)(x:PV)(v:AV)(k:St→Prop):Prop:=
 match v with
 |.b8 b' w' i len=>bif Nat.beq b' b&&Nat.beq w' wd then ∃rows,mfindN ents x 0=some (i,rows)∧(rows.length=len∧(op=none∨op=some i))∧
  k ⟨st.tmps,setNth st.heap b (.bF ag ks wd ents none)⟩else False
 |.sl m w' i0 len _=>match nth .dead st.heap m with
  |.pr w2 rows=>bif Nat.beq w' wd&&Nat.beq w2 wd&&!E.fx m&&!Nat.beq m b then(i0+len=rows.length∧op=none∧mfindN ents x 0=none)∧
   forceSt ⟨killT m (killT (.h b ents.length) st.tmps),setNth (setNth (killH m (killH (.h b ents.length) st.heap)) m .dead) b (.bF ag ks wd (ents++[(x,dropN i0 rows)]) none)⟩ k else False
  |_=>False
 |_=>False
def xI(E:En)(ag:Bool)(ks:List CK)(m x v:AV)(d:Option Nat)(st:St)(k:St→Prop):Prop:=
 qz x λx=>dQ ag ks x∧vmapn st.heap m ag ks (λb ents=>qz v λv=>k ((⟨st.tmps,setNth st.heap b (.mp ag ks (mput ents x v))⟩:St).put d .undef))
  λb wd ents op=>A3 E st ag ks b wd ents op x v λst=>k (st.put d .undef)
def A4(ag:Bool)(ks:List CK)(zero:PV)(m x:AV)(d:Option Nat)(st:St)(k:St→Prop):Prop:=
 qz x λx=>dQ ag ks x∧vmap st.heap m ag ks λb ents=>∃o,mfind ents x 0=o∧
  match o with
  |some (i,v)=>k (st.put d (.aD [.p v,.p (.int .i64 (i:Nat))]))
  |none=>k ((⟨st.tmps,setNth st.heap b (.mp ag ks (ents++[(x,zero)]))⟩:St).put d (.aD [.p zero,.p (.int .i64 ents.length)]))
def vestore(m s v:AV)(d:Option Nat)(st:St)(k:St→Prop):Prop:=
 qz v λv=>match m,s with
 |.mpr b,.p (.int _ n)=>match nth .dead st.heap b with
  |.mp ag ks ents=>(0≤n∧n<(ents.length:Int))∧k ((⟨st.tmps,setNth st.heap b (.mp ag ks (setVal ents n.toNat v))⟩:St).put d .undef)
  |_=>False
 |_,_=>False
def A5(d:Option Nat)(st:St)(m:AV)(k:St→Prop):Prop:=
 match m with
 |.mpr b=>match nth .dead st.heap b with
  |.mp _ _ ents=>k (iW st d (.ptr st.heap.length 1 0 0) (.mi (some b) ents.length []))
  |_=>False
 |_=>False
def vmnext(st:St)(x:AV)(d:Option Nat)(k:St→Prop):Prop:=
 match x with
 |.ptr b _ 0 0=>match nth .dead st.heap b with
  |.mi (some m) n seen=>match nth .dead st.heap m with
   |.mp _ _ ents=>n=ents.length∧
    (∀i y v,ents[i]? =some (y,v)→i∉seen→k ((⟨st.tmps,setNth st.heap b (.mi (some m) n (i::seen))⟩:St).put d (.aD [.p (.b true),.p y,.p v])))∧
    ((∀i,i<n→i∈seen)→k (st.put d (.aD [.p (.b false)])))
   |_=>False
  |_=>False
 |_=>False
def findTab:List (TypeId×Nat×Option (Nat×Bool))→TypeId→Option (Nat×Option (Nat×Bool))
 |[],_=>none
 |(t',r)::l,t=>bif Nat.beq t' t then some r else findTab l t
def vinv1(E:En)(q:Bool)(r:Option (Nat×Option (Nat×Bool)))(y:AV)(args:List AV)(d:Option Nat)(st:St)(k:St→Prop):Prop:=
 match r with
 |some (f,none)=>iV E q f (y::args) d st k
 |some (f,some (sz,ag))=>vload st.heap y sz ag λx=>iV E q f (x::args) d st k
 |none=>False
def xJ(E:En)(q:Bool)(uM:List (TypeId×Nat×Option (Nat×Bool)))(x:AV)(args:List AV)(d:Option Nat)(st:St)(k:St→Prop):Prop:=
 match x with
 |.p (.bK t y)=>vinv1 E q (findTab uM t) (.p y) args d st k
 |.bK t y=>vinv1 E q (findTab uM t) y args d st k
 |_=>False
def iA(E:En)(q:Bool)(o:RO)(d:Option Nat)(st:St)(k:St→Prop):Prop:=
 match o with
 |.alloc arr zero=>k (iW st d (.ptr st.heap.length zero.length 0 0) (bif arr then .pr zero.length [zero]else .mx (zero.map .p)))
 |.sj n z rest=>k (iW st d (.ptr st.heap.length (n+rest.length) 0 0) (.ax n (List.replicate n z) (rest.map .p)))
 |.box arr x sz=>force (ev st x) λv=>xH arr sz d st v k
 |.uJ n x sz=>Nh n sz d st (ev st x) k
 |.xp esz parts=>xA E st (evL st parts) λst rows=>(∀r∈rows,r.length=esz)∧
  k (iW st d (.sl st.heap.length esz 0 rows.length (some rows.length)) (.pr esz rows))
 |.xq zero esz bytes l c=>A1 zero esz bytes d st (ev st l) (ev st c) k
 |.bytesOf x=>A2 d st (ev st x) k
 |.store a v sz=>match q with
  |true=>False
  |false=>force (ev st a) λa=>force (ev st v) λv=>vstore E st a v sz λst=>k (st.put d .undef)
 |.app s x esz bytes=>match q with
  |true=>False
  |false=>force (ev st s) λs=>force (ev st x) λx=>vapp E st s x esz bytes d k
 |.copy a s esz=>match q with
  |true=>False
  |false=>force (ev st a) λa=>force (ev st s) λs=>vcopy st a s esz d k
 |.xr x zero esz=>match q with
  |true=>False
  |false=>force (ev st x) λx=>xG st x zero esz d k
 |.call f args=>iV E q f (evL st args) d st k
 |.AG f args=>vcallv E q (ev st f) (evL st args) d st k
 |.xu ag ks=>k (iW st d (.mpr st.heap.length) (.mp ag ks []))
 |.uK ag ks m x v=>match q with
  |true=>False
  |false=>force (ev st x) λx=>force (ev st v) λv=>xI E ag ks (ev st m) x v d st k
 |.uL ag ks zero m x=>match q with
  |true=>False
  |false=>force (ev st x) λx=>A4 ag ks zero (ev st m) x d st k
 |.xw m s v=>match q with
  |true=>False
  |false=>force (ev st v) λv=>vestore (ev st m) (ev st s) v d st k
 |.AI m=>A5 d st (ev st m) k
 |.AJ x=>match q with
  |true=>False
  |false=>force (ev st x) λx=>vmnext st x d k
 |.inv uM x args=>force (ev st x) λx=>xJ E q uM x (evL st args) d st k
 |o=>so o st λv=>k (st.put d v)
def guarded(g:Option (Nat×Bool))(d:Option Nat)(st:St)(k:St→Prop)(yes:St→Prop):Prop:=
 match g with
 |none=>yes st
 |some (s,want)=>match lk st.tmps s with
  |.p (.b c)=>bk c λc=>match c,want with
   |true,true|false,false=>yes ⟨(s,.p (.b c))::st.tmps,st.heap⟩
   |_,_=>k ((⟨(s,.p (.b c))::st.tmps,st.heap⟩:St).put d (.aD []))
  |.aD []=>k (st.put d (.aD []))
  |_=>False
def vops(E:En):List It→St→(St→Prop)→Prop
 |[],st,k=>k st
 |⟨g,d,o⟩::r,st,k=>guarded g d st (λst=>vops E r st k) λst=>iA E false o d st λst=>vops E r st k
def vdt(E:En):DT→St→(St→Prop)→Prop
 |.done,st,k=>k st
 |.take ⟨g,d,o⟩ r,st,k=>guarded g d st (λst=>vdt E r st k) λst=>so o st λv=>vdt E r (st.put d v) k
 |.alt ⟨g,d,o⟩ last r other,st,k=>
  (guarded g d st (λst=>vdt E r st k) λst=>iA E (!last) o d st λst=>vdt E r st k)∧vdt E other st k
 |.xx,_,_=>True
def uV(ids:List Nat)(n:Nat):List (Nat×AV)→List (Nat×AV)
 |[]=>[]
 |(s,x)::r=>(s,AV.ren ids n x)::uV ids n r
def St.perm(st:St)(ids:List Nat):St:=⟨uV ids ids.length st.tmps,getIds (fA ids ids.length st.heap) ids⟩
def xK(fx:Nat→Bool)(ids:List Nat):Nat→Bool
 |0=>true
 |k+1=>(Nat.beq (nth 0 ids (nth 0 ids k)) k&&Nat.blt (nth 0 ids k) ids.length&&(!(fx k||Nat.beq k 0)||Nat.beq (nth 0 ids k) k))&&xK fx ids k
def A6(fx:Nat→Bool)(n:Nat)(ids:List Nat):Bool:=Nat.beq ids.length n&&xK fx ids n
inductive fB(E:En)(K:St→Prop)(st:St):Prop
 |here (h:K st)
 |via (st':St) (h:K st') (hle:cX E st st')
 |perm (ids:List Nat) (st':St) (h:K st') (hp:A6 E.fx st.heap.length ids=true) (hle:cX E (st.perm ids) st')
def inBlk(id:Nat)(K:Ex→St→Prop):Ex→St→Prop
 |.exit n,st=>bif Nat.beq n id then K .normal st else K (.exit n) st
 |e,st=>K e st
def FM(n:St→Prop)(K:Ex→St→Prop):Ex→St→Prop
 |.normal,st=>n st
 |e,st=>K e st
def FN(c:AV)(k:Bool→Prop):Prop:=
 match c with
 |.p (.b c)=>bk c k
 |_=>False
def A7(c:aS)(b:Bool)(st:St):St:=
 match c with
 |.t s=>⟨(s,.p (.b b))::st.tmps,st.heap⟩
 |.c _=>st
def onIter(f:AV)(k:Nat→List PV→Prop):Prop:=
 match f with
 |.p (.fn g [] bu)=>k g bu
 |_=>False
def zipP:List Nat→List PV→List (Nat×AV)→List (Nat×AV)
 |p::ps,y::ys,t=>(p,.p y)::zipP ps ys t
 |_,_,t=>t
def xL(n:St→Prop):Ex→St→Prop
 |.normal,st=>n st
 |_,_=>False
def xM(live:List Nat)(K:Ex→St→Prop)(n:St→Prop):Ex→St→Prop
 |.normal,st=>n st
 |e,st=>K e (trim live st)
def awp(E:En):RC→(Ex→St→Prop)→St→Prop
 |.skip,K,st=>K .normal st
 |.ops l,K,st=>vops E l st (K .normal)
 |.draw t,K,st=>vdt E t st (fB E (K .normal))
 |.seq a b,K,st=>awp E a (FM (awp E b K) K) st
 |.cond c a b,K,st=>FN (ev st c) λv=>match v with
  |true=>awp E a K (A7 c true st)
  |false=>awp E b K (A7 c false st)
 |.block id a,K,st=>awp E a (inBlk id K) st
 |.loop live a,K,st=>∃(ms:List pk) (α:Type) (mk:α→St) (ok:α→Prop) (mu:α→Nat),
  (∃x,ok x∧cX E ((trim live st).kH ms) (mk x))∧
  ∀x,ok x→awp E a (FM (λst=>∃y,ok y∧mu y<mu x∧cX E (trim live st) (mk y)) K) (mk x)
 |.AK live f ps asg a,K,st=>onIter (ev st f) λg bu=>∃(en:Bool) (ys:List (List PV)) (ms:List pk) (α:Type) (mk:α→St) (ok:List (List PV)→α→Prop),
  E.G g bu en ys∧(en=true→∀x,¬ok [] x)∧(∀y∈ys,y.length=ps.length)∧
  (∃x,ok ys x∧cX E ((trim live st).kH ms) (mk x))∧
  (∀y r x,ok (y::r) x→awp E asg (xL λst=>awp E a (xM live K λst=>∃x,ok r x∧cX E (trim live st) (mk x)) st) ⟨zipP ps y (mk x).tmps,(mk x).heap⟩)∧
  ∀x,ok [] x→K .normal (mk x)
 |.exit id,K,st=>K (.exit id) st
 |.ret,K,st=>K .ret st
def vres1(st:St)(r:sk)(k:AV→Prop):Prop:=
 match r with
 |.tmp t=>force (lk st.tmps t) k
 |.cell t sz ag=>vload st.heap (lk st.tmps t) sz ag k
def vres(st:St):List sk→(List AV→Prop)→Prop
 |[],k=>k []
 |r::rs,k=>vres1 st r λx=>vres st rs λxs=>k (x::xs)
def resV:List AV→AV
 |[x]=>x
 |l=>.aD l
def uW(E:En)(res:List sk)(cH:AV→List Blk→Prop):Ex→St→Prop
 |.exit _,_=>False
 |_,st=>vres st res λxs=>∃r H',cH r H'∧(Nat.ble E.k H'.length=true∧fixOk E.fx H' E.k=true)∧
  ah st.heap (λb=>!c9 H' b) (λb=>c9 H' b) (resV xs) r∧
  ar st.heap (λb=>!c9 H' b) (λb=>c9 H' b) st.heap H'
def params:Nat→List AV→List (Nat×AV)
 |_,[]=>[]
 |n,x::r=>(n,x)::params (n+1) r
theorem f_{a b:Nat}(h:a≠b):Nat.beq a b=false:=by
 cases hb:Nat.beq a b
 ·rfl
 ·exact absurd (abg hb) h
structure az where
 m:Bn→Option (Nat×Nat×Nat)
 X:Nat→Prop
 S:Nat→Prop
 D:List Nat
 G:Prop
instance:CoeFun az (λ_=>Bn→Option (Nat×Nat×Nat)):=⟨az.m⟩
def az.I(ι:az)(c:Nat):Prop:=∃b o s,ι b=some (c,o,s)
def az.M(ι:az)(c:Nat):Prop:=ι.I c∨ι.X c
def PV.one:PV→Bool
 |.agg _=>false
 |_=>true
inductive RP(w:World)(M:Nat→Prop):PV→Value→Prop
 |int (k:IntKind) (n:Int):RP w M (.int k n) (.int k n)
 |b (x:Bool):RP w M (.b x) (.bool x)
 |str (l:List UInt8):RP w M (.str l) (.string ⟨⟨l⟩⟩)
 |lit (v:Value) (h:dP v=true):RP w M (.lit v) v
 |nil {wd:Nat} {cap:Option Nat} {a:Option Addr} {c:Nat} (h:∀k,cap=some k→c=k):RP w M (.au wd [] cap) (.slice a 0 c)
 |au {wd:Nat} {rows:List (List PV)} {cap:Option Nat} {a:Addr} {c:Nat} {cv:Nat→Nat→Value} (hs:a.spot=none) (hM:¬M a.block)
  (hb:a.block<w.heap.size) (hc:rows.length≤c) (aR:∀k,cap=some k→c=k)
  (bm:∀(i:Nat) (row:List PV),rows[i]? =some row→row.length=wd)
  (bA:∀(i:Nat) (row:List PV) (j:Nat) (x:PV),rows[i]? =some row→row[j]? =some x→PV.one x=true)
  (bn:∀(i:Nat) (row:List PV) (j:Nat) (x:PV),rows[i]? =some row→row[j]? =some x→w.cell? ⟨a.block,a.off+(i*wd+j),none⟩=some (cv i j))
  (dt:∀(i:Nat) (row:List PV) (j:Nat) (x:PV),rows[i]? =some row→row[j]? =some x→RP w M x (cv i j)):RP w M (.au wd rows cap) (.slice (some a) rows.length c)
 |b5 {row:List PV} {j:Nat} {a:Addr} {cv:Nat→Value} (hs:a.spot=none) (hM:¬M a.block) (hb:a.block<w.heap.size)
  (bA:∀(i:Nat) x,row[i]? =some x→PV.one x=true)
  (bn:∀(i:Nat) x,row[i]? =some x→w.cell? ⟨a.block,a.off+i,none⟩=some (cv i))
  (dt:∀(i:Nat) x,row[i]? =some x→RP w M x (cv i)):RP w M (.b5 row j) (.pointer (some ⟨a.block,a.off+j,none⟩))
 |agg {cells:List PV} {cs:Array Value} (hl:cs.size=cells.length) (bA:∀(i:Nat) x,cells[i]? =some x→PV.one x=true)
  (h:∀(i:Nat) x,cells[i]? =some x→RP w M x (cs.getD i undef)):RP w M (.agg cells) (.agg cs)
 |fn {f:Nat} {first cap:List PV} {fa ca:Array Value} (h1:fa.size=first.length) (h2:ca.size=cap.length)
  (h3:∀(i:Nat) x,first[i]? =some x→RP w M x (fa.getD i undef)) (h4:∀(i:Nat) x,cap[i]? =some x→RP w M x (ca.getD i undef)):
  RP w M (.fn f first cap) (.func (.func f) fa ca)
 |bK {t:TypeId} {x:PV} {v:Value} (h:RP w M x v):RP w M (.bK t x) (.iface t v)
theorem RP.sv{w:World}{M:Nat→Prop}{x:PV}{v:Value}(h:RP w M x v)(h1:x.one=true):dP v=true:=by
 cases h<;>first|rfl|assumption|(simp[PV.one]at h1)
structure bc(M:Nat→Prop)(w w':World)(M':Nat→Prop):Prop where
 keep:∀(c:Nat) (o:Obj),¬M c→w.heap[c]? =some o→w'.heap[c]? =some o
 new:∀c,M' c→M c∨w.heap.size≤c
 grow:w.heap.size≤w'.heap.size
theorem bc.cell{M M':Nat→Prop}{w w':World}(h:bc M w w' M'){a:Addr}{v:Value}(hM:¬M a.block)(hc:w.cell? a=some v):
 w'.cell? a=some v:=by
 unfold World.cell? at*
 cases ho:w.heap[a.block]? with
 |none=>simp[ho]at hc
 |some o=>rw[h.keep _ _ hM ho];rw[ho]at hc;exact hc
theorem bc.refl(M:Nat→Prop)(w:World):bc M w w M:=⟨λ_ _ _ h=>h,λ_ h=>.inl h,aaJ _⟩
theorem RP.later{w w':World}{M M':Nat→Prop}(hL:bc M w w' M'){x:PV}{v:Value}(h:RP w M x v):RP w' M' x v:=by
 induction h with
 |int k n=>exact .int k n
 |b x=>exact .b x
 |str l=>exact .str l
 |lit v h=>exact .lit v h
 |nil h=>exact .nil h
 |au hs hM hb hc aR bm bA bn dt ih=>
  refine .au hs (λh'=>?_) (abL hb hL.grow) hc aR bm bA (λi row j x h1 h2=>hL.cell hM (bn i row j x h1 h2)) ih
  rcases hL.new _ h' with h'|h'
  ·exact hM h'
  ·omega
 |b5 hs hM hb bA bn dt ih=>
  refine .b5 hs (λh'=>?_) (abL hb hL.grow) bA (λi x h1=>hL.cell hM (bn i x h1)) ih
  rcases hL.new _ h' with h'|h'
  ·exact hM h'
  ·omega
 |agg hl bA h ih=>exact .agg hl bA ih
 |fn h1 h2 h3 h4 iX iY=>exact .fn h1 h2 iX iY
 |bK h ih=>exact .bK ih
inductive RA(w:World)(ι:az):AV→Value→Prop
 |p {x:PV} {v:Value} (h:RP w ι.M x v):RA w ι (.p x) v
 |aE (v:Value):RA w ι .undef v
 |ptr {b wd i j c o s:Nat} (h:ι b=some (c,o,s)):RA w ι (.ptr b wd i j) (.pointer (some ⟨c,o+(i*wd+j),none⟩))
 |sl {b wd i len c o s cc:Nat} {cap:Option Nat} (h:ι b=some (c,o,s)) (hl:len≤cc) (aR:∀k,cap=some k→cc=k)
  (hs:o+(i+cc)*wd≤s):RA w ι (.sl b wd i len cap) (.slice (some ⟨c,o+i*wd,none⟩) len cc)
 |c_ {b wd i:Nat} {cap:Option Nat} {oa:Option Addr} (aR:∀k,cap=some k→k=0):RA w ι (.sl b wd i 0 cap) (.slice oa 0 0)
 |aF {b wd i j esz len c o s cc:Nat} (h:ι b=some (c,o,s)) (hl:len≤cc):
  RA w ι (.aF b wd i j esz len) (.slice (some ⟨c,o+(i*wd+j),none⟩) len cc)
 |iZ {b wd i j esz cc:Nat} {oa:Option Addr}:RA w ι (.aF b wd i j esz 0) (.slice oa 0 cc)
 |mpr {b c o s:Nat} (h:ι b=some (c,o,s)):RA w ι (.mpr b) (.map (some c))
 |b8 {b wd i len c o s cc:Nat} (h:ι (.h b i)=some (c,o,s)) (hl:len≤cc) (hs:o+cc*wd≤s):RA w ι (.b8 b wd i len) (.slice (some ⟨c,o,none⟩) len cc)
 |iB {b wd i:Nat} {oa:Option Addr}:RA w ι (.b8 b wd i 0) (.slice oa 0 0)
 |ip {b wd i r j c o s:Nat} (h:ι (.h b i)=some (c,o,s)):RA w ι (.ip b wd i r j) (.pointer (some ⟨c,o+(r*wd+j),none⟩))
 |agg {cells:List AV} {cs:Array Value} (hl:cs.size=cells.length) (bA:∀(i:Nat) x,cells[i]? =some x→dP (cs.getD i undef)=true)
  (h:∀(i:Nat) x,cells[i]? =some x→RA w ι x (cs.getD i undef)):RA w ι (.agg cells) (.agg cs)
 |aD {vs:List AV} {cs:Array Value} (hl:cs.size=vs.length) (h:∀(i:Nat) x,vs[i]? =some x→RA w ι x (cs.getD i undef)):RA w ι (.aD vs) (.tuple cs)
 |fn {f:Nat} {first cap:List AV} {fa ca:Array Value} (h1:fa.size=first.length) (h2:ca.size=cap.length)
  (h3:∀(i:Nat) x,first[i]? =some x→RA w ι x (fa.getD i undef)) (h4:∀(i:Nat) x,cap[i]? =some x→RA w ι x (ca.getD i undef)):
  RA w ι (.fn f first cap) (.func (.func f) fa ca)
 |bK {t:TypeId} {x:AV} {v:Value} (h:RA w ι x v):RA w ι (.bK t x) (.iface t v)
theorem RA.later{w w':World}{ι aC:az}(hL:bc ι.M w w' aC.M)(bh:∀b p,ι b=some p→aC b=some p){x:AV}{v:Value}(h:RA w ι x v):RA w' aC x v:=by
 induction h with
 |p h=>exact .p (h.later hL)
 |aE v=>exact .aE v
 |ptr h=>exact .ptr (bh _ _ h)
 |sl h hl aR hs=>exact .sl (bh _ _ h) hl aR hs
 |c_ aR=>exact .c_ aR
 |aF h hl=>exact .aF (bh _ _ h) hl
 |iZ=>exact .iZ
 |mpr h=>exact .mpr (bh _ _ h)
 |b8 h hl hs=>exact .b8 (bh _ _ h) hl hs
 |iB=>exact .iB
 |ip h=>exact .ip (bh _ _ h)
 |agg hl bA h ih=>exact .agg hl bA ih
 |aD hl h ih=>exact .aD hl ih
 |fn h1 h2 h3 h4 iX iY=>exact .fn h1 h2 iX iY
 |bK h ih=>exact .bK ih
theorem sw(b:Bn)(l:List AV)(i:Nat):(AV.killL b l)[i]? =(l[i]?).map (AV.kill b):=by
 induction l generalizing i with
 |nil=>simp[AV.killL]
 |cons x r ih=>cases i<;>simp[AV.killL,ih]
theorem qC(b:Bn)(l:List AV):(AV.killL b l).length=l.length:=by
 induction l with
 |nil=>rfl
 |cons x r ih=>simp[AV.killL,ih]
def Bn.hit(k:Bn):Bn→Bool
 |.v b=>k.hitV b
 |.h b i=>k.hitH b i
theorem Bn.Ni(b:Nat)(x:Bn):(Bn.v b).hit x=Nat.beq x.base b:=by cases x<;>rfl
theorem Bn.n9{b:Nat}{x:Bn}(h:(Bn.v b).hit x=false):x.base≠b:=λe=>by rw[Bn.Ni,e]at h;simp at h
theorem Bn.qD{b b':Nat}(h:b'≠b):(Bn.v b')≠.v b:=λe=>h (Bn.v.inj e)
theorem RA.kill{w w':World}{ι aC:az}{b:Bn}(hL:bc ι.M w w' aC.M)(bh:∀b',b.hit b'=false→∀p,ι b'=some p→aC b'=some p){x:AV}{v:Value}(h:RA w ι x v):
 RA w' aC (x.kill b) v:=by
 induction h with
 |p h=>exact .p (h.later hL)
 |aE v=>exact .aE v
 |ptr h=>
  rename_i b' wd i j c o s
  unfold AV.kill
  cases e:b.hitV b' with
  |true=>exact .aE _
  |false=>exact .ptr (bh (.v b') e _ h)
 |sl h hl aR hs=>
  rename_i b' wd i len c o s cc cap
  unfold AV.kill
  cases e:b.hitV b' with
  |true=>exact .aE _
  |false=>exact .sl (bh (.v b') e _ h) hl aR hs
 |c_ aR=>
  rename_i b' wd i cap oa
  unfold AV.kill
  cases e:b.hitV b' with
  |true=>exact .aE _
  |false=>exact .c_ aR
 |aF h hl=>
  rename_i b' wd i j esz len c o s cc
  unfold AV.kill
  cases e:b.hitV b' with
  |true=>exact .aE _
  |false=>exact .aF (bh (.v b') e _ h) hl
 |iZ=>
  rename_i b' wd i j esz cc oa
  unfold AV.kill
  cases e:b.hitV b' with
  |true=>exact .aE _
  |false=>exact .iZ
 |mpr h=>
  rename_i b' c o s
  unfold AV.kill
  cases e:b.hitV b' with
  |true=>exact .aE _
  |false=>exact .mpr (bh (.v b') e _ h)
 |b8 h hl hs=>
  rename_i b' wd i len c o s cc
  unfold AV.kill
  cases e:b.hitH b' i with
  |true=>exact .aE _
  |false=>exact .b8 (bh (.h b' i) e _ h) hl hs
 |iB=>
  rename_i b' wd i oa
  unfold AV.kill
  cases e:b.hitH b' i with
  |true=>exact .aE _
  |false=>exact .iB
 |ip h=>
  rename_i b' wd i r j c o s
  unfold AV.kill
  cases e:b.hitH b' i with
  |true=>exact .aE _
  |false=>exact .ip (bh (.h b' i) e _ h)
 |agg hl bA h ih=>
  rw[AV.kill]
  refine .agg (by rw[qC];exact hl) (λi x hx=>?_) (λi x hx=>?_)
  all_goals rw[sw]at hx;obtain⟨y,hy,rfl⟩:=aaO.1 hx
  ·exact bA i y hy
  ·exact ih i y hy
 |aD hl h ih=>
  rw[AV.kill]
  refine .aD (by rw[qC];exact hl) (λi x hx=>?_)
  rw[sw]at hx;obtain⟨y,hy,rfl⟩:=aaO.1 hx
  exact ih i y hy
 |fn h1 h2 h3 h4 iX iY=>
  rw[AV.kill]
  refine .fn (by rw[qC];exact h1) (by rw[qC];exact h2) (λi x hx=>?_) (λi x hx=>?_)
  all_goals rw[sw]at hx;obtain⟨y,hy,rfl⟩:=aaO.1 hx
  ·exact iX i y hy
  ·exact iY i y hy
 |bK h ih=>rw[AV.kill];exact .bK ih
def kJ(n:Nat)(fz:Nat×Nat):Prop:=∀o,o<n→¬(fz.1≤o∧o<fz.2)
def n_(w:World)(ι:az)(c:Nat)(ag:Bool)(ks:List CK)(ents:List (PV×PV)):Prop:=
 ∃es,w.heap[c]? =some (.map es ents.length)∧es.size=ents.length∧
  ∀(i:Nat) k v,ents[i]? =some (k,v)→dQ ag ks k∧∃e,es[i]? =some e∧e.born=i∧RP w ι.M k e.key∧RP w ι.M v e.val
def RB(w:World)(ι:az)(p:Option (Nat×Nat×Nat)):Blk→Prop
 |.dead=>p=none
 |.mx cells=>∃c o s cs ty fz,p=some (c,o,s)∧w.heap[c]? =some (.cells cs ty fz)∧kJ cs.size fz∧cs.size=s∧o+cells.length≤s∧
  ∀(j:Nat) x,cells[j]? =some x→∃v,cs[o+j]? =some v∧dP v=true∧RA w ι x v
 |.pr wd rows=>(p=none∧rows=[])∨∃c o s cs ty fz,p=some (c,o,s)∧w.heap[c]? =some (.cells cs ty fz)∧kJ cs.size fz∧cs.size=s∧o+rows.length*wd≤s∧
  (∀(i:Nat) (row:List PV),rows[i]? =some row→row.length=wd)∧
  ∀(i:Nat) (row:List PV) (j:Nat) (x:PV),rows[i]? =some row→row[j]? =some x→x.one=true∧∃v,cs[o+(i*wd+j)]? =some v∧RP w ι.M x v
 |.mp ag ks ents=>∃c o s,p=some (c,o,s)∧n_ w ι c ag ks ents
 |.gh _ _=>p=none∧ι.G
 |.pn _ wd cells _=>(p=none∧cells=[])∨∃c o s cs ty fz,p=some (c,o,s)∧w.heap[c]? =some (.cells cs ty fz)∧kJ cs.size fz∧cs.size=s∧o+cells.length≤s∧
  ∀(j:Nat) fl rows,cells[j]? =some (fl,rows)→∃v,cs[o+j]? =some v∧dP v=true∧(fl=false→RP w ι.M (.au wd rows (some rows.length)) v)
 |.bF ag ks _ ents _=>∃c o s,p=some (c,o,s)∧∃es,w.heap[c]? =some (.map es ents.length)∧es.size=ents.length∧
  ∀(i:Nat) k rows,ents[i]? =some (k,rows)→dQ ag ks k∧∃e,es[i]? =some e∧e.born=i∧RP w ι.M k e.key
 |.mi m n seen=>∃c s cm sn,p=some (c,0,s)∧w.heap[c]? =some (.mapIter (some cm) n sn n)∧sn.toList.reverse=seen∧∀b,m=some b→∃o2 s2,ι (.v b)=some (cm,o2,s2)
 |.ax n arr cells=>arr.length=n∧∃c o s cs ty fz,p=some (c,o,s)∧w.heap[c]? =some (.cells cs ty fz)∧kJ cs.size fz∧cs.size=s∧o+(arr.map AV.p++cells).length≤s∧
  ∀(j:Nat) x,(arr.map AV.p++cells)[j]? =some x→∃v,cs[o+j]? =some v∧dP v=true∧RA w ι x v
def ga(w:World)(M:Nat→Prop):Prop:=
 ∀g row,(g,row)∈AL→¬M g∧g<w.heap.size∧∀(i:Nat) x,row[i]? =some x→PV.one x=true∧∃v,w.cell? ⟨g,i,none⟩=some v∧RP w M x v
theorem ga.later{w w':World}{M M':Nat→Prop}(h:ga w M)(hL:bc M w w' M'):ga w' M':=λg row hg=>by
 obtain⟨h1,h2,h3⟩:=h g row hg
 refine⟨λh'=>?_,abL h2 hL.grow,λi x hx=>?_⟩
 ·rcases hL.new _ h' with h'|h'
  ·exact h1 h'
  ·omega
 ·obtain⟨ho,v,hv,hr⟩:=h3 i x hx
  exact⟨ho,v,hL.cell h1 hv,hr.later hL⟩
def lB(w:World)(p:Option (Nat×Nat×Nat)):Blk→Nat→Value→Prop
 |.pn _ _ _ _,i,v=>∃c o s,p=some (c,o,s)∧w.cell? ⟨c,o+i,none⟩=some v
 |.bF _ _ _ ents _,i,v=>∃c o s es e,p=some (c,o,s)∧w.heap[c]? =some (.map es ents.length)∧es[i]? =some e∧e.val=v
 |_,_,_=>False
def po(q:Option (Nat×Nat×Nat))(wd len:Nat)(v:Value):Prop:=
 (∃c o s cc,q=some (c,o,s)∧v=.slice (some ⟨c,o,none⟩) len cc∧len≤cc∧o+cc*wd≤s)∨(len=0∧∃oa,v=.slice oa 0 0)
def HB(w:World)(ι:az)(p q:Option (Nat×Nat×Nat))(i:Nat)(x:Blk):Prop:=
 match x.inner i with
 |none=>q=none
 |some (wd,rows,t)=>RB w ι q (.pr wd rows)∧(t=true→∃v,lB w p x i v∧po q wd rows.length v)
structure bL(ι:az)(h:List Blk)(w:World):Prop where
 gl:ga w ι.M
 blk:∀b:Nat,RB w ι (ι b) (nth .dead h b)
 inj:∀b b' c o s o' s',ι b=some (c,o,s)→ι b'=some (c,o',s')→b=b'
 cC:∀b c o s,ι b=some (c,o,s)→¬ι.X c
 hid:∀b i,HB w ι (ι (.v b)) (ι (.h b i)) i (nth .dead h b)
theorem bL.size{ι:az}{h:List Blk}{w:World}(hr:bL ι h w){x:Bn}{c o s:Nat}(hb:ι x=some (c,o,s)):
 ∃ob,w.heap[c]? =some ob∧nth .dead h x.base≠.dead:=by
 cases x with
 |h b i=>
  have:=hr.hid b i
  unfold HB at this
  show ∃ob,w.heap[c]? =some ob∧nth .dead h b≠.dead
  cases hk:(nth .dead h b).inner i with
  |none=>rw[hk]at this;rw[hb]at this;cases this
  |some y=>
   obtain⟨wd,rows,t⟩:=y
   rw[hk]at this
   obtain⟨h1,_⟩:=this
   rw[hb,RB]at h1
   rcases h1 with⟨h0,_⟩|⟨c',o',s',cs,ty,fz,he,h1,_⟩
   ·cases h0
   ·cases he
    exact⟨_,h1,λe=>by rw[e]at hk;cases hk⟩
 |v b=>
 show ∃ob,w.heap[c]? =some ob∧nth .dead h b≠.dead
 have:=hr.blk b
 cases hk:nth .dead h b with
 |dead=>rw[hk,RB,hb]at this;cases this
 |mx cells=>
  rw[hk,RB,hb]at this
  obtain⟨c',o',s',cs,ty,fz,he,h1,hf,h2,_⟩:=this
  cases he
  exact⟨_,h1,by simp⟩
 |pr wd rows=>
  rw[hk,RB,hb]at this
  rcases this with⟨h0,_⟩|⟨c',o',s',cs,ty,fz,he,h1,hf,h2,_⟩
  ·cases h0
  ·cases he
   exact⟨_,h1,by simp⟩
 |mp ag ks ents=>
  rw[hk,RB,hb]at this
  obtain⟨c',o',s',he,es,h1,_⟩:=this
  cases he
  exact⟨_,h1,by simp⟩
 |gh l r=>
  rw[hk,RB,hb]at this
  cases this.1
 |ax n arr cells=>
  rw[hk,RB,hb]at this
  obtain⟨_,c',o',s',cs,ty,fz,he,h1,hf,h2,_⟩:=this
  cases he
  exact⟨_,h1,by simp⟩
 |pn wo wd cells op=>
  rw[hk,RB,hb]at this
  rcases this with⟨h0,_⟩|⟨c',o',s',cs,ty,fz,he,h1,_⟩
  ·cases h0
  cases he
  exact⟨_,h1,by simp⟩
 |bF ag ks wd ents op=>
  rw[hk,RB,hb]at this
  obtain⟨c',o',s',he,es,h1,_⟩:=this
  cases he
  exact⟨_,h1,by simp⟩
 |mi m n seen=>
  rw[hk,RB,hb]at this
  obtain⟨c',s',cm,sn,he,h1,_⟩:=this
  cases he
  exact⟨_,h1,by simp⟩
theorem bL.lt{ι:az}{h:List Blk}{w:World}(hr:bL ι h w){c:Nat}(hc:ι.I c):c<w.heap.size:=by
 obtain⟨b,o,s,hb⟩:=hc
 obtain⟨ob,h1,_⟩:=hr.size hb
 exact(aaW.1 h1).1
theorem l_{α:Type}(d:α)(l:List α)(n:Nat)(h:l.length≤n):nth d l n=d:=by
 induction l generalizing n with
 |nil=>rfl
 |cons x r ih=>cases n with
  |zero=>simp at h
  |succ n=>simp[nth];exact ih n (by simpa using h)
theorem iC{α:Type}(d:α)(l:List α)(n:Nat):nth d l n=(l[n]?).getD d:=by
 induction l generalizing n with
 |nil=>simp[nth]
 |cons x r ih=>cases n with
  |zero=>simp[nth]
  |succ n=>simp[nth,ih]
theorem eA{α:Type}(l:List α)(n:Nat)(v:α):setNth l n v=l.set n v:=by
 induction l generalizing n with
 |nil=>rfl
 |cons x r ih=>cases n with
  |zero=>rfl
  |succ n=>simp[setNth,ih]
theorem gJ{α:Type}(n:Nat)(l:List α):dropN n l=l.drop n:=by cases n<;>rfl
theorem pq{α:Type}(d:α)(l:List α)(x:α)(n:Nat):nth d (l++[x]) n=if n=l.length then x else nth d l n:=by
 rw[iC,iC,abw]
 by_cases h:n<l.length
 ·simp[h,Nat.ne_of_lt h]
 ·by_cases e:n=l.length
  ·subst e;simp
  ·have h1:l[n]? =none:=aaS (by omega)
   have h2:([x]:List α)[n - l.length]? =none:=aaS (by simp;omega)
   simp[h,e,h2]
theorem da{α:Type}(d:α)(l:List α)(n m:Nat)(v:α)(h:n<l.length):nth d (setNth l n v) m=if m=n then v else nth d l m:=by
 rw[eA,iC,iC,aaZ]
 by_cases e:n=m
 ·subst e;simp[h]
 ·simp[e,abk e]
theorem bL.fO{ι:az}{h:List Blk}{w:World}(hr:bL ι h w){b:Nat}(hb:nth .dead h b≠.dead):b<h.length:=by
 rcases abz b h.length with h'|h'
 ·exact h'
 ·exact absurd (l_ _ _ _ h') hb
theorem n_.later{w w':World}{ι aC:az}{c:Nat}{ag:Bool}{ks:List CK}{ents:List (PV×PV)}(hL:bc ι.M w w' aC.M)(hk:w'.heap[c]? =w.heap[c]?)(h:n_ w ι c ag ks ents):n_ w' aC c ag ks ents:=by
 obtain⟨es,h1,h2,h3⟩:=h
 refine⟨es,by rw[hk];exact h1,h2,λi k v hi=>?_⟩
 obtain⟨g0,e,g1,g2,g3,g4⟩:=h3 i k v hi
 exact⟨g0,e,g1,g2,g3.later hL,g4.later hL⟩
theorem RB.sx{w w':World}{ι aC:az}{p:Option (Nat×Nat×Nat)}{wo wd:Nat}{cells:List (Bool×List (List PV))}{op A8:Option Nat}(hL:bc ι.M w w' aC.M)
 (hk:∀c o s,p=some (c,o,s)→w'.heap[c]? =w.heap[c]?) (h:RB w ι p (.pn wo wd cells op)):RB w' aC p (.pn wo wd cells A8):=by
 rcases h with h|⟨c,o,s,cs,ty,fz,hp,h1,hf,h2,h3,h4⟩
 ·exact .inl h
 refine .inr ⟨c,o,s,cs,ty,fz,hp,by rw[hk _ _ _ hp,h1],hf,h2,h3,λj fl rows hx=>?_⟩
 obtain⟨v,hv,ho,hr⟩:=h4 j fl rows hx
 exact⟨v,hv,ho,λe=>(hr e).later hL⟩
theorem RB.sy{w w':World}{ι aC:az}{p:Option (Nat×Nat×Nat)}{ag:Bool}{ks:List CK}{wd:Nat}{ents:List (PV×List (List PV))}{op A8:Option Nat}(hL:bc ι.M w w' aC.M)
 (hk:∀c o s,p=some (c,o,s)→w'.heap[c]? =w.heap[c]?) (h:RB w ι p (.bF ag ks wd ents op)):RB w' aC p (.bF ag ks wd ents A8):=by
 obtain⟨c,o,s,hp,es,h1,h2,h3⟩:=h
 refine⟨c,o,s,hp,es,by rw[hk _ _ _ hp];exact h1,h2,λi k rows hi=>?_⟩
 obtain⟨g0,e,g1,g2,g3⟩:=h3 i k rows hi
 exact⟨g0,e,g1,g2,g3.later hL⟩
theorem RB.kK{w w':World}{ι aC:az}{p:Option (Nat×Nat×Nat)}{wd:Nat}{rows:List (List PV)}(hL:bc ι.M w w' aC.M)
 (hk:∀c o s,p=some (c,o,s)→w'.heap[c]? =w.heap[c]?) (h:RB w ι p (.pr wd rows)):RB w' aC p (.pr wd rows):=by
 rcases h with h|⟨c,o,s,cs,ty,fz,hp,h1,hf,h2,h3,h4,h5⟩
 ·exact .inl h
 ·refine .inr ⟨c,o,s,cs,ty,fz,hp,by rw[hk _ _ _ hp,h1],hf,h2,h3,h4,λi row j x hi hx=>?_⟩
  obtain⟨ho,v,hv,hr⟩:=h5 i row j x hi hx
  exact⟨ho,v,hv,hr.later hL⟩
theorem RB.qE{w w':World}{ι aC:az}{p:Option (Nat×Nat×Nat)}{m m':Option Nat}{n:Nat}{seen:List Nat}(hm:∀b,m'=some b→∃b',m=some b'∧∀p,ι (.v b')=some p→aC (.v b)=some p)
 (hk:∀c o s,p=some (c,o,s)→w'.heap[c]? =w.heap[c]?) (h:RB w ι p (.mi m n seen)):RB w' aC p (.mi m' n seen):=by
 obtain⟨c,s,cm,sn,hp,h1,h2,h3⟩:=h
 refine⟨c,s,cm,sn,hp,by rw[hk _ _ _ hp];exact h1,h2,λb hb=>?_⟩
 obtain⟨b',e,bh⟩:=hm b hb
 obtain⟨o2,s2,h4⟩:=h3 b' e
 exact⟨o2,s2,bh _ h4⟩
theorem lB.later{w w':World}{p:Option (Nat×Nat×Nat)}{x:Blk}{i:Nat}{v:Value}(hk:∀c o s,p=some (c,o,s)→w'.heap[c]? =w.heap[c]?)(h:lB w p x i v):lB w' p x i v:=by
 cases x with
 |pn wo wd cells op=>
  obtain⟨c,o,s,hp,hv⟩:=h
  exact⟨c,o,s,hp,by unfold World.cell? at*;rw[hk _ _ _ hp];exact hv⟩
 |bF ag ks wd ents op=>
  obtain⟨c,o,s,es,e,hp,h1,h2⟩:=h
  exact⟨c,o,s,es,e,hp,by rw[hk _ _ _ hp];exact h1,h2⟩
 |_=>exact h.elim
theorem HB.later{w w':World}{ι aC:az}{p q:Option (Nat×Nat×Nat)}{i:Nat}{x:Blk}(hL:bc ι.M w w' aC.M)(hk:∀c o s,p=some (c,o,s)→w'.heap[c]? =w.heap[c]?)
 (Nj:∀c o s,q=some (c,o,s)→w'.heap[c]? =w.heap[c]?) (h:HB w ι p q i x):HB w' aC p q i x:=by
 unfold HB at*
 cases hx:x.inner i with
 |none=>rw[hx]at h;exact h
 |some y=>
  obtain⟨wd,rows,t⟩:=y
  rw[hx]at h
  exact⟨h.1.kK hL Nj,λht=>let ⟨v,h1,h2⟩:=h.2 ht;⟨v,h1.later hk,h2⟩⟩
theorem Nk(b:Bn)(x:Blk):(x.kill b).inner=x.inner:=by
 cases x with
 |mi m n s=>cases m<;>rfl
 |_=>rfl
theorem Nl{w:World}{p:Option (Nat×Nat×Nat)}(b:Bn){x:Blk}{i:Nat}{v:Value}(h:lB w p x i v):lB w p (x.kill b) i v:=by cases x<;>first|exact h|exact h.elim
theorem HB.kill{w:World}{ι:az}{p q:Option (Nat×Nat×Nat)}{i:Nat}{x:Blk}(b:Bn)(h:HB w ι p q i x):HB w ι p q i (x.kill b):=by
 unfold HB at*
 rw[Nk]
 cases hx:x.inner i with
 |none=>rw[hx]at h;exact h
 |some y=>
  obtain⟨wd,rows,t⟩:=y
  rw[hx]at h
  exact⟨h.1,λht=>let ⟨v,h1,h2⟩:=h.2 ht;⟨v,Nl b h1,h2⟩⟩
def Blk.bare:Blk→Bool
 |.pn _ _ _ _=>false
 |.bF _ _ _ _ _=>false
 |_=>true
theorem HB.bare{w:World}{ι:az}{p q:Option (Nat×Nat×Nat)}{i:Nat}{x:Blk}(hb:x.bare=true)(h:q=none):HB w ι p q i x:=by
 cases x<;>first|exact h|cases hb
theorem HB.none{w:World}{ι:az}{p q:Option (Nat×Nat×Nat)}{i:Nat}{x:Blk}(hb:x.bare=true)(h:HB w ι p q i x):q=none:=by
 cases x<;>first|exact h|cases hb
theorem RB.later{w w':World}{ι aC:az}{p:Option (Nat×Nat×Nat)}(hL:bc ι.M w w' aC.M)(hG:ι.G→aC.G)(bh:∀b p,ι b=some p→aC b=some p)
 (hk:∀c o s,p=some (c,o,s)→w'.heap[c]? =w.heap[c]?) {x:Blk} (h:RB w ι p x):RB w' aC p x:=by
 cases x with
 |dead=>exact h
 |mx cells=>
  obtain⟨c,o,s,cs,ty,fz,hp,h1,hf,h2,h3,h4⟩:=h
  refine⟨c,o,s,cs,ty,fz,hp,by rw[hk _ _ _ hp,h1],hf,h2,h3,λj x hx=>?_⟩
  obtain⟨v,hv,ho,hr⟩:=h4 j x hx
  exact⟨v,hv,ho,hr.later hL bh⟩
 |pr wd rows=>
  rcases h with h|⟨c,o,s,cs,ty,fz,hp,h1,hf,h2,h3,h4,h5⟩
  ·exact .inl h
  ·refine .inr ⟨c,o,s,cs,ty,fz,hp,by rw[hk _ _ _ hp,h1],hf,h2,h3,h4,λi row j x hi hx=>?_⟩
   obtain⟨ho,v,hv,hr⟩:=h5 i row j x hi hx
   exact⟨ho,v,hv,hr.later hL⟩
 |mp ag ks ents=>
  obtain⟨c,o,s,hp,h1⟩:=h
  exact⟨c,o,s,hp,h1.later hL (hk _ _ _ hp)⟩
 |gh l r=>exact⟨h.1,hG h.2⟩
 |pn wo wd cells op=>exact RB.sx hL hk h
 |bF ag ks wd ents op=>exact RB.sy hL hk h
 |mi m n seen=>exact RB.qE (λb hb=>⟨b,hb,λp hp=>bh _ _ hp⟩) hk h
 |ax n arr cells=>
  obtain⟨hn,c,o,s,cs,ty,fz,hp,h1,hf,h2,h3,h4⟩:=h
  refine⟨hn,c,o,s,cs,ty,fz,hp,by rw[hk _ _ _ hp,h1],hf,h2,h3,λj x hx=>?_⟩
  obtain⟨v,hv,ho,hr⟩:=h4 j x hx
  exact⟨v,hv,ho,hr.later hL bh⟩
theorem FO(b:Bn)(l:List PV):AV.killL b (l.map .p)=l.map .p:=by
 induction l with
 |nil=>rfl
 |cons x r ih=>simp[AV.killL,AV.kill,ih]
theorem FP(b:Bn)(l m:List AV):AV.killL b (l++m)=AV.killL b l++AV.killL b m:=by
 induction l with
 |nil=>rfl
 |cons x r ih=>simp[AV.killL,ih]
theorem RB.kill{w w':World}{ι aC:az}{b:Bn}{p:Option (Nat×Nat×Nat)}(hL:bc ι.M w w' aC.M)(hG:ι.G→aC.G)(bh:∀b',b.hit b'=false→∀p,ι b'=some p→aC b'=some p)
 (hk:∀c o s,p=some (c,o,s)→w'.heap[c]? =w.heap[c]?) {x:Blk} (h:RB w ι p x):
 RB w' aC p (x.kill b):=by
 cases x with
 |dead=>exact h
 |mx cells=>
  obtain⟨c,o,s,cs,ty,fz,hp,h1,hf,h2,h3,h4⟩:=h
  refine⟨c,o,s,cs,ty,fz,hp,by rw[hk _ _ _ hp,h1],hf,h2,by rw[qC];exact h3,λj x hx=>?_⟩
  rw[sw]at hx;obtain⟨y,hy,rfl⟩:=aaO.1 hx
  obtain⟨v,hv,ho,hr⟩:=h4 j y hy
  exact⟨v,hv,ho,hr.kill hL bh⟩
 |pr wd rows=>
  rcases h with h|⟨c,o,s,cs,ty,fz,hp,h1,hf,h2,h3,h4,h5⟩
  ·exact .inl h
  ·refine .inr ⟨c,o,s,cs,ty,fz,hp,by rw[hk _ _ _ hp,h1],hf,h2,h3,h4,λi row j x hi hx=>?_⟩
   obtain⟨ho,v,hv,hr⟩:=h5 i row j x hi hx
   exact⟨ho,v,hv,hr.later hL⟩
 |mp ag ks ents=>
  obtain⟨c,o,s,hp,h1⟩:=h
  exact⟨c,o,s,hp,h1.later hL (hk _ _ _ hp)⟩
 |gh l r=>exact⟨h.1,hG h.2⟩
 |pn wo wd cells op=>exact RB.sx hL hk h
 |bF ag ks wd ents op=>exact RB.sy hL hk h
 |mi m n seen=>
  cases m with
  |none=>exact RB.qE (λb hb=>by cases hb) hk h
  |some m=>
   refine RB.qE (λb' hb=>?_) hk h
   cases e:b.hitV m with
   |true=>simp[e]at hb
   |false=>
    simp[e]at hb
    subst hb
    exact⟨m,rfl,λp hp=>bh (.v m) e _ hp⟩
 |ax n arr cells=>
  obtain⟨hn,c,o,s,cs,ty,fz,hp,h1,hf,h2,h3,h4⟩:=h
  have e:arr.map AV.p++AV.killL b cells=AV.killL b (arr.map AV.p++cells):=by rw[FP,FO]
  refine⟨hn,c,o,s,cs,ty,fz,hp,by rw[hk _ _ _ hp,h1],hf,h2,by rw[e,qC];exact h3,λj x hx=>?_⟩
  rw[e,sw]at hx;obtain⟨y,hy,rfl⟩:=aaO.1 hx
  obtain⟨v,hv,ho,hr⟩:=h4 j y hy
  exact⟨v,hv,ho,hr.kill hL bh⟩
theorem jZ(b:Bn)(h:List Blk)(n:Nat):nth .dead (killH b h) n=(nth .dead h n).kill b:=by
 induction h generalizing n with
 |nil=>rfl
 |cons x r ih=>cases n with
  |zero=>rfl
  |succ n=>simp[killH,nth,ih]
theorem fc(b:Bn)(h:List Blk):(killH b h).length=h.length:=by
 induction h with
 |nil=>rfl
 |cons x r ih=>simp[killH,ih]
theorem Nn(b:Bn)(h:List Blk):killH b h=h.map (Blk.kill b):=by
 induction h with
 |nil=>rfl
 |cons x r ih=>simp[killH,ih]
theorem qF(b:Bn)(t:List (Nat×AV))(s:Nat):lk (killT b t) s=(lk t s).kill b:=by
 induction t with
 |nil=>rfl
 |cons x r ih=>
  obtain⟨k,v⟩:=x
  simp only[killT,lk,ih]
  cases Nat.beq k s<;>rfl
abbrev Jn:=Option (List (List PV))→World→(Nat→Prop)→(Nat→Prop)→Prop
def Jn.uX(J:Jn):Prop:=∀l (w w':World) (T T' S:Nat→Prop),J l w T S→(∀(c:Nat) (o:Obj),¬T c→w.heap[c]? =some o→w'.heap[c]? =some o)→
 (∀c,T' c→T c∨w.heap.size≤c)→(∀c,T' c→c<w'.heap.size)→w.heap.size≤w'.heap.size→(w'.os=w.os∧w'.output=w.output)→J l w' T' S
structure qG(S:Nat→Prop)(w w':World)(S':Nat→Prop):Prop where
 up:∀c,S c→S' c
 new:∀c,S' c→S c∨w.heap.size≤c
 lt:∀c,S' c→c<w'.heap.size
 keep:∀(c:Nat) (o:Obj),¬S c→w.heap[c]? =some o→w'.heap[c]? =some o
 grow:w.heap.size≤w'.heap.size
 os:w'.os=w.os∧w'.output=w.output
structure Cx where
 P:Program
 w0:World
 own:Nat→Prop
 n:Nat
 bw:Nat→Bool
 E:En
 bV:az
 J:Jn
 yl:Nat
 uY:Nat
 uZ:Bool
 a0:Nat→Value
 fk:∀b,E.fx b=true→b<E.k
 eI:∀t,bw t=true→t<n
 js:J.uX
 je:E.en=true→∀w T S,¬J (some []) w T S
structure Mem(cx:Cx)(ι:az)(h:List Blk)(w:World):Prop where
 hr:bL ι h w
 xl:∀c,ι.X c→c<w.heap.size
 xs:∀c,ι.S c→ι.X c
 xe:∀c,cx.bV.X c→ι.X c
 se:∀c,ι.S c→cx.bV.S c∨cx.w0.heap.size≤c
 ge:ι.G=cx.bV.G
 ow:∀c,ι.I c→cx.own c∨cx.w0.heap.size≤c
 fr:∀(c:Nat),¬cx.own c→¬cx.bV.S c→c<cx.w0.heap.size→w.heap[c]? =cx.w0.heap[c]?
 gr:cx.w0.heap.size≤w.heap.size
 os:w.os=cx.w0.os∧w.output=cx.w0.output
 fx:∀b:Nat,cx.E.fx b=true→ι b=cx.bV b
 kl:cx.E.k≤h.length
 dm:∀d∈ι.D,ι.X d∧¬ι.S d∧cx.uY≤d∧w.heap[d]? =some (.deferred (some []))
 dn:ι.D.Nodup
 jt:∀l r,nth .dead h 0=.gh l r→l=cx.yl∧cx.J r w ι.I ι.S
 su:ι.G→∀c,cx.bV.S c→ι.S c
 dz:cx.uZ=true→ι.D=[]
def xN(d:Nat):Deferred:={target:=.collected d,args:= #[]}
structure Rel(cx:Cx)(ι:az)(st:St)(a:Act)(w:World):Prop where
 mem:Mem cx ι st.heap w
 tm:∀s,RA w ι (lk st.tmps s) (a.tmps.getD s undef)
 sz:a.tmps.size=cx.n∧∀s,cx.bw s=false→a.tmps.getD s undef=cx.a0 s
 df:a.defers=ι.D.map xN
def Kc(cx:Cx)(K:St→Prop)(a:Act)(w:World):Prop:=∃ι st,Rel cx ι st a w∧K st
def Ext(w w':World):Prop:=∀(c:Nat) (o:Obj),w.heap[c]? =some o→w'.heap[c]? =some o
theorem Ext.refl(w:World):Ext w w:=λ_ _ h=>h
theorem Ext.trans{w w' j0:World}(h:Ext w w')(h':Ext w' j0):Ext w j0:=λc o hc=>h' c o (h c o hc)
theorem Ext.cell{w w':World}(h:Ext w w'){a:Addr}{v:Value}(hc:w.cell? a=some v):w'.cell? a=some v:=by
 unfold World.cell? at*
 cases ho:w.heap[a.block]? with
 |none=>simp[ho]at hc
 |some o=>rw[h _ _ ho];rw[ho]at hc;exact hc
theorem Ext.size{w w':World}(h:Ext w w'):w.heap.size≤w'.heap.size:=by
 rcases abz w'.heap.size w.heap.size with aq|dG
 ·have h1:w.heap[w'.heap.size]? =some w.heap[w'.heap.size]:=abh aq
  have h2:=h _ _ h1
  simp at h2
 ·exact dG
theorem Act.No(a:Act)(d:Option Tmp)(v:Value):(a.put d v).tmps.size=a.tmps.size:=by cases d<;>simp[Act.put]
theorem Act.sA(a:Act)(d:Option Tmp)(v:Value):(a.put d v).defers=a.defers:=by cases d<;>rfl
theorem sB{w:World}{ι:az}{st:St}{a:Act}{n:Nat}(h:∀s,RA w ι (lk st.tmps s) (a.tmps.getD s undef))(bM:a.tmps.size=n){d:Option Nat}
 (hd:∀t,d=some t→t<n) {x:AV} {v:Value} (hx:RA w ι x v):∀s,RA w ι (lk (st.put d x).tmps s) ((a.put d v).tmps.getD s undef):=by
 intro s
 cases d with
 |none=>exact h s
 |some d=>
  simp only[St.put,lk,Act.put]
  have aq:=hd d rfl
  by_cases e:d=s
  ·subst e
   rw[show Nat.beq d d=true from by simp]
   simp[bM,aq,hx]
  ·rw[f_ e]
   have:=h s
   simpa [ab4 e]using this
theorem pt(st:St)(d:Option Nat)(x:AV):(st.put d x).heap=st.heap:=by cases d<;>rfl
def Sz(cx:Cx)(a:Act):Prop:=a.tmps.size=cx.n∧∀s,cx.bw s=false→a.tmps.getD s undef=cx.a0 s
theorem Sz.put{cx:Cx}{a:Act}(h:Sz cx a){d:Option Nat}(hd:∀t,d=some t→cx.bw t=true)(v:Value):Sz cx (a.put d v):=by
 refine⟨by rw[Act.No];exact h.1,λs hs=>?_⟩
 rw[←h.2 s hs]
 cases d with
 |none=>rfl
 |some d=>
  have e:d≠s:=λe=>by subst e;rw[hd d rfl]at hs;cases hs
  simp[Act.put,ab4 e]
theorem Rel.put{cx:Cx}{ι:az}{st:St}{a:Act}{w:World}(h:Rel cx ι st a w){d:Option Nat}(hd:∀t,d=some t→cx.bw t=true){x:AV}{v:Value}
 (hx:RA w ι x v):Rel cx ι (st.put d x) (a.put d v) w:=
 ⟨by rw[pt];exact h.mem,sB h.tm h.sz.1 (λt ht=>cx.eI t (hd t ht)) hx,Sz.put h.sz hd v,by rw[Act.sA];exact h.df⟩
def pv1:Value→Option PV
 |.int k n=>some (.int k n)
 |.bool x=>some (.b x)
 |.string s=>some (.str s.data.toList)
 |.float k b=>some (.lit (.float k b))
 |.pointer none=>some (.lit (.pointer none))
 |.slice none 0 0=>some (.au 0 [] (some 0))
 |.map none=>some (.lit (.map none))
 |.nilFunc=>some (.lit .nilFunc)
 |.nilIface=>some (.lit .nilIface)
 |_=>none
def pvL:List Value→Option (List PV)
 |[]=>some []
 |v::r=>match pv1 v,pvL r with
  |some x,some l=>some (x::l)
  |_,_=>none
def pvOf:Value→Option PV
 |.agg cs=>(pvL cs.toList).map .agg
 |v=>pv1 v
def cOpd:Operand→Option aS
 |.tmp t=>some (.t t)
 |.const v=>(pvOf v).map .c
 |.func f=>some (.c (.fn f [] []))
 |.global g=>(glbRow AL g).map λr=>.c (.b5 r 0)
def cOpds:List Operand→Option (List aS)
 |[]=>some []
 |x::r=>match cOpd x,cOpds r with
  |some y,some l=>some (y::l)
  |_,_=>none
def cOpdO:Option Operand→Option (Option aS)
 |none=>some none
 |some x=>(cOpd x).map some
def aggT(P:Program)(t:TypeId):Option Bool:=
 match P.underlying t with
 |some (.struct _)|some (.array _ _)=>some true
 |some _=>some false
 |none=>none
def bI(P:Program)(t:TypeId):Option Nat:=(P.info? t).map (·.size)
def qH(P:Program)(t:TypeId):Option Nat:=(P.info? t).map (·.bytes)
def zeroT(P:Program)(t:TypeId):Option (List PV):=
 match (P.info? t).bind (·.zero)with
 |some v=>pvL v.cells.toList
 |none=>none
def sC(P:Program)(t:TypeId):Bool:=
 match P.underlying t with
 |some (.array _ _)=>true
 |_=>false
def plainF(sz:TypeId→Option (List CK)):Nat→List Field→Option (List CK)
 |_,[]=>some []
 |off,f::r=>if f.name= "_" ∨f.offset≠off then none else match sz f.type with
  |some ks=>if ks.length=0 then none else match plainF sz (off+ks.length) r with
   |some ls=>some (ks++ls)
   |none=>none
  |none=>none
def plainK(P:Program):Nat→TypeId→Option (List CK)
 |0,_=>none
 |d+1,t=>match P.underlying t with
  |some .bool=>if bI P t=some 1 then some [.b]else none
  |some (.int k)=>if bI P t=some 1 then some [.int k]else none
  |some .string=>if bI P t=some 1 then some [.str]else none
  |some (.array len e)=>match plainK P d e with
   |some ks=>if ks.length≠0∧bI P e=some ks.length∧bI P t=some (len*ks.length)then some (List.replicate len ks).flatten else none
   |none=>none
  |some (.struct fs)=>if P.stoodInHeld t then none else match plainF (plainK P d) 0 fs.toList with
   |some ks=>if bI P t=some ks.length then some ks else none
   |none=>none
  |_=>none
def keyK(P:Program)(t:TypeId):Option (Bool×List CK):=
 match plainK P 20 t,aggT P t with
 |some ks,some ag=>some (ag,ks)
 |_,_=>none
def zeroV(P:Program)(t:TypeId):Option PV:=((P.info? t).bind (·.zero)).bind pvOf
def sD(P:Program):Nat→TypeId→Nat
 |0,_=>0
 |d+1,t=>match P.underlying t with
  |some (.array n e)=>if 16≤n∧bI P e=some 1 then n else 0
  |some (.struct fs)=>match fs.toList with
   |f::_=>if f.offset=0 then sD P d f.type else 0
   |[]=>0
  |_=>0
def A9(P:Program)(t:TypeId):Bool:=
 match P.underlying t with
 |some (.struct _)=>true
 |_=>false
def eqPV:PV→PV→Bool
 |.int k a,.int l b=>decide (k=l)&&decide (a=b)
 |.b a,.b b=>a==b
 |_,_=>false
def xO(P:Program)(t:TypeId)(z:List PV):RO:=
 let n:=sD P 10 t
 match z with
 |[]=>.alloc (sC P t) z
 |z0::_=>if A9 P t=true∧0<n∧n≤z.length∧(z.take n).all (eqPV z0)=true then .sj n z0 (z.drop n)else .alloc (sC P t) z
def xP(P:Program)(t:TypeId)(x:aS)(s:Nat):RO:=
 let n:=sD P 10 t
 if A9 P t=true∧0<n∧n≤s then .uJ n x s else .box (sC P t) x s
def xQ(P:Program)(t:TypeId)(z:List PV)(parts:List (Nat×Nat×aS)):RO:=
 let n:=sD P 10 t
 match z with
 |[]=>.build z parts
 |z0::_=>if 0<n∧n≤z.length∧(z.take n).all (eqPV z0)=true then .xn n z0 (z.drop n) parts else .build z parts
theorem FQ(P:Program)(t:TypeId)(z:List PV)(ps:List (Nat×Nat×aS)):xQ P t z ps=.build z ps∨
 ∃n z0 rest,xQ P t z ps=.xn n z0 rest ps∧n≤z.length∧(z.take n).all (eqPV z0)=true∧z.drop n=rest:=by
 unfold xQ
 cases z with
 |nil=>exact .inl rfl
 |cons z0 r=>
  simp only
  split
  ·rename_i h;exact .inr ⟨_,_,_,rfl,h.2.1,h.2.2,rfl⟩
  ·exact .inl rfl
theorem FR(P:Program)(t:TypeId)(z:List PV):xO P t z=.alloc (sC P t) z∨
 ∃n z0 rest,xO P t z=.sj n z0 rest∧n≤z.length∧(z.take n).all (eqPV z0)=true∧z.drop n=rest:=by
 unfold xO
 cases z with
 |nil=>exact .inl rfl
 |cons z0 r=>
  simp only
  split
  ·rename_i h;exact .inr ⟨_,_,_,rfl,h.2.2.1,h.2.2.2,rfl⟩
  ·exact .inl rfl
theorem FT(P:Program)(t:TypeId)(x:aS)(s:Nat):xP P t x s=.box (sC P t) x s∨∃n,xP P t x s=.uJ n x s:=by
 unfold xP
 simp only
 split
 ·exact .inr ⟨_,rfl⟩
 ·exact .inl rfl
def cParts(places:Nat→Option (Nat×Nat)):List (Nat×Operand)→Option (List (Nat×Nat×aS))
 |[]=>some []
 |(i,x)::r=>match places i,cOpd x,cParts places r with
  |some (o,s),some y,some l=>some ((o,s,y)::l)
  |_,_,_=>none
def sE(n:Nat):List (Nat×Operand)→Option (List aS)
 |[]=>some []
 |(i,x)::r=>if i=n then match cOpd x,sE (n+1) r with
  |some y,some l=>some (y::l)
  |_,_=>none else none
def cBin(P:Program)(op:BinOp)(t:TypeId)(x y:aS):Option RO:=
 match P.underlying t with
 |some (.int _)|some .string=>some (.bin op x y)
 |some .bool=>match op with
  |.eql=>some (.AD false x y)
  |.neq=>some (.AD true x y)
  |_=>none
 |some (.slice _)=>match y,op with
  |.c (.au 0 [] (some 0)),.eql=>some (.AF false x)
  |.c (.au 0 [] (some 0)),.neq=>some (.AF true x)
  |_,_=>none
 |some (.pointer e)=>if(bI P e).getD 0=0 then none else match op with
  |.eql=>some (.AE false x y)
  |.neq=>some (.AE true x y)
  |_=>none
 |some (.struct _)|some (.array _ _)=>match plainK P 20 t with
  |some ks=>if P.eqGuardType P.depth t=false then match op with
   |.eql=>some (.xj false ks x y)
   |.neq=>some (.xj true ks x y)
   |_=>none else none
  |none=>none
 |_=>none
def invT(P:Program)(name:String)(t:TypeId):Option (TypeId×Nat×Option (Nat×Bool)):=
 match P.info? t with
 |some i=>match i.methods.find? (λm=>m.name==name)with
  |some m=>if m.path.isEmpty then match m.func,P.underlying t with
   |some (f,true),some (.pointer _)=>some (t,f,none)
   |some (f,false),some (.pointer e)=>match bI P e,aggT P e with
    |some s,some g=>some (t,f,some (s,g))
    |_,_=>none
   |_,_=>none
   else none
  |none=>none
 |none=>none
def u0(P:Program)(name:String):List (TypeId×Nat×Option (Nat×Bool)):=(List.range P.types.size).filterMap (invT P name)
def cop(P:Program)(o:Oper):Option RO:=
 match o.op with
 |.move x|.assign x=>(cOpd x).map .bD
 |.pick c a b=>match cOpd c,cOpd a,cOpd b with
  |some c,some a,some b=>some (.pick c a b)
  |_,_,_=>none
 |.binOp op t x y _=>match cOpd x,cOpd y with
  |some x,some y=>cBin P op t x y
  |_,_=>none
 |.unOp op _ x=>(cOpd x).map (.un op)
 |.alloc e=>(zeroT P e).map (xO P e)
 |.box e x=>match cOpd x,bI P e with
  |some x,some s=>some (xP P e x s)
  |_,_=>none
 |.build t parts=>match P.underlying t,zeroT P t with
  |some (.struct fs),some z=>if fs.toList.all (λf=>(bI P f.type).isSome)then
   (cParts (λi=>(fs.map λf=>(f.offset,(bI P f.type).getD 0))[i]?) parts.toList).map (xQ P t z)else none
  |some (.array _ e),some z=>match bI P e with
   |some s=>(cParts (λi=>some (i*s,s)) parts.toList).map (.build z)
   |none=>none
  |_,_=>none
 |.buildSlice t len parts=>match P.underlying t with
  |some (.slice e)=>match bI P e,sE 0 parts.toList with
   |some s,some l=>if l.length=len∧len*s≤2^24∧0<s∧(zeroT P e).isSome then some (.xp s l)else none
   |_,_=>none
  |_=>none
 |.load t x=>match cOpd x,bI P t,aggT P t with
  |some x,some s,some g=>some (.load x s g)
  |_,_,_=>none
 |.store t x v=>match cOpd x,cOpd v,bI P t with
  |some x,some v,some s=>some (.store x v s)
  |_,_,_=>none
 |.nilCheck x=>(cOpd x).map .Fj
 |.fieldAddr t x f=>match P.underlying t,cOpd x with
  |some (.struct fs),some x=>match fs[f]? with
   |some fd=>match bI P fd.type with
    |some (_+1)=>some (.Fp x fd.offset)
    |_=>none
   |none=>none
  |_,_=>none
 |.field t x f=>match P.underlying t,cOpd x with
  |some (.struct fs),some x=>match fs[f]? with
   |some fd=>match bI P fd.type,aggT P fd.type with
    |some s,some g=>some (.si x fd.offset s g)
    |_,_=>none
   |none=>none
  |_,_=>none
 |.indexAddr t x i=>match P.underlying t,cOpd x,cOpd i with
  |some (.array n e),some x,some i=>(bI P e).map (.Fk x i n)
  |some (.slice e),some x,some i=>(bI P e).map (.Fl x i)
  |_,_,_=>none
 |.index t x i=>match P.underlying t,cOpd x,cOpd i with
  |some (.array n e),some x,some i=>match bI P e,aggT P e with
   |some s,some g=>some (.Fo x i n s g)
   |_,_=>none
  |some .string,some x,some i=>some (.Fm x i)
  |_,_,_=>none
 |.slice t x lo hi mx=>match P.underlying t,cOpd x,cOpdO lo,cOpdO hi,cOpdO mx with
  |some (.array n e),some x,some lo,some hi,some mx=>(bI P e).bind λs=>if mx.isSome&&hi.isNone then none else some (.Fs x lo hi mx n s)
  |some (.slice e),some x,some lo,some hi,some mx=>(bI P e).bind λs=>if mx.isSome&&hi.isNone then none else some (.Fq x lo hi mx s)
  |some .string,some x,some lo,some hi,some none=>some (.Ft x lo hi)
  |_,_,_,_,_=>none
 |.convert s d x=>match P.underlying s,P.underlying d,cOpd x with
  |some (.int _),some (.int k),some x=>some (.Fv k x)
  |some .string,some .string,some x=>some (.Fw x)
  |some (.slice e),some .string,some x=>match P.underlying e with
   |some (.int .u8)=>some (.strOf x)
   |_=>none
  |some .string,some (.slice e),some x=>match P.underlying e with
   |some (.int .u8)=>some (.bytesOf x)
   |_=>none
  |_,_,_=>none
 |.makeInterface t x=>match P.underlying t,cOpd x with
  |some (.interface _),_=>none
  |some _,some x=>some (.Fy t x)
  |_,_=>none
 |.makeFunc (.func f) first cap=>match cOpds first.toList,cOpds cap.toList with
  |some a,some c=>some (.Fx f a c)
  |_,_=>none
 |.makeSlice t l c=>match P.underlying t,cOpd l,cOpd c with
  |some (.slice e),some l,some c=>match zeroT P e,bI P e,qH P e with
   |some z,some s,some b=>if z.length=s∧0<s∧0<b then some (.xq z s b l c)else none
   |_,_,_=>none
  |_,_,_=>none
 |.extract x i=>(cOpd x).map λx=>.ext x i
 |.call c=>match c.callee with
  |.value (.func f)=>(cOpds c.args.toList).map (.call f)
  |.value x=>match cOpd x,cOpds c.args.toList with
   |some x,some l=>some (.AG x l)
   |_,_=>none
  |.builtin .len=>match c.args.toList,c.argTypes.toList with
   |[x],[t]=>match P.underlying t,cOpd x with
    |some .string,some x=>some (.Fu x)
    |some (.slice _),some x=>some (.len x)
    |some (.map _ _),some x=>some (.Fz x)
    |_,_=>none
   |_,_=>none
  |.builtin .append=>match c.args.toList,c.argTypes.toList with
   |[s,x],[t,u]=>match P.underlying t,P.underlying u,cOpd s,cOpd x with
    |some (.slice e),some (.slice _),some s,some x|some (.slice e),some .string,some s,some x=>match zeroT P e,bI P e,qH P e with
     |some z,some n,some b=>if z.length=n∧0<n∧0<b then some (.app s x n b)else none
     |_,_,_=>none
    |_,_,_,_=>none
   |_,_=>none
  |.builtin .copy=>match c.args.toList,c.argTypes.toList with
   |[a,s],[t,_]=>match P.underlying t,cOpd a,cOpd s with
    |some (.slice e),some a,some s=>(bI P e).map λn=>.copy a s n
    |_,_,_=>none
   |_,_=>none
  |.builtin .max=>match c.args.toList with
   |[x,y]=>match cOpd x,cOpd y with
    |some x,some y=>some (.mm true x y)
    |_,_=>none
   |_=>none
  |.builtin .min=>match c.args.toList with
   |[x,y]=>match cOpd x,cOpd y with
    |some x,some y=>some (.mm false x y)
    |_,_=>none
   |_=>none
  |.builtin .clear=>match c.args.toList,c.argTypes.toList with
   |[x],[t]=>match P.underlying t,cOpd x with
    |some (.slice e),some x=>match zeroT P e,bI P e with
     |some z,some n=>if z.length=n∧0<n then some (.xr x z n)else none
     |_,_=>none
    |_,_=>none
   |_,_=>none
  |.invoke r name=>match cOpd r,cOpds c.args.toList with
   |some x,some l=>some (.inv (u0 P name) x l)
   |_,_=>none
  |_=>none
 |.makeMap t none=>match P.underlying t with
  |some (.map k _)=>(keyK P k).map λ(ag,ks)=>.xu ag ks
  |_=>none
 |.lookup t m x ok=>match P.underlying t with
  |some (.map k e)=>match keyK P k,zeroV P e,cOpd m,cOpd x with
   |some (ag,ks),some z,some m,some x=>some (.AH ag ks z ok m x)
   |_,_,_,_=>none
  |_=>none
 |.mapUpdate t m x v|.insert t m x v=>match P.underlying t with
  |some (.map k _)=>match keyK P k,cOpd m,cOpd x,cOpd v with
   |some (ag,ks),some m,some x,some v=>some (.uK ag ks m x v)
   |_,_,_,_=>none
  |_=>none
 |.mapEntry t m x=>match P.underlying t with
  |some (.map k e)=>match keyK P k,zeroV P e,cOpd m,cOpd x with
   |some (ag,ks),some z,some m,some x=>some (.uL ag ks z m x)
   |_,_,_,_=>none
  |_=>none
 |.entryStore _ m s v=>match cOpd m,cOpd s,cOpd v with
  |some m,some s,some v=>some (.xw m s v)
  |_,_,_=>none
 |.range t x=>match P.underlying t,cOpd x with
  |some (.map _ _),some m=>some (.AI m)
  |_,_=>none
 |.next x false=>(cOpd x).map .AJ
 |.entry x=>(cOpd x).map .FA
 |.typeAssert x _ t ok=>match P.underlying t,zeroV P t,cOpd x with
  |some (.interface _),_,_=>none
  |some _,some z,some x=>some (.FB t z ok x)
  |_,_,_=>none
 |_=>none
theorem dh{v:AV}{k:AV→Prop}(h:force v k):k v:=by
 cases v with
 |p x=>cases x<;>exact h
 |_=>exact h
theorem A_{v:PV}{k:PV→Prop}(h:uO v k):k v:=by cases v<;>exact h
theorem eC{a b:IntKind}{A:Prop}(h:mX a b A):a=b∧A:=by
 cases a<;>cases b<;>first|exact⟨rfl,h⟩|exact h.elim
theorem gK(c x n:Nat):(⟨c,x,none⟩:Addr).add n=⟨c,x+n,none⟩:=by
 unfold Addr.add
 by_cases h:n=0<;>simp[h]
theorem xR{a:Addr}(h:a.spot=none)(n:Nat):a.add n=⟨a.block,a.off+n,none⟩:=by
 obtain⟨b,o,s⟩:=a
 simp at h;subst h
 exact gK b o n
theorem Ba{w:World}{M:Nat→Prop}{v:Value}{x:PV}(h:pv1 v=some x):RP w M x v∧x.one=true:=by
 unfold pv1 at h
 split at h<;>first
  |(cases h;exact⟨.int _ _,rfl⟩)
  |(cases h;exact⟨.b _,rfl⟩)
  |(cases h;exact⟨.str _,rfl⟩)
  |(cases h;exact⟨.lit _ rfl,rfl⟩)
  |(cases h;exact⟨.nil (by simp),rfl⟩)
  |cases h
theorem FU{w:World}{M:Nat→Prop}{l:List Value}{xs:List PV}(h:pvL l=some xs):
 xs.length=l.length∧∀(i:Nat) x,xs[i]? =some x→x.one=true∧∃v,l[i]? =some v∧RP w M x v:=by
 induction l generalizing xs with
 |nil=>simp[pvL]at h;subst h;simp
 |cons v r ih=>
  unfold pvL at h
  split at h
  ·rename_i x l h1 h2
   cases h
   obtain⟨hl,hi⟩:=ih h2
   refine⟨by simp[hl],λi y hy=>?_⟩
   cases i with
   |zero=>simp at hy;subst hy;exact⟨(Ba (w:=w) (M:=M) h1).2,v,by simp,(Ba h1).1⟩
   |succ i=>simp at hy;simpa using hi i y hy
  ·cases h
theorem FV{w:World}{M:Nat→Prop}{v:Value}{x:PV}(h:pvOf v=some x):RP w M x v:=by
 unfold pvOf at h
 split at h
 ·rename_i cs
  obtain⟨xs,h1,rfl⟩:=aaO.1 h
  obtain⟨hl,hi⟩:=FU (w:=w) (M:=M) h1
  refine .agg (by rw[hl];simp) (λi x hx=>(hi i x hx).1) (λi x hx=>?_)
  obtain⟨_,v,hv,hr⟩:=hi i x hx
  have:cs.getD i undef=v:=by
   simp only[ab5]
   rw[←ac2,hv];rfl
  rw[this];exact hr
 ·exact(Ba h).1
theorem jI{w:World}{ι:az}{k:IntKind}{n:Int}{v:Value}(h:RA w ι (.p (.int k n)) v):v=.int k n:=by
 obtain⟨⟨⟩⟩|_:=h;rfl
theorem pw{w:World}{ι:az}{x:Bool}{v:Value}(h:RA w ι (.p (.b x)) v):v=.bool x:=by
 obtain⟨⟨⟩⟩|_:=h;rfl
theorem pz{w:World}{ι:az}{l:List UInt8}{v:Value}(h:RA w ι (.p (.str l)) v):v=.string ⟨⟨l⟩⟩:=by
 obtain⟨⟨⟩⟩|_:=h;rfl
theorem u4{w:World}{ι:az}{u v:Value}(h:RA w ι (.p (.lit u)) v):v=u:=by
 obtain⟨⟨⟩⟩|_:=h;rfl
section
variable {cx:Cx} {ι:az} {st:St} {a:Act} {w:World}
theorem Np{l:List (Nat×List PV)}{g:Nat}{r:List PV}(h:glbRow l g=some r):(g,r)∈l:=by
 induction l with
 |nil=>cases h
 |cons x s ih=>
  obtain⟨n,q⟩:=x
  unfold glbRow at h
  by_cases e:n=g
  ·subst e;simp at h;subst h;simp
  ·rw[f_ e]at h;exact acD _ (ih h)
theorem Nq(gl:ga w ι.M){g:Nat}{r:List PV}(h:glbRow AL g=some r):RA w ι (.p (.b5 r 0)) (a.eval (.global g)):=by
 obtain⟨h1,h2,h3⟩:=gl g r (Np h)
 let cv:Nat→Value:=λi=>(w.cell? ⟨g,i,none⟩).getD undef
 have dX:∀(i:Nat) x,r[i]? =some x→w.cell? ⟨g,i,none⟩=some (cv i)∧RP w ι.M x (cv i):=λi x hx=>by
  obtain⟨_,v,hv,hr⟩:=h3 i x hx
  have e:cv i=v:=by show(w.cell? _).getD undef=v;rw[hv];rfl
  rw[e];exact⟨hv,hr⟩
 exact .p (.b5 (a:=⟨g,0,none⟩) (cv:=cv) rfl h1 h2 (λi x hx=>(h3 i x hx).1) (λi x hx=>by simpa using (dX i x hx).1) (λi x hx=>(dX i x hx).2))
theorem bt(gl:ga w ι.M)(tm:∀s,RA w ι (lk st.tmps s) (a.tmps.getD s undef)){o:Operand}{o':aS}(h:cOpd o=some o'):RA w ι (ev st o') (a.eval o):=by
 unfold cOpd at h
 split at h
 ·cases h;exact tm _
 ·obtain⟨x,h1,rfl⟩:=aaO.1 h
  exact .p (FV h1)
 ·cases h;exact .p (.fn (by simp) (by simp) (by simp) (by simp))
 ·obtain⟨r,h1,rfl⟩:=aaO.1 h
  exact Nq gl h1
theorem xS(gl:ga w ι.M)(tm:∀s,RA w ι (lk st.tmps s) (a.tmps.getD s undef)){l:List Operand}{l':List aS}(h:cOpds l=some l'):
 (evL st l').length=l.length∧∀(i:Nat) x,(evL st l')[i]? =some x→RA w ι x ((l.map a.eval).toArray.getD i undef):=by
 induction l generalizing l' with
 |nil=>simp[cOpds]at h;subst h;simp[evL]
 |cons o r ih=>
  unfold cOpds at h
  split at h
  ·rename_i y l h1 h2
   cases h
   obtain⟨hl,hi⟩:=ih h2
   refine⟨by simp[evL,hl],λi x hx=>?_⟩
   cases i with
   |zero=>simp[evL]at hx;subst hx;simpa using bt gl tm h1
   |succ i=>simp[evL]at hx;simpa using hi i x hx
  ·cases h
def cR(P:Program)(w:World)(ι:az)(k:AV→Prop)(s:Sem Value):Prop:=
 ∃av v,k av∧RA w ι av v∧∀w',Ext w w'→s.run P w'=.ok v w'
theorem cR.mk{P:Program}{k:AV→Prop}{s:Sem Value}{av:AV}{v:Value}(hk:k av)(hr:RA w ι av v)
 (h:∀w',Ext w w'→s.run P w'=.ok v w'):cR P w ι k s:=⟨av,v,hk,hr,h⟩
theorem run_underlying{P:Program}{t:TypeId}{d:TypeDesc}(h:P.underlying t=some d)(w:World):(underlying t).run P w=.ok d w:=by
 simp[underlying,h]
theorem run_typeInfo{P:Program}{t:TypeId}{i:TypeInfo}(h:P.info? t=some i)(w:World):(typeInfo t).run P w=.ok i w:=by
 simp[typeInfo,h]
theorem run_sizeOf{P:Program}{t:TypeId}{s:Nat}(h:bI P t=some s)(w:World):(Go.sizeOf t).run P w=.ok s w:=by
 unfold bI at h
 obtain⟨i,h1,rfl⟩:=aaO.1 h
 simp[Go.sizeOf,run_typeInfo h1]
theorem pA{P:Program}{t:TypeId}{g:Bool}(h:aggT P t=some g)(w:World):(isAgg t).run P w=.ok g w:=by
 unfold aggT at h
 unfold isAgg
 split at h
 ·cases h;rename_i h1;simp[run_underlying h1]
 ·cases h;rename_i h1;simp[run_underlying h1]
 ·cases h;rename_i d h1 h2 h3
  simp only[Sem.run_bind,run_underlying h3,Result.andThen_ok]
  cases d<;>first|rfl|exact absurd h3 (by simp_all)
 ·cases h
theorem FW{P:Program}{op:BinOp}{t:TypeId}{xo yo:Operand}{x y:AV}{v u:Value}{k:AV→Prop}(hx:RA w ι x v)(hy:RA w ι y u)(h:vbin op x y k):
 cR P w ι k (do eqGuard op t xo yo v u;binOp op t v u):=by
 unfold vbin at h
 split at h
 ·
  rw[jI hx,jI hy]
  cases op
  case add=>obtain⟨e,h1⟩:=eC h;subst e;exact .mk h1 (.p (.int _ _)) λw' _=>by simp[eqGuard,Go.binOp,Op.intArith,intAr]
  case sub=>obtain⟨e,h1⟩:=eC h;subst e;exact .mk h1 (.p (.int _ _)) λw' _=>by simp[eqGuard,Go.binOp,Op.intArith,intAr]
  case mul=>obtain⟨e,h1⟩:=eC h;subst e;exact .mk h1 (.p (.int _ _)) λw' _=>by simp[eqGuard,Go.binOp,Op.intArith,intAr]
  case and=>obtain⟨e,h1⟩:=eC h;subst e;exact .mk h1 (.p (.int _ _)) λw' _=>by simp[eqGuard,Go.binOp,Op.intBits,intAr]
  case or=>obtain⟨e,h1⟩:=eC h;subst e;exact .mk h1 (.p (.int _ _)) λw' _=>by simp[eqGuard,Go.binOp,Op.intBits,intAr]
  case xor=>obtain⟨e,h1⟩:=eC h;subst e;exact .mk h1 (.p (.int _ _)) λw' _=>by simp[eqGuard,Go.binOp,Op.intBits,intAr]
  case andNot=>obtain⟨e,h1⟩:=eC h;subst e;exact .mk h1 (.p (.int _ _)) λw' _=>by simp[eqGuard,Go.binOp,Op.intBits,intAr]
  case quo=>obtain⟨e,h0,h1⟩:=eC h;subst e;exact .mk h1 (.p (.int _ _)) λw' _=>by simp[eqGuard,Go.binOp,Op.intDiv,intAr,h0]
  case rem=>obtain⟨e,h0,h1⟩:=eC h;subst e;exact .mk h1 (.p (.int _ _)) λw' _=>by simp[eqGuard,Go.binOp,Op.intDiv,intAr,h0]
  case shl=>obtain⟨h0,h1⟩:=h;exact .mk h1 (.p (.int _ _)) λw' _=>by simp[eqGuard,Go.binOp,Op.shift,intAr,Int.not_lt.2 h0]
  case shr=>obtain⟨h0,h1⟩:=h;exact .mk h1 (.p (.int _ _)) λw' _=>by simp[eqGuard,Go.binOp,Op.shift,intAr,Int.not_lt.2 h0]
  case eql=>obtain⟨e,h1⟩:=eC h;subst e;exact .mk h1 (.p (.b _)) λw' _=>by simp[eqGuard,Go.binOp,Op.intCmp,intCm]
  case neq=>obtain⟨e,h1⟩:=eC h;subst e;exact .mk h1 (.p (.b _)) λw' _=>by simp[eqGuard,Go.binOp,Op.intCmp,intCm]
  case lss=>obtain⟨e,h1⟩:=eC h;subst e;exact .mk h1 (.p (.b _)) λw' _=>by simp[eqGuard,Go.binOp,Op.intCmp,intCm]
  case leq=>obtain⟨e,h1⟩:=eC h;subst e;exact .mk h1 (.p (.b _)) λw' _=>by simp[eqGuard,Go.binOp,Op.intCmp,intCm]
  case gtr=>obtain⟨e,h1⟩:=eC h;subst e;exact .mk h1 (.p (.b _)) λw' _=>by simp[eqGuard,Go.binOp,Op.intCmp,intCm]
  case geq=>obtain⟨e,h1⟩:=eC h;subst e;exact .mk h1 (.p (.b _)) λw' _=>by simp[eqGuard,Go.binOp,Op.intCmp,intCm]
 ·
  rw[pz hx,pz hy]
  rename_i la lb
  have e3:∀l:List UInt8,(⟨⟨l⟩⟩:ByteArray).toList=l:=λl=>ByteArray.toList_mk l
  cases op<;>simp only at h
  case add=>
   obtain⟨h0,h⟩:=h
   refine .mk h (.p (.str _)) λw' _=>?_
   have hs:¬((((⟨⟨la⟩⟩:ByteArray).size+(⟨⟨lb⟩⟩:ByteArray).size:Nat):Int)>IntKind.i64.max):=by
    show ¬((((la.length+lb.length:Nat)):Int)>9223372036854775807)
    omega
   have hc:(⟨⟨la⟩⟩:ByteArray)++⟨⟨lb⟩⟩=⟨⟨la++lb⟩⟩:=by apply adq;simp
   simp only[eqGuard,Go.binOp,Op.stringOp,aaF hs,hc]
   rfl
  case eql=>exact .mk h (.p (.b _)) λw' _=>by simp[eqGuard,Go.binOp,Op.stringOp,qx,e3]
  case neq=>exact .mk h (.p (.b _)) λw' _=>by simp[eqGuard,Go.binOp,Op.stringOp,qx,e3]
  case lss=>exact .mk h (.p (.b _)) λw' _=>by simp[eqGuard,Go.binOp,Op.stringOp,qx,e3]
  case leq=>exact .mk h (.p (.b _)) λw' _=>by simp[eqGuard,Go.binOp,Op.stringOp,qx,e3]
  case gtr=>exact .mk h (.p (.b _)) λw' _=>by simp[eqGuard,Go.binOp,Op.stringOp,qx,e3]
  case geq=>exact .mk h (.p (.b _)) λw' _=>by simp[eqGuard,Go.binOp,Op.stringOp,qx,e3]
  all_goals exact h.elim
 ·exact h.elim
end
section
variable {P:Program} {ι:az} {st:St} {a:Act} {w:World}
def nb(w:World)(M:Nat→Prop)(c off:Nat)(row:List PV):Prop:=
 ∀(j:Nat) x,row[j]? =some x→x.one=true∧∃v,w.cell? ⟨c,off+j,none⟩=some v∧RP w M x v
def FX(w:World)(ι:az)(c off:Nat)(cells:List AV):Prop:=
 ∀(j:Nat) x,cells[j]? =some x→∃v,w.cell? ⟨c,off+j,none⟩=some v∧dP v=true∧RA w ι x v
theorem RP.pB{w:World}{M:Nat→Prop}{x:PV}{v:Value}(h:RP w M x v)(h1:dP v=true):x.one=true:=by
 cases h<;>first|rfl|(simp[dP,Value.oneCell']at h1)
theorem u5{l:List AV}{ps:List PV}(h:allP l=some ps):l=ps.map .p:=by
 induction l generalizing ps with
 |nil=>simp[allP]at h;subst h;rfl
 |cons x r ih=>
  cases x with
  |p x=>
   simp only[allP]at h
   cases hr:allP r with
   |none=>simp[hr]at h
   |some l=>simp[hr]at h;subst h;simp[ih hr]
  |_=>simp[allP]at h
theorem Bb{M:Nat→Prop}{cells:List PV}{v:Value}(h:RP w M (.agg cells) v):∃cs:Array Value,v=.agg cs∧cs.size=cells.length∧
 (∀(i:Nat) x,cells[i]? =some x→x.one=true)∧∀(i:Nat) x,cells[i]? =some x→RP w M x (cs.getD i undef):=by
 cases h with
 |agg hl bA h=>exact⟨_,rfl,hl,bA,h⟩
theorem lC{M:Nat→Prop}{wd:Nat}{rows:List (List PV)}{cap:Option Nat}{v:Value}(h:RP w M (.au wd rows cap) v):
 ∃a c,v=.slice a rows.length c∧rows.length≤c∧(∀k,cap=some k→c=k)∧(rows=[]∨∃ad:Addr,a=some ad∧ad.spot=none∧¬M ad.block∧ad.block<w.heap.size∧
  ∀(i:Nat) row,rows[i]? =some row→row.length=wd∧nb w M ad.block (ad.off+i*wd) row):=by
 cases h with
 |nil h=>exact⟨_,_,rfl,aaP _,h,.inl rfl⟩
 |au hs hM hb hc aR bm bA bn dt=>
  exact⟨_,_,rfl,hc,aR,.inr ⟨_,rfl,hs,hM,hb,λi row hi=>⟨bm i row hi,λj x hx=>⟨bA i row j x hi hx,_,by rw[aaX];exact bn i row j x hi hx,dt i row j x hi hx⟩⟩⟩⟩
theorem xU{M:Nat→Prop}{row:List PV}{c off:Nat}(h:nb w M c off row)(hM:¬M c)(hc:c<w.heap.size)(j:Nat):
 RP w M (.b5 row j) (.pointer (some ⟨c,off+j,none⟩)):=by
 refine .b5 (a:=⟨c,off,none⟩) (cv:=λi=>(w.cell? ⟨c,off+i,none⟩).getD undef) rfl hM hc (λi x hx=>(h i x hx).1) (λi x hx=>?_) (λi x hx=>?_)
 all_goals
  obtain⟨_,v,hv,hr⟩:=h i x hx
  simp[hv,hr]
theorem sF{M:Nat→Prop}{wd:Nat}{rows:List (List PV)}{cap:Option Nat}{ad:Addr}{c:Nat}(hs:ad.spot=none)(hM:¬M ad.block)(hb:ad.block<w.heap.size)
 (hc:rows.length≤c) (aR:∀k,cap=some k→c=k) (h:∀(i:Nat) row,rows[i]? =some row→row.length=wd∧nb w M ad.block (ad.off+i*wd) row):
 RP w M (.au wd rows cap) (.slice (some ad) rows.length c):=by
 refine .au (cv:=λi j=>(w.cell? ⟨ad.block,ad.off+(i*wd+j),none⟩).getD undef) hs hM hb hc aR (λi row hi=>(h i row hi).1)
  (λi row j x hi hx=>((h i row hi).2 j x hx).1) (λi row j x hi hx=>?_) (λi row j x hi hx=>?_)
 all_goals
  obtain⟨_,v,hv,hr⟩:=(h i row hi).2 j x hx
  rw[aaX]at hv
  simp[hv,hr]
theorem xV{l:List AV}{cs:Array Value}(hl:cs.size=l.length)(bA:∀(i:Nat) x,l[i]? =some x→dP (cs.getD i undef)=true)
 (h:∀(i:Nat) x,l[i]? =some x→RA w ι x (cs.getD i undef)):RA w ι (qw l) (.agg cs):=by
 unfold qw
 split
 ·rename_i ps hp
  have e:=u5 hp
  subst e
  refine .p (.agg (by simpa using hl) (λi x hx=>?_) (λi x hx=>?_))
  all_goals
   have h1:=h i (.p x) (by simp[hx])
   have h2:=bA i (.p x) (by simp[hx])
   cases h1
   rename_i h1
  ·exact h1.pB h2
  ·exact h1
 ·exact .agg hl bA h
theorem FY{t:TypeId}{sz:Nat}(hs:bI P t=some sz)(hg:aggT P t=some true)(c off:Nat)(f:Nat→Value)(w:World)
 (h:∀j,j<sz→w.cell? ⟨c,off+j,none⟩=some (f j)):(loadVar t ⟨c,off,none⟩).run P w=.ok (.agg ((List.range sz).map f).toArray) w:=by
 have hl:=run_loadCells (P:=P) w ⟨c,off,none⟩ sz f (λj hj=>by rw[gK];exact h j hj)
 simp[loadVar,pA hg,run_sizeOf hs,hl]
theorem xW{t:TypeId}(hg:aggT P t=some false)(ad:Addr)(v:Value)(w:World)
 (h:w.cell? ad=some v):(loadVar t ad).run P w=.ok v w:=by
 simp[loadVar,pA hg,h]
theorem Bc{c off:Nat}{row:List PV}(hr:nb w ι.M c off row){j sz:Nat}{ag:Bool}{k:AV→Prop}(h:vrow row j sz ag k){t:TypeId}
 (hs:bI P t=some sz) (hg:aggT P t=some ag):cR P w ι k (loadVar t ⟨c,off+j,none⟩):=by
 cases ag with
 |true=>
  obtain⟨cs,rfl,hl,hk⟩:=h
  rw[gJ]at hl hk
  have hlen:j+sz≤row.length∨sz=0:=by
   simp at hl;omega
  have fe:∀i x,((row.drop j).take sz)[i]? =some x→row[j+i]? =some x∧i<sz:=λi x hx=>by
   rw[abT]at hx
   split at hx
   ·rw[abx]at hx;exact⟨hx,by assumption⟩
   ·cases hx
  have bn:∀i,i<sz→∃x v,row[j+i]? =some x∧x.one=true∧w.cell? ⟨c,off+j+i,none⟩=some v∧RP w ι.M x v:=λi hi=>by
   have aq:j+i<row.length:=by omega
   obtain⟨h1,v,h2,h3⟩:=hr (j+i) row[j+i] (aaI aq)
   exact⟨_,v,aaI aq,h1,by rw[aaX];exact h2,h3⟩
  refine .mk (v:=.agg ((List.range sz).map λi=>(w.cell? ⟨c,off+j+i,none⟩).getD undef).toArray) hk (.p (.agg ?_ (λi x hx=>?_) (λi x hx=>?_))) λw' bP=>?_
  ·simp[hl]
  ·obtain⟨h1,h2⟩:=fe i x hx
   exact(hr _ _ h1).1
  ·obtain⟨h1,h2⟩:=fe i x hx
   obtain⟨x',v,h3,h4,h5,h6⟩:=bn i h2
   rw[h1]at h3;cases h3
   simp[h2,h5,h6]
  ·exact FY hs hg c (off+j) _ w' λi hi=>by
    obtain⟨x',v,h3,h4,h5,h6⟩:=bn i hi
    rw[bP.cell h5,h5];rfl
 |false=>
  obtain⟨x,hx,hk⟩:=h
  obtain⟨h1,v,h2,h3⟩:=hr j x hx
  exact .mk (A_ hk) (.p h3) λw' bP=>xW hg _ v w' (bP.cell h2)
theorem FZ{c off:Nat}{cells:List AV}(hr:FX w ι c off cells){j sz:Nat}{ag:Bool}{k:AV→Prop}(h:mY cells j sz ag k){t:TypeId}
 (hs:bI P t=some sz) (hg:aggT P t=some ag):cR P w ι k (loadVar t ⟨c,off+j,none⟩):=by
 cases ag with
 |true=>
  unfold mY at h
  simp only at h
  cases hb:Nat.ble (j+sz) cells.length with
  |false=>rw[hb]at h;exact h.elim
  |true=>
   rw[hb]at h
   have hlen:=aa6 hb
   simp only[cond_true]at h
   rw[gJ]at h
   have fe:∀i x,((cells.drop j).take sz)[i]? =some x→cells[j+i]? =some x∧i<sz:=λi x hx=>by
    rw[abT]at hx
    split at hx
    ·rw[abx]at hx;exact⟨hx,by assumption⟩
    ·cases hx
   have bn:∀i,i<sz→∃x v,cells[j+i]? =some x∧w.cell? ⟨c,off+j+i,none⟩=some v∧dP v=true∧RA w ι x v:=λi hi=>by
    have aq:j+i<cells.length:=by omega
    obtain⟨v,h2,h1,h3⟩:=hr (j+i) cells[j+i] (aaI aq)
    exact⟨_,v,aaI aq,by rw[aaX];exact h2,h1,h3⟩
   refine .mk (v:=.agg ((List.range sz).map λi=>(w.cell? ⟨c,off+j+i,none⟩).getD undef).toArray) h (xV ?_ (λi x hx=>?_) (λi x hx=>?_)) λw' bP=>?_
   ·simp;omega
   ·obtain⟨h1,h2⟩:=fe i x hx
    obtain⟨x',v,h3,h4,h5,h6⟩:=bn i h2
    rw[h1]at h3;cases h3
    simp[h2,h4];exact h5
   ·obtain⟨h1,h2⟩:=fe i x hx
    obtain⟨x',v,h3,h4,h5,h6⟩:=bn i h2
    rw[h1]at h3;cases h3
    simp[h2,h4,h6]
   ·exact FY hs hg c (off+j) _ w' λi hi=>by
     obtain⟨x',v,h3,h4,h5,h6⟩:=bn i hi
     rw[bP.cell h4,h4];rfl
 |false=>
  unfold mY at h
  simp only at h
  cases hb:Nat.blt j cells.length with
  |false=>rw[hb]at h;exact h.elim
  |true=>
   rw[hb]at h
   simp only[cond_true]at h
   have aq:j<cells.length:=by simpa [ace]using hb
   obtain⟨v,h2,h1,h3⟩:=hr j cells[j] (aaI aq)
   have e:nth .undef cells j=cells[j]:=by rw[iC,aaI aq];rfl
   rw[e]at h
   exact .mk (dh h) h3 λw' bP=>xW hg _ v w' (bP.cell h2)
theorem cell_of{w:World}{c:Nat}{cs:Array Value}{ty:TypeId}{fz:Nat×Nat}(h:w.heap[c]? =some (.cells cs ty fz))(off:Nat):
 w.cell? ⟨c,off,none⟩=cs[off]?:=by simp[World.cell?,h]
theorem bL.row{h:List Blk}(hr:bL ι h w){b wd c o s i:Nat}{rows:List (List PV)}{row:List PV}(hb:ι b=some (c,o,s))(hn:nth .dead h b=.pr wd rows)
 (hi:rows[i]? =some row):row.length=wd∧nb w ι.M c (o+i*wd) row:=by
 have:=hr.blk b
 rw[hn,RB,hb]at this
 rcases this with⟨h0,_⟩|⟨c',o',s',cs,ty,fz,he,h1,hf,h2,h3,h4,h5⟩
 ·cases h0
 ·cases he
  refine⟨h4 i row hi,λj x hx=>?_⟩
  obtain⟨h6,v,h7,h8⟩:=h5 i row j x hi hx
  exact⟨h6,v,by rw[cell_of h1,aaX];exact h7,h8⟩
theorem bL.cells{h:List Blk}(hr:bL ι h w){b c o s:Nat}{cells:List AV}(hb:ι b=some (c,o,s))(hn:nth .dead h b=.mx cells):
 FX w ι c o cells:=by
 have:=hr.blk b
 rw[hn,RB,hb]at this
 obtain⟨c',o',s',cs,ty,fz,he,h1,hf,h2,h3,h4⟩:=this
 cases he
 intro j x hx
 obtain⟨v,h5,h6,h7⟩:=h4 j x hx
 exact⟨v,by rw[cell_of h1];exact h5,h6,h7⟩
theorem bL.Nr{h:List Blk}(hr:bL ι h w){b c o s n:Nat}{arr:List PV}{cells:List AV}(hb:ι b=some (c,o,s))(hn:nth .dead h b=.ax n arr cells):
 arr.length=n∧∀(j:Nat) x,(arr.map AV.p++cells)[j]? =some x→∃v,w.cell? ⟨c,o+j,none⟩=some v∧dP v=true∧RA w ι x v:=by
 have:=hr.blk b
 rw[hn,hb]at this
 obtain⟨h0,c',o',s',cs,ty,fz,he,h1,_,_,_,h4⟩:=this
 cases he
 refine⟨h0,λj x hx=>?_⟩
 obtain⟨v,v1,v2,v3⟩:=h4 j x hx
 exact⟨v,by simp[World.cell?,h1,v1],v2,v3⟩
theorem bL.F0{h:List Blk}(hr:bL ι h w){b c o s wo wd i:Nat}{cells:List (Bool×List (List PV))}{op:Option Nat}(hb:ι b=some (c,o,s))(hn:nth .dead h b=.pn wo wd cells op)
 {fl:Bool} {rows:List (List PV)} (hi:cells[i]? =some (fl,rows)):∃v,w.cell? ⟨c,o+i,none⟩=some v∧dP v=true∧
  (fl=true→op=none→RA w ι (.b8 b wd i rows.length) v)∧(fl=false→RP w ι.M (.au wd rows (some rows.length)) v):=by
 have h0:=hr.blk b
 rw[hn,hb]at h0
 rcases h0 with⟨h0,_⟩|⟨c',o',s',cs,ty,fz,he,h1,_,_,_,h4⟩
 ·cases h0
 cases he
 obtain⟨v,v1,v2,v3⟩:=h4 i fl rows hi
 have bn:w.cell? ⟨c,o+i,none⟩=some v:=by simp[World.cell?,h1,v1]
 refine⟨v,bn,v2,λe1 e2=>?_,v3⟩
 subst e1;subst e2
 have h2:=hr.hid b i
 unfold HB at h2
 have a_:(nth .dead h b).inner i=some (wd,rows,true):=by rw[hn];simp[Blk.inner,hi]
 rw[a_]at h2
 obtain⟨v',p1,p2⟩:=h2.2 rfl
 rw[hn,hb]at p1
 obtain⟨c2,o2,s2,e3,p1⟩:=p1
 cases e3
 rw[bn]at p1;cases p1
 rcases p2 with⟨c',o',s',cc,q,rfl,ql,qs⟩|⟨q,oa,rfl⟩
 ·exact .b8 q ql qs
 ·rw[q];exact .iB
theorem bL.Ns{h:List Blk}(hr:bL ι h w){b c o s wo wd i r:Nat}{cells:List (Bool×List (List PV))}{op:Option Nat}(hb:ι (.h b i)=some (c,o,s))(hn:nth .dead h b=.pn wo wd cells op)
 {rows:List (List PV)} (hi:cells[i]? =some (true,rows)) {row:List PV} (bm:rows[r]? =some row):
 ∀(j:Nat) x,row[j]? =some x→x.one=true∧∃v,w.cell? ⟨c,o+r*wd+j,none⟩=some v∧RP w ι.M x v:=by
 have h0:=hr.hid b i
 have a_:(nth .dead h b).inner i=some (wd,rows,!decide (op=some i)):=by rw[hn];simp[Blk.inner,hi]
 unfold HB at h0
 rw[a_,hb]at h0
 rcases h0.1 with⟨h1,_⟩|⟨c',o',s',cs,ty,fz,he,h1,_,_,_,_,h6⟩
 ·cases h1
 cases he
 intro j x hx
 obtain⟨g1,v,g2,g3⟩:=h6 r row j x bm hx
 exact⟨g1,v,by rw[cell_of h1,aaX];exact g2,g3⟩
theorem Nt(arr:List PV)(cells:List AV):allP (arr.map AV.p++cells)=(allP cells).map (arr++·):=by
 induction arr with
 |nil=>cases h:allP cells<;>simp[h]
 |cons x r ih=>
  simp only[abr,List.cons_append,allP,ih]
  cases allP cells<;>rfl
theorem Be(arr:List PV)(cells:List AV):qw (arr.map AV.p++cells)=uP arr cells:=by
 unfold qw uP
 rw[Nt]
 cases allP cells<;>rfl
theorem Nu{n:Nat}{arr:List PV}{cells:List AV}(hn:arr.length=n){j sz:Nat}{ag:Bool}{k:AV→Prop}(h:AN n arr cells j sz ag k):mY (arr.map AV.p++cells) j sz ag k:=by
 subst hn
 unfold AN at h
 unfold mY
 cases ag with
 |false=>
  simp only at h ⊢
  rcases h with⟨hj,x,hx,h⟩|⟨hj,x,hx,h⟩
  ·have aq:Nat.blt j (arr.map AV.p++cells).length=true:=by simp only[ace];simp;omega
   rw[aq]
   have e:nth .undef (arr.map AV.p++cells) j=.p x:=by
    rw[iC,aa9 (by simpa using hj),aaM,hx];rfl
   simp only[cond_true]
   rw[e]
   exact h
  ·have dH:=(aaK.1 hx).1
   have aq:Nat.blt j (arr.map AV.p++cells).length=true:=by simp only[ace];simp;omega
   rw[aq]
   have e:nth .undef (arr.map AV.p++cells) j=x:=by
    rw[iC,abe (by simpa using hj),aaR,hx];rfl
   simp only[cond_true]
   rw[e]
   exact h
 |true=>
  simp only at h ⊢
  cases h1:Nat.ble arr.length j with
  |true=>
   rw[h1]at h
   simp only[cond_true]at h
   have h1:=aa6 h1
   cases h2:Nat.ble (j - arr.length+sz) cells.length with
   |false=>rw[h2]at h;exact h.elim
   |true=>
    rw[h2]at h
    have h2:=aa6 h2
    have hle:Nat.ble (j+sz) (arr.map AV.p++cells).length=true:=(by simp only[aci];simp;omega)
    rw[hle]
    have e:dropN j (arr.map AV.p++cells)=dropN (j - arr.length) cells:=by
     rw[gJ,gJ,ac3,ac4 (by simpa using h1)];simp
    rw[e]
    exact h
  |false=>
   rw[h1]at h
   simp only[cond_false]at h
   cases h2:Nat.beq j 0 with
   |false=>rw[h2]at h;exact h.elim
   |true=>
    rw[h2]at h
    obtain rfl:=abg h2
    simp only[cond_true]at h
    cases h3:Nat.beq sz arr.length with
    |true=>
     rw[h3]at h
     obtain rfl:=abg h3
     have hle:Nat.ble (0+arr.length) (arr.map AV.p++cells).length=true:=(by simp only[aci];simp)
     rw[hle]
     have e:(dropN 0 (arr.map AV.p++cells)).take arr.length=arr.map AV.p++[]:=by
      simp[dropN]
     simp only[cond_true]
     rw[e,Be]
     simpa [uP,allP]using h
    |false=>
     rw[h3]at h
     simp only[cond_false]at h
     cases h4:(Nat.ble arr.length sz&&Nat.ble (sz - arr.length) cells.length)with
     |false=>rw[h4]at h;exact h.elim
     |true=>
      rw[h4]at h
      simp only[aaQ]at h4
      have h5:=aa6 h4.1
      have h6:=aa6 h4.2
      have hle:Nat.ble (0+sz) (arr.map AV.p++cells).length=true:=(by simp only[aci];simp;omega)
      rw[hle]
      have e:(dropN 0 (arr.map AV.p++cells)).take sz=arr.map AV.p++cells.take (sz - arr.length):=by
       simp only[dropN]
       rw[adr,abU (by simpa using h5),aaR]
      simp only[cond_true]
      rw[e,Be]
      exact h
theorem Bf{h:List Blk}(hr:bL ι h w){av:AV}{v:Value}(hv:RA w ι av v){sz:Nat}{ag:Bool}{k:AV→Prop}(hl:vload h av sz ag k){t:TypeId}
 (hs:bI P t=some sz) (hg:aggT P t=some ag):cR P w ι k (Instr.loadAt t v):=by
 have pack:∀ad,cR P w ι k (loadVar t ad)→cR P w ι k (Instr.loadAt t (.pointer (some ad))):=λad h=>by
  obtain⟨x,u,h1,h2,h3⟩:=h
  exact .mk h1 h2 λw' bP=>by simp[Instr.loadAt,Instr.sureAddr,h3 w' bP]
 unfold vload at hl
 split at hl
 ·rename_i b wd i j
  cases hv
  rename_i c o s hb
  split at hl
  ·rename_i cells hn
   split at hl
   ·simp only[acf,aaL]
    exact pack _ (FZ (hr.cells hb hn) hl hs hg)
   ·exact hl.elim
  ·rename_i n arr cells hn
   split at hl
   ·simp only[acf,aaL]
    obtain⟨h0,h1⟩:=hr.Nr hb hn
    exact pack _ (FZ h1 (Nu h0 hl) hs hg)
   ·exact hl.elim
  ·rename_i b6 rows hn
   cases hw:Nat.beq wd b6 with
   |false=>rw[hw]at hl;exact hl.elim
   |true=>
    rw[hw]at hl
    obtain rfl:=abg hw
    obtain⟨row,hi,hl⟩:=hl
    rw[←aaX]
    exact pack _ (Bc (hr.row hb hn hi).2 hl hs hg)
  ·rename_i wo wi cells op hn
   cases hw:(Nat.beq wd wo&&Nat.beq sz 1&&!ag)with
   |false=>rw[hw]at hl;exact hl.elim
   |true=>
    rw[hw]at hl
    obtain⟨⟨e1,e2⟩,e3⟩:=by simpa using hw
    subst e1;subst e2;subst e3
    obtain⟨fl,rows,hc,hl⟩:=hl
    obtain⟨v,hv,ho,hx⟩:=hr.F0 hb hn hc
    cases fl with
    |true=>
     obtain⟨e,hk⟩:=hl
     subst e
     exact .mk hk (hx.1 rfl rfl) λw' bP=>xW hg _ v w' (bP.cell hv)
    |false=>exact .mk hl (.p (hx.2 rfl)) λw' bP=>xW hg _ v w' (bP.cell hv)
  ·exact hl.elim
 ·rename_i row j
  cases hv
  rename_i hv
  cases hv
  rename_i ad cv bS hM hb bA bn dt
  exact pack _ (Bc (c:=ad.block) (off:=ad.off) (λi x hx=>⟨bA i x hx,cv i,bn i x hx,dt i x hx⟩) hl hs hg)
 ·rename_i b wd i r j
  cases hv
  rename_i c o s hb
  split at hl
  ·rename_i wo wi cells op hn
   cases hw:Nat.beq wd wi with
   |false=>rw[hw]at hl;exact hl.elim
   |true=>
    rw[hw]at hl
    obtain rfl:=abg hw
    obtain⟨rows,row,hc,bm,hl⟩:=hl
    rw[←aaX]
    exact pack _ (Bc (hr.Ns hb hn hc bm) hl hs hg)
  ·exact hl.elim
 ·exact hl.elim
theorem Nv{x i:AV}{v u:Value}(hx:RA w ι x v)(hi:RA w ι i u){len esz:Nat}{k:AV→Prop}(h:vidxA x i len esz k){t e:TypeId}
 (ht:P.underlying t=some (.array len e)) (hs:bI P e=some esz):cR P w ι k (Instr.indexAt t v u):=by
 unfold vidxA at h
 split at h
 ·rename_i kk n
  rw[jI hi]
  obtain⟨⟨h0,h1⟩,h⟩:=h
  have run:∀(ad:Addr) (w':World),(Instr.indexAt t (.pointer (some ad)) (.int kk n)).run P w'=.ok (.pointer (some (ad.add (n.toNat*esz)))) w':=λad w'=>by
   simp[Instr.indexAt,asIntOf,run_underlying ht,Instr.sureAddr,h0,h1,run_sizeOf hs]
  split at h
  ·rename_i b wd r j
   cases hx
   rename_i c o s hb
   refine .mk h (.ptr hb) λw' _=>?_
   rw[run,gK,aaX,aaX]
  ·rename_i row j
   cases hx
   rename_i hx
   cases hx
   rename_i ad cv bS hM hb bA bn dt
   refine .mk h (.p (.b5 bS hM hb bA bn dt)) λw' _=>?_
   rw[run,gK,aaX]
  ·exact h.elim
 ·exact h.elim
theorem Nw{x i:AV}{v u:Value}(hx:RA w ι x v)(hi:RA w ι i u){esz:Nat}{k:AV→Prop}(h:vidxS x i esz k){t e:TypeId}
 (ht:P.underlying t=some (.slice e)) (hs:bI P e=some esz):cR P w ι k (Instr.indexAt t v u):=by
 unfold vidxS at h
 split at h
 ·rename_i kk n
  rw[jI hi]
  have run:∀(ad:Addr) (len cap:Nat) (w':World),0≤n→n<(len:Int)→
   (Instr.indexAt t (.slice (some ad) len cap) (.int kk n)).run P w'=.ok (.pointer (some (ad.add (n.toNat*esz)))) w':=λad len cap w' h0 h1=>by
   simp[Instr.indexAt,asIntOf,run_underlying ht,h0,h1,run_sizeOf hs]
  split at h
  ·rename_i wd rows cap
   obtain⟨⟨h0,h1⟩,row,bm,h⟩:=h
   cases hw:Nat.beq wd esz with
   |false=>rw[hw]at h;exact h.elim
   |true=>
    rw[hw]at h
    obtain rfl:=abg hw
    cases hx
    rename_i hx
    obtain⟨oa,c,rfl,hc,aR,hr⟩:=lC hx
    rcases hr with rfl|⟨ad,rfl,bS,hM,hb,hr⟩
    ·simp at bm
    ·refine .mk h (.p (xU (hr _ _ bm).2 hM hb 0)) λw' _=>?_
     rw[run _ _ _ _ h0 h1,xR bS];rfl
  ·rename_i b wd r len cap
   obtain⟨⟨h0,h1⟩,h⟩:=h
   cases hw:Nat.beq wd esz with
   |false=>rw[hw]at h;exact h.elim
   |true=>
    rw[hw]at h
    obtain rfl:=abg hw
    cases hx
    ·rename_i c o s cc hb hl aR bS
     refine .mk h (.ptr hb) λw' _=>?_
     rw[run _ _ _ _ h0 h1,gK,aaU,Nat.add_zero,aaX]
    ·simp at h1;omega
  ·rename_i b wd r j e' len
   obtain⟨⟨h0,h1⟩,h⟩:=h
   cases hw:Nat.beq e' esz with
   |false=>rw[hw]at h;exact h.elim
   |true=>
    rw[hw]at h
    obtain rfl:=abg hw
    cases hx with
    |aF hb hl=>
     refine .mk h (.ptr hb) λw' _=>?_
     rw[run _ _ _ _ h0 h1,gK,aaX,aaX]
    |iZ=>simp at h1;omega
  ·rename_i b wd i len
   obtain⟨⟨h0,h1⟩,h⟩:=h
   cases hw:Nat.beq wd esz with
   |false=>rw[hw]at h;exact h.elim
   |true=>
    rw[hw]at h
    obtain rfl:=abg hw
    cases hx with
    |b8 hb hl bS=>
     refine .mk h (.ip hb) λw' _=>?_
     rw[run _ _ _ _ h0 h1,gK,Nat.add_zero]
    |iB=>simp at h1;omega
  ·exact h.elim
 ·exact h.elim
theorem Nx(l:List UInt8)(n:Nat):(⟨⟨l⟩⟩:ByteArray)[n]? =l[n]?:=by
 by_cases h:n<l.length
 ·rw[aaI h,getElem?_pos (⟨⟨l⟩⟩:ByteArray) n h];rfl
 ·rw[aaS (by omega),getElem?_neg (⟨⟨l⟩⟩:ByteArray) n h]
theorem Ny{x i:AV}{v u:Value}(hx:RA w ι x v)(hi:RA w ι i u){k:AV→Prop}(h:vidxStr x i k){t:TypeId}
 (ht:P.underlying t=some .string):cR P w ι k (Instr.index t v u):=by
 unfold vidxStr at h
 split at h
 ·rename_i l kk n
  obtain⟨h0,c,hc,h⟩:=h
  rw[jI hi,pz hx]
  refine .mk h (.p (.int _ _)) λw' _=>?_
  simp[Instr.index,asIntOf,run_underlying ht,h0,Nx,hc]
 ·exact h.elim
theorem F1{cells:List PV}{cs:Array Value}(hc:RP w ι.M (.agg cells) (.agg cs)){j sz:Nat}{ag:Bool}{k:AV→Prop}(h:vrow cells j sz ag k){t:TypeId}
 (hs:bI P t=some sz) (hg:aggT P t=some ag):cR P w ι k (part t cs j):=by
 obtain⟨nc,dA,hl,bA,dt⟩:=Bb hc
 cases dA
 cases ag with
 |true=>
  obtain⟨xs,rfl,hx,hk⟩:=h
  rw[gJ]at hx hk
  have hlen:j+sz≤cells.length∨sz=0:=by simp at hx;omega
  have fe:∀i x,((cells.drop j).take sz)[i]? =some x→cells[j+i]? =some x∧i<sz:=λi x hx=>by
   rw[abT]at hx
   split at hx
   ·rw[abx]at hx;exact⟨hx,by assumption⟩
   ·cases hx
  have iD:∀i,i<sz→(cs.extract j (j+sz)).getD i undef=cs.getD (j+i) undef:=λi hi=>by
   simp only[ab5,adU]
   rw[aaG (by omega)]
  refine .mk hk (.p (.agg (cs:=cs.extract j (j+sz)) (by simp at hx ⊢;omega) (λi x hx=>bA _ _ (fe i x hx).1) (λi x hx=>?_))) λw' _=>by
   simp[part,pA hg,run_sizeOf hs]
  obtain⟨h1,h2⟩:=fe i x hx
  rw[iD i h2]
  exact dt _ _ h1
 |false=>
  obtain⟨x,hx,hk⟩:=h
  refine .mk (A_ hk) (.p (dt j x hx)) λw' _=>?_
  have aq:j<cs.size:=by rw[hl];exact(aaK.1 hx).1
  simp[part,pA hg,aq]
theorem Nz{cells:List AV}{cs:Array Value}(hc:RA w ι (.agg cells) (.agg cs)){j sz:Nat}{ag:Bool}{k:AV→Prop}(h:mY cells j sz ag k){t:TypeId}
 (hs:bI P t=some sz) (hg:aggT P t=some ag):cR P w ι k (part t cs j):=by
 cases hc
 rename_i hl bA dt
 cases ag with
 |true=>
  unfold mY at h
  simp only at h
  cases hb:Nat.ble (j+sz) cells.length with
  |false=>rw[hb]at h;exact h.elim
  |true=>
   rw[hb]at h
   have hlen:=aa6 hb
   simp only[cond_true]at h
   rw[gJ]at h
   have fe:∀i x,((cells.drop j).take sz)[i]? =some x→cells[j+i]? =some x∧i<sz:=λi x hx=>by
    rw[abT]at hx
    split at hx
    ·rw[abx]at hx;exact⟨hx,by assumption⟩
    ·cases hx
   have iD:∀i,i<sz→(cs.extract j (j+sz)).getD i undef=cs.getD (j+i) undef:=λi hi=>by
    simp only[ab5,adU]
    rw[aaG (by omega)]
   refine .mk h (xV (cs:=cs.extract j (j+sz)) (by simp;omega) (λi x hx=>?_) (λi x hx=>?_)) λw' _=>by
    simp[part,pA hg,run_sizeOf hs]
   all_goals
    obtain⟨h1,h2⟩:=fe i x hx
    rw[iD i h2]
   ·exact bA _ _ h1
   ·exact dt _ _ h1
 |false=>
  unfold mY at h
  simp only at h
  cases hb:Nat.blt j cells.length with
  |false=>rw[hb]at h;exact h.elim
  |true=>
   rw[hb]at h
   simp only[cond_true]at h
   have aq:j<cells.length:=by simpa [ace]using hb
   have e:nth .undef cells j=cells[j]:=by rw[iC,aaI aq];rfl
   rw[e]at h
   refine .mk (dh h) (dt j _ (aaI aq)) λw' _=>?_
   have sG:j<cs.size:=by omega
   simp[part,pA hg,sG]
theorem NA{x i:AV}{v u:Value}(hx:RA w ι x v)(hi:RA w ι i u){len esz:Nat}{ag:Bool}{k:AV→Prop}(h:vidxArr x i len esz ag k){t e:TypeId}
 (ht:P.underlying t=some (.array len e)) (hs:bI P e=some esz) (hg:aggT P e=some ag):cR P w ι k (Instr.index t v u):=by
 unfold vidxArr at h
 split at h
 ·rename_i cells kk n
  obtain⟨⟨h0,h1⟩,h⟩:=h
  rw[jI hi]
  cases hx
  rename_i hx
  have gd:=hx
  cases hx
  rename_i cs hl bA dt
  obtain⟨y,z,h2,h3,h4⟩:=F1 gd h hs hg
  exact .mk h2 h3 λw' bP=>by simp[Instr.index,asIntOf,run_underlying ht,h0,h1,run_sizeOf hs,h4 w' bP]
 ·exact h.elim
theorem NB{x:AV}{v:Value}(hx:RA w ι x v){k:AV→Prop}{t:TypeId}{fs:Array Field}{f n:Nat}{fd:Field}(h:uQ x fd.offset k)
 (ht:P.underlying t=some (.struct fs)) (hf:fs[f]? =some fd) (hs:bI P fd.type=some (n+1)):cR P w ι k (Instr.fieldAt t v f):=by
 have run:∀(ad:Addr) (w':World),(Instr.fieldAt t (.pointer (some ad)) f).run P w'=.ok (.pointer (some (ad.add fd.offset))) w':=λad w'=>by
  simp[Instr.fieldAt,run_underlying ht,hf,Instr.sureAddr,fieldPlace,run_sizeOf hs]
 unfold uQ at h
 split at h
 ·rename_i b wd i j
  cases hx
  rename_i c o s hb
  refine .mk h (.ptr hb) λw' _=>?_
  rw[run,gK,aaX,aaX]
 ·rename_i row j
  cases hx
  rename_i hx
  cases hx
  rename_i ad cv bS hM hb bA bn dt
  refine .mk h (.p (.b5 bS hM hb bA bn dt)) λw' _=>?_
  rw[run,gK,aaX]
 ·exact h.elim
theorem NC{x:AV}{v:Value}(hx:RA w ι x v){k:AV→Prop}{t:TypeId}{fs:Array Field}{f n:Nat}{fd:Field}(h:uQ x fd.offset k)
 (ht:P.underlying t=some (.struct fs)) (hf:fs[f]? =some fd) (hs:bI P fd.type=some (n+1)):∃av r,k av∧RA w ι av r∧∀w',(Instr.fieldAt t v f).run P w'=.ok r w':=by
 have run:∀(ad:Addr) (w':World),(Instr.fieldAt t (.pointer (some ad)) f).run P w'=.ok (.pointer (some (ad.add fd.offset))) w':=λad w'=>by
  simp[Instr.fieldAt,run_underlying ht,hf,Instr.sureAddr,fieldPlace,run_sizeOf hs]
 unfold uQ at h
 split at h
 ·rename_i b wd i j
  cases hx
  rename_i c o s hb
  refine⟨_,_,h,.ptr hb,λw'=>?_⟩
  rw[run,gK,aaX,aaX]
 ·rename_i row j
  cases hx
  rename_i hx
  cases hx
  rename_i ad cv bS hM hb bA bn dt
  refine⟨_,_,h,.p (.b5 bS hM hb bA bn dt),λw'=>?_⟩
  rw[run,gK,aaX]
 ·exact h.elim
theorem ND{x:AV}{v:Value}(hx:RA w ι x v){k:AV→Prop}{t:TypeId}{fs:Array Field}{f sz:Nat}{ag:Bool}{fd:Field}(h:AO x fd.offset sz ag k)
 (ht:P.underlying t=some (.struct fs)) (hf:fs[f]? =some fd) (hs:bI P fd.type=some sz) (hg:aggT P fd.type=some ag):cR P w ι k (Instr.field t v f):=by
 unfold AO at h
 split at h
 ·rename_i cells
  cases hx
  rename_i hx
  have gd:=hx
  cases hx
  obtain⟨y,z,h2,h3,h4⟩:=F1 gd h hs hg
  exact .mk h2 h3 λw' bP=>by simp[Instr.field,run_underlying ht,hf,asAgg,h4 w' bP]
 ·rename_i cells
  have gd:=hx
  cases hx
  obtain⟨y,z,h2,h3,h4⟩:=Nz gd h hs hg
  exact .mk h2 h3 λw' bP=>by simp[Instr.field,run_underlying ht,hf,asAgg,h4 w' bP]
 ·exact h.elim
theorem NF{x:AV}{v:Value}(hx:RA w ι x v){k:AV→Prop}(h:AQ x k){t ty:TypeId}
 (ht:P.underlying t=some .string):cR P w ι k (Builtin.len_ #[t] ty #[v]):=by
 unfold AQ at h
 split at h
 ·rename_i l
  rw[pz hx]
  exact .mk h (.p (.int _ _)) λw' _=>by simp[Builtin.len_,run_underlying ht,goInt];rfl
 ·exact h.elim
theorem NG{x:AV}{v:Value}(hx:RA w ι x v){k:AV→Prop}(h:AP x k){t e ty:TypeId}
 (ht:P.underlying t=some (.slice e)):cR P w ι k (Builtin.len_ #[t] ty #[v]):=by
 have qI:∀a n c w',(Builtin.len_ #[t] ty #[.slice a n c]).run P w'=.ok (.int .i64 n) w':=λa n c w'=>by
  simp[Builtin.len_,run_underlying ht,goInt]
 unfold AP at h
 split at h
 ·cases hx
  rename_i hx
  obtain⟨oa,c,rfl,_⟩:=lC hx
  exact .mk h (.p (.int _ _)) λw' _=>qI _ _ _ w'
 ·cases hx
  ·exact .mk h (.p (.int _ _)) λw' _=>qI _ _ _ w'
  ·exact .mk h (.p (.int _ _)) λw' _=>qI _ _ _ w'
 ·cases hx
  ·exact .mk h (.p (.int _ _)) λw' _=>qI _ _ _ w'
  ·exact .mk h (.p (.int _ _)) λw' _=>qI _ _ _ w'
 ·cases hx
  ·exact .mk h (.p (.int _ _)) λw' _=>qI _ _ _ w'
  ·exact .mk h (.p (.int _ _)) λw' _=>qI _ _ _ w'
 ·exact h.elim
end
section
variable {P:Program} {ι:az} {st:St} {a:Act} {w:World}
theorem jJ(gl:ga w ι.M)(tm:∀s,RA w ι (lk st.tmps s) (a.tmps.getD s undef)){o:Option Operand}{o':Option aS}(hc:cOpdO o=some o'){d:Int}{k:Int→Prop}
 (h:vbnd (o'.map (ev st)) d k):∃n,k n∧((o=none∧o'=none∧n=d)∨∃x kk,o=some x∧a.eval x=.int kk n):=by
 cases o with
 |none=>simp[cOpdO]at hc;subst hc;exact⟨d,h,.inl ⟨rfl,rfl,rfl⟩⟩
 |some x=>
  simp only[cOpdO]at hc
  obtain⟨y,hy,rfl⟩:=aaO.1 hc
  have hr:=bt gl tm hy
  simp only[Option.map_some]at h
  generalize ev st y=av at h hr
  unfold vbnd at h
  split at h
  ·rename_i heq;cases heq
  ·rename_i kk n heq
   cases heq
   exact⟨n,h,.inr ⟨x,kk,rfl,jI hr⟩⟩
  ·exact h.elim
theorem Bg(isSlice:Bool)(len cap:Nat)(lo hi mx:Option Operand)(l h m:Int)(w:World)
 (hl:(lo=none∧l=0)∨∃x kk,lo=some x∧a.eval x=.int kk l)
 (hh:(hi=none∧h=len∧mx=none)∨∃x kk,hi=some x∧a.eval x=.int kk h)
 (hm:(mx=none∧m=cap)∨∃x kk,mx=some x∧a.eval x=.int kk m)
 (h0:0≤l) (h1:l≤h) (h2:h≤m) (h3:m≤cap):
 (Instr.sliceBounds isSlice len cap (lo.map a.eval) (hi.map a.eval) (mx.map a.eval)).run P w=.ok (l.toNat,h.toNat,m.toNat) w:=by
 have b:∀(v:Value) (kk:IntKind) (n:Int) (y:Nat) (code:BoundsCode),v=.int kk n→0≤n→n≤(y:Int)→(Instr.sliceBound v y code).run P w=.ok n.toNat w:=by
  intro v kk n y code hv h0 h1
  simp[Instr.sliceBound,asIntOf,hv,h0,h1]
 have gV:0≤m:=by omega
 have gg:(m.toNat:Int)=m:=acE gV
 have pC:(h.toNat:Int)=h:=acE (by omega)
 rcases hm with⟨rfl,rfl⟩|⟨xm,km,rfl,em⟩
 ·rcases hh with⟨rfl,rfl,_⟩|⟨xh,kh,rfl,eh⟩
  ·rcases hl with⟨rfl,rfl⟩|⟨xl,kl,rfl,el⟩
   ·simp[Instr.sliceBounds]
   ·simp[Instr.sliceBounds,b _ _ _ _ _ el h0 h1]
  ·have e1:=b _ _ _ cap (if isSlice then BoundsCode.sliceAcap else BoundsCode.sliceAlen) eh (by omega) h2
   rcases hl with⟨rfl,rfl⟩|⟨xl,kl,rfl,el⟩
   ·simp[Instr.sliceBounds,e1]
   ·have e2:=b _ _ _ h.toNat BoundsCode.sliceB el h0 (by omega)
    simp[Instr.sliceBounds,e1,e2]
 ·have e3:=b _ _ _ cap (if isSlice then BoundsCode.slice3Acap else BoundsCode.slice3Alen) em gV h3
  rcases hh with⟨rfl,rfl,hx⟩|⟨xh,kh,rfl,eh⟩
  ·cases hx
  ·have e1:=b _ _ _ m.toNat BoundsCode.slice3B eh (by omega) (by omega)
   rcases hl with⟨rfl,rfl⟩|⟨xl,kl,rfl,el⟩
   ·simp[Instr.sliceBounds,e1,e3]
   ·have e2:=b _ _ _ h.toNat BoundsCode.slice3C el h0 (by omega)
    simp[Instr.sliceBounds,e1,e2,e3]
theorem nb.later{w:World}{M:Nat→Prop}{c off:Nat}{row:List PV}(h:nb w M c off row){F2:Nat}(e:off=F2):nb w M c F2 row:=e▸h
theorem F3{wd len:Nat}{rows rs:List (List PV)}{cap gH:Option Nat}{oa:Option Addr}{c l m:Nat}(hc:rows.length≤c)
 (hr:rows=[]∨∃ad:Addr,oa=some ad∧ad.spot=none∧¬ι.M ad.block∧ad.block<w.heap.size∧
  ∀(i:Nat) row,rows[i]? =some row→row.length=wd∧nb w ι.M ad.block (ad.off+i*wd) row)
 (eW:(dropN l rows).take len=rs) (hlen:rs.length=len) (eJ:l+len≤m) (aR:∀k,gH=some k→m - l=k) (esz:Nat) (hw:wd=esz∨rows=[]):
 RA w ι (.p (.au wd rs gH)) (.slice (if m=l then oa else oa.map (·.add (l*esz))) len (m - l)):=by
 subst hlen
 rw[gJ]at eW
 cases rs with
 |nil=>exact .p (.nil (λk hk=>aR k hk))
 |cons r0 NH=>
  have bg:rows≠[]:=by
   intro h;subst h;simp at eW
  rcases hr with h|⟨ad,rfl,hs,hM,hb,hr⟩
  ·exact absurd h bg
  ·rcases hw with rfl|h
   ·have di:m≠l:=by simp at eJ;omega
    rw[aaF di]
    simp only[Option.map_some,xR hs]
    refine .p (sF (ad:=⟨ad.block,ad.off+l*wd,none⟩) rfl hM hb (by simp at eJ ⊢;omega) (λk hk=>aR k hk) λi row hi=>?_)
    have bp:rows[l+i]? =some row:=by
     have:((rows.drop l).take (r0::NH).length)[i]? =some row:=by rw[eW];exact hi
     rw[abT]at this
     split at this
     ·rwa [abx]at this
     ·cases this
    obtain⟨h1,h2⟩:=hr _ _ bp
    exact⟨h1,h2.later (by rw[aaU,aaX])⟩
   ·exact absurd h bg
theorem NI(gl:ga w ι.M)(tm:∀s,RA w ι (lk st.tmps s) (a.tmps.getD s undef)){x:AV}{v:Value}(hx:RA w ι x v){lo hi mx:Option Operand}{kL bp nf:Option aS}
 (mb:cOpdO lo=some kL) (lD:cOpdO hi=some bp) (eK:cOpdO mx=some nf) (qJ:(nf.isSome&&bp.isNone)=false) {esz:Nat} {k:AV→Prop}
 (h:vslcS x (kL.map (ev st)) (bp.map (ev st)) (nf.map (ev st)) esz k) {t e:TypeId} (ht:P.underlying t=some (.slice e)) (hs:bI P e=some esz):
 cR P w ι k (Instr.sliceAt t v (lo.map a.eval) (hi.map a.eval) (mx.map a.eval)):=by
 have run:∀(oa:Option Addr) (len cap:Nat) (l h m:Int) (w':World),
  ((lo=none∧l=0)∨∃x kk,lo=some x∧a.eval x=.int kk l)→((hi=none∧h=len∧mx=none)∨∃x kk,hi=some x∧a.eval x=.int kk h)→
  ((mx=none∧m=cap)∨∃x kk,mx=some x∧a.eval x=.int kk m)→0≤l→l≤h→h≤m→m≤cap→
  (Instr.sliceAt t (.slice oa len cap) (lo.map a.eval) (hi.map a.eval) (mx.map a.eval)).run P w'=
   .ok (.slice (if m.toNat=l.toNat then oa else oa.map (·.add (l.toNat*esz))) (h.toNat - l.toNat) (m.toNat - l.toNat)) w':=by
  intro oa len cap l h m w' e1 e2 e3 h0 h1 h2 h3
  simp[Instr.sliceAt,run_underlying ht,Instr.slice,Bg true len cap lo hi mx l h m w' e1 e2 e3 h0 h1 h2 h3,run_sizeOf hs]
 have F4:∀{m':Option aS},cOpdO mx=some m'→m'.map (ev st)=none→mx=none:=by
  intro m' h1 h2
  cases mx with
  |none=>rfl
  |some x=>simp only[cOpdO]at h1;obtain⟨y,_,rfl⟩:=aaO.1 h1;cases h2
 have jr:hi=none→mx=none:=by
  intro h1;subst h1
  simp[cOpdO]at lD;subst lD
  cases mx with
  |none=>rfl
  |some x=>simp only[cOpdO]at eK;obtain⟨y,_,rfl⟩:=aaO.1 eK;simp at qJ
 unfold vslcS at h
 split at h
 ·rename_i wd rows cap
  cases hx
  rename_i hx
  obtain⟨oa,c,rfl,hc,aR,hr⟩:=lC hx
  split at h
  ·rename_i gV
   have ng:=F4 eK gV
   obtain⟨l,h,el⟩:=jJ gl tm mb h
   obtain⟨hh,h,eh⟩:=jJ gl tm lD h
   obtain⟨⟨h0,h1,h2⟩,h⟩:=h
   cases hw:(Nat.beq wd esz||rows.isEmpty)with
   |false=>rw[hw]at h;exact h.elim
   |true=>
    rw[hw]at h
    obtain⟨rs,eW,hlen,hk⟩:=h
    have u6:wd=esz∨rows=[]:=by simp at hw;exact hw.imp (λh=>h) (λh=>h)
    refine .mk hk (F3 (cap:=cap) (l:=l.toNat) (m:=c) hc hr eW hlen (by omega) (λk hk=>?_) esz u6) λw' _=>?_
    ·obtain⟨k0,lE,rfl⟩:=aaO.1 hk
     rw[aR _ lE]
    ·rw[run oa rows.length c l hh c w' (el.imp (λh=>⟨h.1,h.2.2⟩) id) (eh.imp (λh=>⟨h.1,h.2.2,ng⟩) id) (.inl ⟨ng,rfl⟩) h0 h1 (by omega) (by omega)]
     simp
  ·rename_i m0 gV
   obtain⟨l,h,el⟩:=jJ gl tm mb h
   obtain⟨hh,h,eh⟩:=jJ gl tm lD h
   rw[←gV]at h
   obtain⟨m,h,em⟩:=jJ gl tm eK h
   have Bh:∃x kk,mx=some x∧a.eval x=.int kk m:=by
    rcases em with⟨h1,h2,h3⟩|em
    ·subst h2;cases gV
    ·exact em
   obtain⟨⟨h0,h1,h2,h3⟩,h⟩:=h
   cases hw:(Nat.beq wd esz||rows.isEmpty)with
   |false=>rw[hw]at h;exact h.elim
   |true=>
    rw[hw]at h
    obtain⟨rs,eW,hlen,hk⟩:=h
    have u6:wd=esz∨rows=[]:=by simp at hw;exact hw.imp (λh=>h) (λh=>h)
    refine .mk hk (F3 (cap:=cap) (l:=l.toNat) (m:=m.toNat) hc hr eW hlen (by omega) (λk hk=>?_) esz u6) λw' _=>?_
    ·cases hk;rfl
    ·exact run oa rows.length c l hh m w' (el.imp (λh=>⟨h.1,h.2.2⟩) id) (eh.imp (λh=>⟨h.1,h.2.2,jr h.1⟩) id) (.inr Bh) h0 h1 (by omega) (by omega)
 ·rename_i b wd i len cap
  have part:∀(l hh m:Int) (gH:Option Nat) (oa:Option Addr) (cc:Nat),RA w ι (.sl b wd i len cap) (.slice oa len cc)→0≤l→l≤hh→hh≤m→hh≤len→m≤cc→
   (∀k,gH=some k→m.toNat - l.toNat=k)→
   RA w ι (.sl b wd (i+l.toNat) (hh.toNat - l.toNat) gH) (.slice (if m.toNat=l.toNat then oa else oa.map (·.add (l.toNat*wd))) (hh.toNat - l.toNat) (m.toNat - l.toNat)):=by
   intro l hh m gH oa cc hr h0 h1 h2 h3 h4 F5
   by_cases hz:m.toNat=l.toNat
   ·have e1:hh.toNat - l.toNat=0:=by omega
    have e2:m.toNat - l.toNat=0:=by omega
    rw[aaG hz,e1,e2]
    exact .c_ λk hk=>by rw[←F5 k hk];exact e2
   ·rw[aaF hz]
    cases hr with
    |sl hb hl aR bS=>
     rename_i c o s
     simp only[Option.map_some,gK]
     rw[show o+i*wd+l.toNat*wd=o+(i+l.toNat)*wd by rw[aaU,aaX]]
     refine .sl hb (by omega) F5 ?_
     have:(i+l.toNat+(m.toNat - l.toNat))*wd≤(i+cc)*wd:=abl _ (by omega)
     omega
    |c_ aR=>omega
  have shape:∃oa cc,v=.slice oa len cc∧(∀k,cap=some k→cc=k)∧len≤cc:=by
   cases hx with
   |sl hb hl aR bS=>exact⟨_,_,rfl,aR,hl⟩
   |c_ aR=>exact⟨_,_,rfl,λk hk=>(aR k hk).symm,aaJ _⟩
  obtain⟨oa,cc,rfl,aR,Zu⟩:=shape
  split at h
  ·rename_i gV
   have ng:=F4 eK gV
   obtain⟨l,h,el⟩:=jJ gl tm mb h
   obtain⟨hh,h,eh⟩:=jJ gl tm lD h
   obtain⟨⟨h0,h1,h2⟩,hk⟩:=h
   cases hw:Nat.beq wd esz with
   |false=>rw[hw]at hk;exact hk.elim
   |true=>
    rw[hw]at hk
    obtain rfl:=abg hw
    refine .mk hk (part l hh cc _ oa cc hx h0 h1 (by omega) h2 (by omega) λk hk=>?_) λw' _=>?_
    ·obtain⟨k0,lE,rfl⟩:=aaO.1 hk
     rw[aR _ lE];simp
    ·exact run oa len cc l hh cc w' (el.imp (λh=>⟨h.1,h.2.2⟩) id) (eh.imp (λh=>⟨h.1,h.2.2,ng⟩) id) (.inl ⟨ng,rfl⟩) h0 h1 (by omega) (by omega)
  ·rename_i m0 gV
   obtain⟨l,h,el⟩:=jJ gl tm mb h
   obtain⟨hh,h,eh⟩:=jJ gl tm lD h
   rw[←gV]at h
   obtain⟨m,h,em⟩:=jJ gl tm eK h
   have Bh:∃x kk,mx=some x∧a.eval x=.int kk m:=by
    rcases em with⟨h1,h2,h3⟩|em
    ·subst h2;cases gV
    ·exact em
   obtain⟨⟨h0,h1,h2,h3⟩,hk⟩:=h
   cases hw:Nat.beq wd esz with
   |false=>rw[hw]at hk;exact hk.elim
   |true=>
    rw[hw]at hk
    obtain rfl:=abg hw
    refine .mk hk (part l hh m _ oa cc hx h0 h1 h2 (by omega) (by omega) λk hk=>?_) λw' _=>?_
    ·cases hk;rfl
    ·exact run oa len cc l hh m w' (el.imp (λh=>⟨h.1,h.2.2⟩) id) (eh.imp (λh=>⟨h.1,h.2.2,jr h.1⟩) id) (.inr Bh) h0 h1 (by omega) (by omega)
 ·exact h.elim
end
section
variable {P:Program} {ι:az} {st:St} {a:Act} {w:World}
theorem NJ(gl:ga w ι.M)(tm:∀s,RA w ι (lk st.tmps s) (a.tmps.getD s undef)){x:AV}{v:Value}(hx:RA w ι x v){lo hi mx:Option Operand}{kL bp nf:Option aS}
 (mb:cOpdO lo=some kL) (lD:cOpdO hi=some bp) (eK:cOpdO mx=some nf) (qJ:(nf.isSome&&bp.isNone)=false) {len esz:Nat} {k:AV→Prop}
 (h:vslcA x (kL.map (ev st)) (bp.map (ev st)) (nf.map (ev st)) len esz k) {t e:TypeId} (ht:P.underlying t=some (.array len e)) (hs:bI P e=some esz):
 cR P w ι k (Instr.sliceAt t v (lo.map a.eval) (hi.map a.eval) (mx.map a.eval)):=by
 have jr:hi=none→mx=none:=by
  intro h1;subst h1
  simp[cOpdO]at lD;subst lD
  cases mx with
  |none=>rfl
  |some x=>simp only[cOpdO]at eK;obtain⟨y,_,rfl⟩:=aaO.1 eK;simp at qJ
 unfold vslcA at h
 split at h
 ·rename_i b wd i j
  obtain⟨l,h,el⟩:=jJ gl tm mb h
  obtain⟨hh,h,eh⟩:=jJ gl tm lD h
  obtain⟨m,h,em⟩:=jJ gl tm eK h
  obtain⟨⟨h0,h1,h2,h3⟩,hk⟩:=h
  cases hx
  rename_i c o s hb
  have aT:∀w',(Instr.sliceAt t (.pointer (some ⟨c,o+(i*wd+j),none⟩)) (lo.map a.eval) (hi.map a.eval) (mx.map a.eval)).run P w'=
   .ok (.slice (some (if m.toNat=l.toNat then⟨c,o+(i*wd+j),none⟩else(⟨c,o+(i*wd+j),none⟩:Addr).add (l.toNat*esz))) (hh.toNat - l.toNat) (m.toNat - l.toNat)) w':=λw'=>by
   simp[Instr.sliceAt,run_underlying ht,Instr.sureAddr,run_sizeOf hs,
    Bg (P:=P) false len len lo hi mx l hh m w' (el.imp (λh=>⟨h.1,h.2.2⟩) id) (eh.imp (λh=>⟨h.1,h.2.2,jr h.1⟩) id) (em.imp (λh=>⟨h.1,h.2.2⟩) id) h0 h1 h2 h3]
  by_cases hz:hh.toNat - l.toNat=0
  ·rw[hz]at hk
   refine .mk (v:=.slice (some (if m.toNat=l.toNat then⟨c,o+(i*wd+j),none⟩else(⟨c,o+(i*wd+j),none⟩:Addr).add (l.toNat*esz))) 0 (m.toNat - l.toNat)) hk .iZ λw' _=>?_
   rw[aT,hz]
  ·refine .mk hk (.aF (cc:=m.toNat - l.toNat) hb (by omega)) λw' _=>?_
   rw[aT,aaF (by omega),gK,aaX,aaX]
 ·exact h.elim
theorem F6(l:List UInt8)(i j:Nat):(⟨⟨l⟩⟩:ByteArray).extract i j=⟨⟨(l.drop i).take (j - i)⟩⟩:=by
 apply adq
 simp[ByteArray.data_extract,List.extract_eq_take_drop]
theorem NK(gl:ga w ι.M)(tm:∀s,RA w ι (lk st.tmps s) (a.tmps.getD s undef)){x:AV}{v:Value}(hx:RA w ι x v){lo hi:Option Operand}{kL bp:Option aS}
 (mb:cOpdO lo=some kL) (lD:cOpdO hi=some bp) {k:AV→Prop}
 (h:vslcStr x (kL.map (ev st)) (bp.map (ev st)) k) {t:TypeId} (ht:P.underlying t=some .string):
 cR P w ι k (Instr.sliceAt t v (lo.map a.eval) (hi.map a.eval) none):=by
 unfold vslcStr at h
 split at h
 ·rename_i s
  obtain⟨l,h,el⟩:=jJ gl tm mb h
  obtain⟨hh,h,eh⟩:=jJ gl tm lD h
  obtain⟨⟨h0,h1,h2⟩,hk⟩:=h
  rw[pz hx]
  refine .mk hk (.p (.str _)) λw' _=>?_
  have e:(⟨⟨s⟩⟩:ByteArray).size=s.length:=rfl
  have:=Bg (P:=P) (a:=a) false s.length s.length lo hi none l hh s.length w' (el.imp (λh=>⟨h.1,h.2.2⟩) id) (eh.imp (λh=>⟨h.1,h.2.2,rfl⟩) id) (.inl ⟨rfl,rfl⟩) h0 h1 (by omega) (by omega)
  simp only[Option.map_none]at this
  rw[gJ]
  simp only[Instr.sliceAt,Sem.run_bind,run_underlying ht,Result.andThen_ok,Instr.slice,e,Option.isSome_none,abP,abm,this,F6,Sem.run_pure]
 ·exact h.elim
def oc(w:World)(M:Nat→Prop)(v:Value)(esz:Nat)(rows:List (List PV)):Prop:=
 ∃oa cap,v=.slice oa rows.length cap∧(rows=[]∨∃ad:Addr,oa=some ad∧ad.spot=none∧
  ∀(i:Nat) row,rows[i]? =some row→row.length=esz∧nb w M ad.block (ad.off+i*esz) row)
theorem F7{h:List Blk}(hr:bL ι h w){x:AV}{v:Value}(hx:RA w ι x v){esz:Nat}{k:List (List PV)→Prop}(hv:vslices h x esz k):
 ∃rows,k rows∧oc w ι.M v esz rows:=by
 unfold vslices at hv
 split at hv
 ·rename_i wd rows cap
  cases hw:(Nat.beq wd esz||rows.isEmpty)with
  |false=>rw[hw]at hv;exact hv.elim
  |true=>
   rw[hw]at hv
   have u6:wd=esz∨rows=[]:=by simp at hw;exact hw.imp (λh=>h) (λh=>h)
   cases hx
   rename_i hx
   obtain⟨oa,c,rfl,hc,aR,hr⟩:=lC hx
   refine⟨rows,hv,⟨oa,c,rfl,?_⟩⟩
   rcases u6 with rfl|h0
   ·exact hr.imp id λ⟨ad,h1,h2,h3,h4,h5⟩=>⟨ad,h1,h2,h5⟩
   ·exact .inl h0
 ·rename_i b wd i len cap
  split at hv
  ·rename_i b6 rows hn
   cases hw:(Nat.beq wd b6&&Nat.beq wd esz)with
   |false=>rw[hw]at hv;exact hv.elim
   |true=>
    rw[hw]at hv
    obtain⟨e1,e2⟩:=by simpa using hw
    subst e1;subst e2
    obtain⟨rs,eW,hlen,hk⟩:=hv
    cases hx with
    |sl hb hl aR bS=>
     rename_i c o s cc
     refine⟨rs,hk,⟨_,_,by rw[hlen],.inr ⟨_,rfl,rfl,λn row hi=>?_⟩⟩⟩
     rw[gJ]at eW
     have bp:rows[i+n]? =some row:=by
      have:((rows.drop i).take len)[n]? =some row:=by rw[eW];exact hi
      rw[abT]at this
      split at this
      ·rwa [abx]at this
      ·cases this
     obtain⟨h1,h2⟩:=hr.row hb hn bp
     exact⟨h1,h2.later (by simp[aaU,aaX])⟩
    |c_ aR=>
     have:rs=[]:=aa1 hlen
     subst this
     exact⟨[],hk,⟨_,_,rfl,.inl rfl⟩⟩
  ·exact hv.elim
 ·rename_i b wd i j e len
  split at hv
  ·rename_i b6 rows hn
   cases hw:(Nat.beq wd b6&&Nat.beq e esz&&Nat.beq e 1)with
   |false=>rw[hw]at hv;exact hv.elim
   |true=>
    rw[hw]at hv
    obtain⟨⟨e1,e2⟩,e3⟩:=by simpa using hw
    subst e1;subst e2;subst e3
    obtain⟨row,rs,bm,eW,hlen,hk⟩:=hv
    cases hx with
    |aF hb hl=>
     rename_i c o s cc
     refine⟨rs,hk,⟨_,_,by rw[hlen],.inr ⟨_,rfl,rfl,λn r hi=>?_⟩⟩⟩
     rw[gJ]at eW
     obtain⟨h1,h2⟩:=hr.row hb hn bm
     have:(((row.drop j).take len).map λx=>[x])[n]? =some r:=by rw[eW];exact hi
     rw[aaM,abT]at this
     split at this
     ·rw[abx]at this
      obtain⟨y,hy,rfl⟩:=aaO.1 this
      refine⟨rfl,λq z hz=>?_⟩
      cases q with
      |zero=>
       simp at hz;subst hz
       obtain⟨h3,v,h4,h5⟩:=h2 _ _ hy
       refine⟨h3,v,?_,h5⟩
       rw[←h4];congr 2;simp[aaX]
      |succ q=>simp at hz
     ·simp at this
    |iZ=>
     have:rs=[]:=aa1 hlen
     subst this
     exact⟨[],hk,⟨_,_,rfl,.inl rfl⟩⟩
  ·exact hv.elim
 ·exact hv.elim
theorem NL{h:List Blk}(hr:bL ι h w){x:AV}{v:Value}(hx:RA w ι x v){esz:Nat}{k:List (List PV)→Prop}(hv:lv h x esz k):
 ∃rows,k rows∧((∃l,x=.p (.str l)∧v=.string ⟨⟨l⟩⟩∧rows=l.map fY∧esz=1)∨oc w ι.M v esz rows):=by
 unfold lv at hv
 split at hv
 ·rename_i l
  cases hw:Nat.beq esz 1 with
  |false=>rw[hw]at hv;exact hv.elim
  |true=>
   rw[hw]at hv
   exact⟨_,hv,.inl ⟨l,rfl,pz hx,rfl,abg hw⟩⟩
 ·obtain⟨rows,h1,h2⟩:=F7 hr hx hv
  exact⟨rows,h1,.inr h2⟩
theorem NM{h:List Blk}(hr:bL ι h w){x:AV}{v:Value}(hx:RA w ι x v){k:AV→Prop}
 (hv:vslices h x 1 λrows=>∃l:List UInt8,rows=l.map fY∧k (.p (.str l))) {t d e:TypeId} (ht:P.underlying t=some (.slice e)) (he:P.underlying e=some (.int .u8))
 (hd:P.underlying d=some .string):cR P w ι k (convert t d v):=by
 obtain⟨rows,⟨l,rfl,hk⟩,sH⟩:=F7 hr hx hv
 obtain⟨oa,cap,rfl,pD⟩:=sH
 ·refine .mk hk (.p (.str l)) λw' bP=>?_
  rw[run_convert_bytes_string w' t d e _ _ _ ht he hd]
  rcases pD with h0|⟨ad,rfl,hs,bm⟩
  ·have:l=[]:=by simpa using h0
   subst this
   cases oa with
   |none=>rfl
   |some ad=>
    have:=run_bytesToString (P:=P) w' ad 0 cap [] (by simp[loadCells,loadCellsFrom])
    exact(by simpa using this:_=Result.ok (Value.string ByteArray.empty) w')
  ·have bn:∀i b,l[i]? =some b→w.cell? (ad.add i)=some (.int .u8 b.toNat):=by
    intro i b hb
    obtain⟨_,h2⟩:=bm i (fY b) (by simp[hb])
    obtain⟨_,v,h3,h4⟩:=h2 0 (.int .u8 b.toNat) rfl
    cases h4
    rw[xR hs]
    simpa using h3
   have hl:=run_loadCells_list (P:=P) w' ad ((l.map λb=>(b.toNat:Int)).map (Value.int .u8)) (λj v hv=>by
    simp at hv
    obtain⟨b,hb,rfl⟩:=hv
    exact bP.cell (bn j b hb))
   have:=run_bytesToString (P:=P) w' ad l.length cap (l.map λb=>(b.toNat:Int)) (by simpa using hl)
   simp only[aaR]
   rw[this,foldl_push_bytes]
   congr 2
   apply adq
   simp[abE,Function.comp_def]
end
section
variable {P:Program} {ι:az} {st:St} {a:Act} {w:World}
theorem pE{x:AV}(aZ:vok x=true){v:Value}(h:RA w ι x v):v.cells.size=(cellsOf x).length∧
 ∀(i:Nat) y,(cellsOf x)[i]? =some y→dP (v.cells.getD i undef)=true∧RA w ι y (v.cells.getD i undef):=by
 have single:dP v=true→(∀cs,v≠.agg cs)→RA w ι x v→cellsOf x=[x]→v.cells.size=(cellsOf x).length∧
  ∀(i:Nat) y,(cellsOf x)[i]? =some y→dP (v.cells.getD i undef)=true∧RA w ι y (v.cells.getD i undef):=by
  intro h1 h2 h3 h4
  have:v.cells= #[v]:=by cases v<;>first|rfl|exact absurd rfl (h2 _)
  rw[this,h4]
  refine⟨rfl,λi y hy=>?_⟩
  cases i with
  |zero=>simp at hy;subst hy;exact⟨by simpa using h1,by simpa using h3⟩
  |succ i=>simp at hy
 have h':=h
 cases h with
 |p hp=>
  rename_i x
  by_cases hx:∃l,x=.agg l
  ·obtain⟨l,rfl⟩:=hx
   obtain⟨cs,rfl,hl,bA,hr⟩:=Bb hp
   refine⟨by simp[Value.cells,cellsOf,hl],λi y hy=>?_⟩
   simp[cellsOf]at hy
   obtain⟨z,hz,rfl⟩:=hy
   exact⟨(hr i z hz).sv (bA i z hz),.p (hr i z hz)⟩
  ·have ho:x.one=true:=by cases x<;>first|rfl|exact absurd ⟨_,rfl⟩ hx
   refine single (hp.sv ho) (λcs hc=>?_) h' (by cases x<;>first|rfl|exact absurd ⟨_,rfl⟩ hx)
   subst hc
   have:=hp.sv ho
   simp[dP,Value.oneCell']at this
 |aE v=>simp[vok]at aZ
 |ptr hb=>exact single rfl (by simp) h' rfl
 |sl hb hl aR hs=>exact single rfl (by simp) h' rfl
 |c_ aR=>exact single rfl (by simp) h' rfl
 |aF hb hl=>exact single rfl (by simp) h' rfl
 |iZ=>exact single rfl (by simp) h' rfl
 |mpr hb=>exact single rfl (by simp) h' rfl
 |b8 hb hl hs=>exact single rfl (by simp) h' rfl
 |iB=>exact single rfl (by simp) h' rfl
 |ip hb=>exact single rfl (by simp) h' rfl
 |agg hl bA h=>exact⟨by simp[Value.cells,cellsOf,hl],λi y hy=>⟨bA i y hy,h i y hy⟩⟩
 |aD hl h=>simp[vok]at aZ
 |fn h1 h2 h3 h4=>exact single rfl (by simp) h' rfl
 |bK h=>exact single rfl (by simp) h' rfl
theorem Bi(cells:Array Value)(vs:List Value)(off n:Nat)(i:Nat):
 ((vs.zipIdx n).foldl (λcs (c,j)=>cs.setIfInBounds (off+j) c) cells)[i]? =
   if off+n≤i∧i<off+n+vs.length∧i<cells.size then vs[i - (off+n)]? else cells[i]?:=by
 induction vs generalizing cells n with
 |nil=>simp;omega
 |cons v r ih=>
  simp only[List.zipIdx_cons,List.foldl_cons]
  rw[ih]
  simp only[Array.size_setIfInBounds,List.length_cons]
  by_cases h1:i=off+n
  ·subst h1
   by_cases h2:off+n<cells.size
   ·rw[aaF (by omega),aaG (by omega)]
    simp[h2]
   ·rw[aaF (by omega),aaF (by omega)]
    rw[abV (by simp;omega),abV (by omega)]
  ·have bg:(cells.setIfInBounds (off+n) v)[i]? =cells[i]?:=ab4 (abk h1)
   by_cases h2:off+(n+1)≤i∧i<off+(n+1)+r.length∧i<cells.size
   ·rw[aaG h2,aaG (by omega)]
    rw[show i - (off+n)=(i - (off+(n+1)))+1 by omega]
    simp
   ·rw[aaF h2,aaF (by omega),bg]
theorem Bj(cells:Array Value)(vs:List Value)(off n:Nat):
 ((vs.zipIdx n).foldl (λcs (c,j)=>cs.setIfInBounds (off+j) c) cells).size=cells.size:=by
 induction vs generalizing cells n with
 |nil=>rfl
 |cons v r ih=>simp only[List.zipIdx_cons,List.foldl_cons];rw[ih];simp
theorem sI(cells:Array Value)(vs:Array Value)(off:Nat):
 vs.zipIdx.foldl (λcs (c,j)=>cs.setIfInBounds (off+j) c) cells=(vs.toList.zipIdx 0).foldl (λcs (c,j)=>cs.setIfInBounds (off+j) c) cells:=by
 rw[←Array.foldl_toList]
 simp[Array.toList_zipIdx]
def ju(w:World)(ι:az)(l:List AV)(cs:Array Value):Prop:=
 cs.size=l.length∧∀(i:Nat) x,l[i]? =some x→dP (cs.getD i undef)=true∧RA w ι x (cs.getD i undef)
theorem ju.put{l:List AV}{cs:Array Value}(h:ju w ι l cs){xs:List AV}{vs:Array Value}(hv:ju w ι xs vs)(off:Nat)(ho:off+xs.length≤l.length):
 ju w ι (l.take off++xs++l.drop (off+xs.length)) (vs.zipIdx.foldl (λcs (c,j)=>cs.setIfInBounds (off+j) c) cs):=by
 obtain⟨h1,h2⟩:=h
 obtain⟨h3,h4⟩:=hv
 refine⟨?_,λi x hx=>?_⟩
 ·rw[sI,Bj];simp;omega
 ·have hg:(vs.zipIdx.foldl (λcs (c,j)=>cs.setIfInBounds (off+j) c) cs).getD i undef=
   if off≤i∧i<off+xs.length then vs.getD (i - off) undef else cs.getD i undef:=by
   simp only[ab5]
   rw[sI,Bi]
   simp only[Nat.add_zero,Array.length_toList,h3]
   by_cases hc:off≤i∧i<off+xs.length
   ·rw[aaG hc,aaG ⟨hc.1,hc.2,by omega⟩];simp
   ·rw[aaF hc,aaF (λh=>hc ⟨h.1,h.2.1⟩)]
  rw[hg]
  by_cases hc:off≤i∧i<off+xs.length
  ·rw[aaG hc]
   apply h4
   rw[abi,abe (by simp;omega),aa9 (by simp;omega)]at hx
   simpa [ab6 (show off≤l.length by omega)]using hx
  ·rw[aaF hc]
   apply h2
   by_cases aq:i<off
   ·rw[abi,aa9 (by simp;omega),acj aq]at hx
    exact hx
   ·rw[abe (by simp;omega)]at hx
    simp only[aaV,abB,abx]at hx
    rw[show off+xs.length+(i - (min off l.length+xs.length))=i by omega]at hx
    exact hx
theorem NN{place:Nat→Option (Nat×Nat)}{parts:List (Nat×Operand)}{ps:List (Nat×Nat×aS)}(hp:cParts place parts=some ps)
 (gl:ga w ι.M) (tm:∀s,RA w ι (lk st.tmps s) (a.tmps.getD s undef)) {cells:List AV} {cs:Array Value} (hc:ju w ι cells cs) {out:List AV}
 (hf:fillA cells (evParts st ps)=some out):∃nc,Instr.fill place cs (parts.map λ(i,x)=>(i,a.eval x))=some nc∧ju w ι out nc:=by
 induction parts generalizing ps cells cs with
 |nil=>simp[cParts]at hp;subst hp;simp[evParts,fillA]at hf;subst hf;exact⟨cs,rfl,hc⟩
 |cons p r ih=>
  obtain⟨i,x⟩:=p
  unfold cParts at hp
  split at hp
  ·rename_i o s y l h1 h2 h3
   cases hp
   simp only[evParts,fillA]at hf
   cases hb:(vok (ev st y)&&Nat.beq (cellsOf (ev st y)).length s&&Nat.ble (o+s) cells.length)with
   |false=>rw[hb]at hf;cases hf
   |true=>
    rw[hb]at hf
    simp only[cond_true]at hf
    simp only[aaQ]at hb
    obtain⟨⟨aZ,e1⟩,e2⟩:=hb
    have e1:=abg e1
    have e2:=aa6 e2
    have hx:=bt gl tm h2
    obtain⟨g1,g2⟩:=pE aZ hx
    have dA:ju w ι (cellsOf (ev st y)) (a.eval x).cells:=⟨g1,g2⟩
    have eX:=hc.put dA o (by rw[e1];exact e2)
    rw[e1]at eX
    obtain⟨nc,h4,h5⟩:=ih h3 eX hf
    refine⟨nc,?_,h5⟩
    simp only[abr,Instr.fill,h1]
    rw[aaF]
    ·exact h4
    ·have:=hc.1
     simp only[ack,aa7,not_or]
     refine⟨by simp[g1,e1],by omega⟩
  ·cases hp
theorem qK{t:TypeId}{z:List PV}(h:zeroT P t=some z):∃i v,P.info? t=some i∧i.zero=some v∧ju w ι (z.map .p) v.cells∧
 (∀(i:Nat) x,z[i]? =some x→x.one=true∧RP w ι.M x (v.cells.getD i undef))∧v.cells.size=z.length:=by
 unfold zeroT at h
 split at h
 ·rename_i v hv
  obtain⟨i,hi,hz⟩:=ab7.1 hv
  obtain⟨h1,h2⟩:=FU (w:=w) (M:=ι.M) h
  have key:∀(i:Nat) x,z[i]? =some x→x.one=true∧RP w ι.M x (v.cells.getD i undef):=λi x hx=>by
   obtain⟨h3,u,hu,hr⟩:=h2 i x hx
   have:v.cells.getD i undef=u:=by
    simp only[ab5]
    rw[←ac2,hu];rfl
   rw[this]
   exact⟨h3,hr⟩
  refine⟨i,v,hi,hz,⟨by simp[h1],λi x hx=>?_⟩,key,by simp[h1]⟩
  simp at hx
  obtain⟨y,hy,rfl⟩:=hx
  obtain⟨h3,hr⟩:=key i y hy
  exact⟨hr.sv h3,.p hr⟩
 ·cases h
theorem od{t:TypeId}{i:TypeInfo}{v:Value}(hi:P.info? t=some i)(hz:i.zero=some v)(w:World):(zeroValue t).run P w=.ok v w:=by
 simp[zeroValue,run_typeInfo hi,hz]
theorem NO(fs:Array Field)(hs:∀f∈fs,∃s,bI P f.type=some s)(w:World):
 (fs.mapM λ(f:Field)=>do pure (f.offset,←Go.sizeOf f.type)).run P w=.ok (fs.map λ(f:Field)=>(f.offset,(bI P f.type).getD 0)) w:=by
 have h:∀l:List Field,(∀f∈l,∃s,bI P f.type=some s)→(l.mapM λ(f:Field)=>do pure (f.offset,←Go.sizeOf f.type)).run P w=.ok (l.map λ(f:Field)=>(f.offset,(bI P f.type).getD 0)) w:=by
  intro l
  induction l with
  |nil=>intro _;rfl
  |cons f r ih=>
   intro hl
   obtain⟨s,h1⟩:=hl f (by simp)
   simp only[ac5,Sem.run_bind,run_sizeOf h1,Result.andThen_ok,Sem.run_pure,ih λg hg=>hl g (by simp[hg])]
   simp[h1]
 rw[adV]
 simp only[Sem.run_map]
 rw[h fs.toList λf hf=>hs f (by simpa using hf)]
 simp only[Result.andThen_ok]
 congr 1
 apply abt
 simp
theorem Bk(gl:ga w ι.M)(tm:∀s,RA w ι (lk st.tmps s) (a.tmps.getD s undef)){t:TypeId}{parts:Array (Nat×Operand)}{z:List PV}{ps:List (Nat×Nat×aS)}{k:AV→Prop}
 (hz:zeroT P t=some z)
 (hp:(∃fs,P.underlying t=some (.struct fs)∧fs.toList.all (λf=>(bI P f.type).isSome)=true∧cParts (λi=>(fs.map λf=>(f.offset,(bI P f.type).getD 0))[i]?) parts.toList=some ps)∨
  ∃n e s,P.underlying t=some (.array n e)∧bI P e=some s∧cParts (λi=>some (i*s,s)) parts.toList=some ps)
 (h:vbuild (fillA (z.map .p) (evParts st ps)) k):
 cR P w ι k (Instr.build t (parts.map λ(i,x)=>(i,a.eval x))):=by
 obtain⟨i,v,hi,sJ,i_,_,_⟩:=qK (w:=w) (ι:=ι) hz
 unfold vbuild at h
 split at h
 ·rename_i l hl
  have go:∀place,cParts place parts.toList=some ps→∃nc,Instr.fill place v.cells ((parts.map λ(i,x)=>(i,a.eval x)).toList)=some nc∧ju w ι l nc:=λplace hp=>by
   have:=NN hp gl tm i_ hl
   simpa using this
  rcases hp with⟨fs,hu,cn,hp⟩|⟨n,e,s,hu,hs,hp⟩
  ·obtain⟨nc,h1,h2⟩:=go _ hp
   refine .mk h (xV h2.1 (λi x hx=>(h2.2 i x hx).1) λi x hx=>(h2.2 i x hx).2) λw' _=>?_
   have hm:=NO (P:=P) fs (λf hf=>by
    have:=aa8.1 cn f (by simpa using hf)
    exact adW.1 this) w'
   simp only[Instr.build,Sem.run_bind,od hi sJ,Result.andThen_ok,run_underlying hu,hm,h1,Sem.run_pure]
  ·obtain⟨nc,h1,h2⟩:=go _ hp
   refine .mk h (xV h2.1 (λi x hx=>(h2.2 i x hx).1) λi x hx=>(h2.2 i x hx).2) λw' _=>?_
   simp only[Instr.build,Sem.run_bind,od hi sJ,Result.andThen_ok,run_underlying hu,run_sizeOf hs,h1,Sem.run_pure]
 ·exact h.elim
theorem F8{x y:PV}(h:eqPV x y=true):x=y:=by
 cases x<;>cases y<;>simp[eqPV]at h
 ·rw[h.1,h.2]
 ·rw[h]
theorem F9(arr:List PV):∀(ps j4:List (Nat×Nat×AV)) (cells:List AV),shiftP arr.length ps=some j4→fillA (arr.map AV.p++cells) ps=(fillA cells j4).map (arr.map AV.p++·)
 |[],j4,cells,h=>by cases h;rfl
 |(off,s,v)::r,j4,cells,h=>by
  unfold shiftP at h
  cases hb:Nat.ble arr.length off with
  |false=>rw[hb]at h;cases h
  |true=>
   rw[hb]at h
   have hb:=aa6 hb
   simp only[cond_true]at h
   split at h
   ·rename_i l hl
    cases h
    simp only[fillA]
    have e:Nat.ble (off+s) (arr.map AV.p++cells).length=Nat.ble (off - arr.length+s) cells.length:=by
     rw[abn]
     simp only[aci]
     simp;omega
    rw[e]
    cases hc:(vok v&&Nat.beq (cellsOf v).length s&&Nat.ble (off - arr.length+s) cells.length)with
    |false=>rfl
    |true=>
     simp only[cond_true]
     rw[←F9 arr r l _ hl]
     congr 1
     rw[adr,ac3,abU (by simpa using hb),ac4 (by simp;omega),aaR]
     have:off+s - arr.length=off - arr.length+s:=by omega
     rw[this]
     simp
   ·cases h
theorem F_{arr:List PV}{cells:List AV}{ps:List (Nat×Nat×AV)}{k:AV→Prop}(h:uT arr cells (shiftP arr.length ps) k):vbuild (fillA (arr.map AV.p++cells) ps) k:=by
 unfold uT at h
 split at h
 ·rename_i j4 hp
  split at h
  ·rename_i l hl
   rw[F9 arr ps j4 cells hp,hl]
   simp only[Option.map_some,vbuild]
   rw[Be];exact h
  ·exact h.elim
 ·exact h.elim
theorem NP{n:Nat}{z0:PV}{z rest:List PV}(hn:n≤z.length)(cn:(z.take n).all (eqPV z0)=true)(pF:z.drop n=rest){ps:List (Nat×Nat×AV)}{k:AV→Prop}(h:vbuildx n z0 rest ps k):
 vbuild (fillA (z.map .p) ps) k:=by
 unfold vbuildx at h
 split at h
 ·rename_i s v r
  obtain⟨arr,pj,hc,⟨aZ,hl,hs,hle⟩,h⟩:=h
  subst hl
  have h:=F_ h
  have e:fillA (z.map AV.p) ((0,s,v)::r)=fillA (arr.map AV.p++(pj++(rest.drop pj.length).map AV.p)) r:=by
   simp only[fillA]
   have e1:(cellsOf v).length=s:=by rw[hc];simp;omega
   have hz:z.length=arr.length+rest.length:=by rw[←pF];simp;omega
   rw[aZ,e1]
   have e2:Nat.ble (0+s) (z.map AV.p).length=true:=by simp only[aci];simp;omega
   rw[e2]
   simp only[acr,Bool.and_self,cond_true,List.take_zero,List.nil_append,aaL]
   congr 1
   rw[hc,←pF,abI,←List.map_drop,hs]
   simp
  rw[e];exact h
 ·have hlen:(List.replicate n z0).length=n:=by simp
  have h2:uT (List.replicate n z0) (rest.map .p) (shiftP (List.replicate n z0).length ps) k:=by rw[hlen];exact h
  have h3:=F_ h2
  have e1:List.replicate n z0=z.take n:=by
   symm
   rw[ads]
   exact⟨by simp;omega,λx hx=>(F8 (aa8.1 cn x hx)).symm⟩
  rw[e1,←pF,←abb,abY]at h3
  exact h3
theorem xX{k:IntKind}{A:Prop}(h:A):mX k k A:=by cases k<;>exact h
def valOf:PV→Value
 |.int k n=>.int k n
 |.b x=>.bool x
 |.str l=>.string ⟨⟨l⟩⟩
 |_=>undef
def j5:PV→Bool
 |.int _ _=>true
 |.b _=>true
 |.str _=>true
 |_=>false
theorem u7{M:Nat→Prop}{x:PV}{v:Value}(h:RP w M x v)(hp:j5 x=true):v=valOf x:=by
 cases h<;>first|rfl|(simp[j5]at hp)
theorem sK{ks:List CK}{xs ys:List PV}(h:plainCells ks xs ys):xs.length=ks.length∧ys.length=ks.length∧(∀x∈xs,j5 x=true)∧∀y∈ys,j5 y=true:=by
 induction ks generalizing xs ys with
 |nil=>cases xs<;>cases ys<;>simp_all [plainCells]
 |cons k ks ih=>
  cases k<;>cases xs with
  |nil=>simp[plainCells]at h
  |cons x r=>cases ys with
   |nil=>cases x<;>simp[plainCells]at h
   |cons y s=>
    cases x<;>cases y<;>simp only[plainCells]at h
    all_goals first
     |exact h.elim
     |(obtain⟨_,h⟩:=eC h;obtain⟨_,h⟩:=eC h;obtain⟨h1,h2,h3,h4⟩:=ih h;simp[h1,h2,j5];exact⟨h3,h4⟩)
     |(obtain⟨h1,h2,h3,h4⟩:=ih h;simp[h1,h2,j5];exact⟨h3,h4⟩)
theorem Ga{ks ls:List CK}{xs ys:List PV}(h:plainCells (ks++ls) xs ys):
 plainCells ks (xs.take ks.length) (ys.take ks.length)∧plainCells ls (xs.drop ks.length) (ys.drop ks.length):=by
 induction ks generalizing xs ys with
 |nil=>simpa [plainCells]using h
 |cons k ks ih=>
  cases k<;>cases xs with
  |nil=>simp[plainCells]at h
  |cons x r=>cases ys with
   |nil=>cases x<;>simp[plainCells]at h
   |cons y s=>
    cases x<;>cases y<;>simp only[List.cons_append,plainCells]at h
    all_goals first
     |exact h.elim
     |(obtain⟨e1,h⟩:=eC h;obtain⟨e2,h⟩:=eC h;obtain⟨h1,h2⟩:=ih h
       simp only[List.length_cons,List.take_succ_cons,List.drop_succ_cons,plainCells]
       exact⟨by subst e1;subst e2;exact xX (xX h1),h2⟩)
     |(obtain⟨h1,h2⟩:=ih h;exact⟨h1,h2⟩)
theorem NQ{xs ys Gb Gc:List PV}(h:xs.length=ys.length):cellsEq (xs++Gb) (ys++Gc)=(cellsEq xs ys&&cellsEq Gb Gc):=by
 induction xs generalizing ys with
 |nil=>cases ys with
  |nil=>simp[cellsEq]
  |cons y s=>simp at h
 |cons x r ih=>cases ys with
  |nil=>simp at h
  |cons y s=>simp[cellsEq,ih (by simpa using h),ab8]
theorem Gd(n:Nat){xs ys:List PV}(h:xs.length=ys.length):cellsEq xs ys=(cellsEq (xs.take n) (ys.take n)&&cellsEq (xs.drop n) (ys.drop n)):=by
 conv=>lhs;rw[←abY n xs,←abY n ys]
 exact NQ (by simp[h])
def dJ(P:Program)(t:TypeId)(xs:List PV):Value:=
 match aggT P t with
 |some true=>.agg (xs.map valOf).toArray
 |_=>valOf (xs.headD (.b false))
theorem qL{t:TypeId}{n:Nat}{g:Bool}(hs:bI P t=some n)(hg:aggT P t=some g)(h1:g=false→n=1)(xs:List PV)(off:Nat)(ho:off+n≤xs.length)(w:World):
 (part t (xs.map valOf).toArray off).run P w=.ok (dJ P t ((xs.drop off).take n)) w:=by
 cases g with
 |true=>
  simp only[part,Sem.run_bind,pA hg,Result.andThen_ok,abu,run_sizeOf hs,Sem.run_pure,dJ,hg]
  congr 2
  apply abt
  simp[List.extract_eq_take_drop,ac6,List.map_drop]
 |false=>
  have:=h1 rfl
  subst this
  have aq:off<xs.length:=by omega
  have hd:(xs.drop off).take 1=[xs[off]]:=by
   rw[ac7 aq];rfl
  simp[part,pA hg,aq,dJ,hg,hd]
theorem qM{d:Nat}{t:TypeId}{ks:List CK}(h:plainK P d t=some ks):bI P t=some ks.length∧∃g,aggT P t=some g∧(g=false→ks.length=1):=by
 cases d with
 |zero=>simp[plainK]at h
 |succ d=>
  simp only[plainK]at h
  split at h
  ·split at h
   ·cases h;rename_i hu hs;exact⟨hs,false,by simp[aggT,hu],λ_=>rfl⟩
   ·cases h
  ·split at h
   ·cases h;rename_i hu hs;exact⟨hs,false,by simp[aggT,hu],λ_=>rfl⟩
   ·cases h
  ·split at h
   ·cases h;rename_i hu hs;exact⟨hs,false,by simp[aggT,hu],λ_=>rfl⟩
   ·cases h
  ·split at h
   ·split at h
    ·cases h;rename_i hu _ _ _ hs;exact⟨by rw[hs.2.2];simp,true,by simp[aggT,hu],by simp⟩
    ·cases h
   ·cases h
  ·split at h
   ·cases h
   ·split at h
    ·split at h
     ·cases h;rename_i hu _ _ _ hs;exact⟨hs,true,by simp[aggT,hu],by simp⟩
     ·cases h
    ·cases h
  ·cases h
def Bl(P:Program)(D:Nat)(t:TypeId)(ks:List CK):Prop:=
 ∀(xs ys:List PV),plainCells ks xs ys→∀w:World,(Op.equalIn D t (dJ P t xs) (dJ P t ys)).run P w=.ok (cellsEq xs ys) w
theorem Ge{D:Nat}{sz:TypeId→Option (List CK)}(hk:∀t ks,sz t=some ks→Bl P D t ks∧bI P t=some ks.length∧∃g,aggT P t=some g∧(g=false→ks.length=1))
 (xs ys:List PV):∀(fs:List Field) (off:Nat) (ks:List CK),plainF sz off fs=some ks→plainCells ks (xs.drop off) (ys.drop off)→∀w:World,
 (Op.eqFields D (xs.map valOf).toArray (ys.map valOf).toArray fs).run P w=.ok (cellsEq (xs.drop off) (ys.drop off)) w
 |[],off,ks,h,hp,w=>by
  simp[plainF]at h;subst h
  obtain⟨h1,h2,_⟩:=sK hp
  have e1:xs.drop off=[]:=aa1 (by simpa using h1)
  have e2:ys.drop off=[]:=aa1 (by simpa using h2)
  rw[e1,e2]
  simp[Op.eqFields,cellsEq]
 |f::r,off,ks,h,hp,w=>by
  simp only[plainF]at h
  split at h
  ·cases h
  ·rename_i hf
   split at h
   ·rename_i k1 dY
    split at h
    ·cases h
    rename_i nh
    split at h
    ·rename_i ls u9
     cases h
     obtain⟨h1,h2,g,hg,iE⟩:=hk _ _ dY
     obtain⟨l1,l2,_⟩:=sK hp
     obtain⟨p1,p2⟩:=Ga hp
     simp only[aaV,abZ]at l1 l2
     have u_:f.offset=off:=by
      by_cases h0:f.offset=off
      ·exact h0
      ·exact absurd (.inr h0) hf
     have mc:f.name≠ "_" :=λh0=>hf (.inl h0)
     have ih:=Ge hk xs ys r (off+k1.length) ls u9 (by rw[←abI,←abI];exact p2) w
     rw[←abI,←abI]at ih
     have ha:k1.length≤xs.length - off∧k1.length≤ys.length - off:=by omega
     have hb:off+k1.length≤xs.length∧off+k1.length≤ys.length:=by omega
     simp only[Op.eqFields,aaG mc,Sem.run_bind,u_,qL h2 hg iE xs off hb.1,qL h2 hg iE ys off hb.2,Result.andThen_ok,h1 _ _ p1]
     rw[Gd k1.length (by simp;omega:(xs.drop off).length=(ys.drop off).length)]
     cases hc:cellsEq ((xs.drop off).take k1.length) ((ys.drop off).take k1.length)with
     |false=>simp
     |true=>simpa using ih
    ·cases h
   ·cases h
theorem Gf{D:Nat}{e:TypeId}{k1:List CK}(h1:Bl P D e k1)(h2:bI P e=some k1.length){g:Bool}(hg:aggT P e=some g)(iE:g=false→k1.length=1)(hz:k1.length≠0)
 (xs ys:List PV):∀(m s:Nat),plainCells (List.replicate m k1).flatten (xs.drop (s*k1.length)) (ys.drop (s*k1.length))→∀w:World,
 (forIn (List.range' s m) ((none,()):Option Bool×PUnit) λi r=>do
  let a ←part e (xs.map valOf).toArray (i*k1.length)
  let b ←part e (ys.map valOf).toArray (i*k1.length)
  let r ←Op.equalIn D e a b
  if(!r)=true then pure (ForInStep.done ((some false,()):Option Bool×PUnit))else
   pure (ForInStep.yield (none,()))).run P w=.ok (if cellsEq (xs.drop (s*k1.length)) (ys.drop (s*k1.length))then(none,())else(some false,())) w
 |0,s,hp,w=>by
  obtain⟨l1,l2,_⟩:=sK hp
  have e1:xs.drop (s*k1.length)=[]:=aa1 (by simpa using l1)
  have e2:ys.drop (s*k1.length)=[]:=aa1 (by simpa using l2)
  rw[e1,e2]
  simp[cellsEq]
 |m+1,s,hp,w=>by
  rw[List.replicate_succ,List.flatten_cons]at hp
  obtain⟨l1,l2,_⟩:=sK hp
  obtain⟨p1,p2⟩:=Ga hp
  simp only[aaV,abZ]at l1 l2
  have hs:(s+1)*k1.length=s*k1.length+k1.length:=by rw[aaU,abC]
  have ih:=Gf h1 h2 hg iE hz xs ys m (s+1) (by rw[hs,←abI,←abI];exact p2) w
  rw[hs,←abI,←abI]at ih
  simp only[acF,adt,Sem.run_bind]
  simp only[qL h2 hg iE xs (s*k1.length) (by omega),qL h2 hg iE ys (s*k1.length) (by omega),Result.andThen_ok,h1 _ _ p1]
  rw[Gd k1.length (by simp;omega:(xs.drop (s*k1.length)).length=(ys.drop (s*k1.length)).length)]
  cases hc:cellsEq ((xs.drop (s*k1.length)).take k1.length) ((ys.drop (s*k1.length)).take k1.length)with
  |false=>simp
  |true=>simpa using ih
theorem Gg(d:Nat):∀(t:TypeId) (ks:List CK),plainK P d t=some ks→∀(D:Nat),d≤D→Bl P D t ks:=by
 induction d with
 |zero=>intro t ks h;simp[plainK]at h
 |succ d ih=>
  intro t ks h D hD xs ys hp w
  obtain⟨D,rfl⟩:∃m,D=m+1:=⟨D - 1,by omega⟩
  obtain⟨hs,g,hg,iE⟩:=qM h
  obtain⟨cd,dH,va,Gh⟩:=sK hp
  simp only[plainK]at h
  split at h
  case h_1 hu=>
   split at h
   ·cases h
    have hf:aggT P t=some false:=by simp[aggT,hu]
    obtain⟨x,rfl⟩:=ab0.1 cd
    obtain⟨y,rfl⟩:=ab0.1 dH
    cases x<;>cases y<;>simp only[plainCells]at hp
    simp[dJ,hf,valOf,Op.equalIn,run_underlying hu,cellsEq,cellEq]
   ·cases h
  case h_2 k hu=>
   split at h
   ·cases h
    have hf:aggT P t=some false:=by simp[aggT,hu]
    obtain⟨x,rfl⟩:=ab0.1 cd
    obtain⟨y,rfl⟩:=ab0.1 dH
    cases x<;>cases y<;>simp only[plainCells]at hp
    obtain⟨e1,hp⟩:=eC hp
    obtain⟨e2,hp⟩:=eC hp
    subst e1;subst e2
    simp[dJ,hf,valOf,Op.equalIn,run_underlying hu,cellsEq,cellEq]
   ·cases h
  case h_3 hu=>
   split at h
   ·cases h
    have hf:aggT P t=some false:=by simp[aggT,hu]
    obtain⟨x,rfl⟩:=ab0.1 cd
    obtain⟨y,rfl⟩:=ab0.1 dH
    cases x<;>cases y<;>simp only[plainCells]at hp
    simp[dJ,hf,valOf,Op.equalIn,run_underlying hu,cellsEq,cellEq,beq_toListBytes]
   ·cases h
  case h_4 len e hu=>
   split at h
   ·rename_i k1 dY
    split at h
    ·rename_i bM
     cases h
     have ht:aggT P t=some true:=by simp[aggT,hu]
     have NR:=ih e k1 dY D (by omega)
     obtain⟨se,ge,dG,Bm⟩:=qM dY
     have:=Gf NR se dG Bm bM.1 xs ys len 0 (by simpa using hp) w
     simp only[acf,adu]at this
     simp only[dJ,ht]
     simp only[Op.equalIn,Sem.run_bind,run_underlying hu,Result.andThen_ok,run_sizeOf se]
     rw[adX]
     have Bo:([:len]:Std.Legacy.Range).size=len:=by simp[Std.Legacy.Range.size]
     rw[Bo]
     show((Sem.run P (forIn (List.range' 0 len 1) _ _) w).andThen _)=_
     rw[this]
     cases cellsEq xs ys<;>simp
    ·cases h
   ·cases h
  case h_5 fs hu=>
   split at h
   ·cases h
   ·rename_i aU
    split at h
    ·rename_i k1 dY
     split at h
     ·cases h
      have ht:aggT P t=some true:=by simp[aggT,hu]
      have qN:P.fieldsOf t=fs:=by simp[Program.fieldsOf,hu]
      simp only[dJ,ht]
      rw[run_equalIn_struct w D t _ _ (by rw[qN];exact hu) (by simpa using aU),qN]
      have:=Ge (P:=P) (D:=D) (sz:=plainK P d) (λt ks h=>⟨ih t ks h D (by omega),qM h⟩) xs ys fs.toList 0 ks dY (by simpa using hp) w
      simpa using this
     ·cases h
    ·cases h
  case h_6=>cases h
end
def keyCells(ag:Bool)(x:PV):List PV:=
 match ag,x with
 |true,.agg l=>l
 |true,_=>[]
 |false,x=>[x]
theorem NS{a b:IntKind}(h:FD a b=true):a=b:=by cases a<;>cases b<;>first|rfl|cases h
theorem NT{a c:CK}(h:ckEq a c=true):a=c:=by
 cases a<;>cases c<;>first|rfl|(simp[ckEq]at h)|skip
 rw[NS h]
theorem xY:∀{a b:List CK},cksEq a b=true→a=b
 |[],[],_=>rfl
 |[],_::_,h=>by cases h
 |_::_,[],h=>by cases h
 |a::r,c::s,h=>by
  simp only[cksEq,aaQ]at h
  rw[NT h.1,xY h.2]
theorem Bp{a b:Bool}(h:qy a b=true):a=b:=by cases a<;>cases b<;>first|rfl|cases h
theorem NU{k:CK}{x:PV}(h:xB k x):j5 x=true:=by
 cases k<;>cases x<;>first|rfl|exact h.elim
theorem oe:∀{ks:List CK} {xs:List PV},cellsK ks xs→xs.length=ks.length∧∀x∈xs,j5 x=true
 |[],[],_=>by simp
 |[],_::_,h=>h.elim
 |_::_,[],h=>h.elim
 |k::ks,x::r,h=>by
  obtain⟨h1,h2⟩:=oe h.2
  refine⟨by simp[h1],λy hy=>?_⟩
  rcases aa0.1 hy with rfl|hy
  ·exact NU h.1
  ·exact h2 y hy
theorem Gi{a:IntKind}{A:Prop}(h:A):mX a a A:=by cases a<;>exact h
theorem Bq:∀{ks:List CK} {xs ys:List PV},cellsK ks xs→cellsK ks ys→plainCells ks xs ys
 |[],[],[],_,_=>trivial
 |[],_::_,_,h,_=>h.elim
 |[],[],_::_,_,h=>h.elim
 |_::_,[],_,h,_=>h.elim
 |_::_,_::_,[],_,h=>h.elim
 |k::ks,x::r,y::s,h,g=>by
  have ih:=Bq h.2 g.2
  have h1:=h.1
  have g1:=g.1
  cases k<;>cases x<;>first|exact h1.elim|skip
  all_goals cases y<;>first|exact g1.elim|skip
  ·obtain⟨rfl,_⟩:=eC h1
   obtain⟨rfl,_⟩:=eC g1
   exact Gi (Gi ih)
  ·exact ih
  ·exact ih
theorem me{ag:Bool}{ks:List CK}{x:PV}(h:dQ ag ks x):cellsK ks (keyCells ag x):=by
 cases ag
 ·exact h
 ·cases x<;>first|exact h|exact h.elim
theorem Gj{ag:Bool}{ks:List CK}{x y:PV}(hx:dQ ag ks x)(hy:dQ ag ks y):keyEq x y=cellsEq (keyCells ag x) (keyCells ag y):=by
 cases ag
 ·have h1:=oe hx
  have:j5 x=true:=h1.2 x (by simp)
  cases x<;>first|(simp[j5]at this;done)|simp[keyEq,cellsEq,keyCells]
 ·cases x<;>cases y<;>first|exact hx.elim|exact hy.elim|rfl
theorem jK{P:Program}{w:World}{r:Nat}{es:Array MapEntry}{clock:Nat}(hb:w.heap[r]? =some (.map es clock)):(getObj r).run P w=.ok (.map es clock) w:=by
 simp[getObj,Sem.run,hb]
theorem qO{P:Program}{w:World}{r:Nat}{es:Array MapEntry}{clock:Nat}(o:Obj)(hb:w.heap[r]? =some (.map es clock)):(setObj r o).run P w=.ok () {w with heap:=w.heap.setIfInBounds r o}:=by
 simp[setObj,Sem.run,hb]
theorem lF{w:World}{ι:az}{x:PV}{v:Value}(h:RA w ι (.p x) v):RP w ι.M x v:=by
 cases h;assumption
section
variable {P:Program} {w:World} {M:Nat→Prop}
theorem ni{t:TypeId}{ag:Bool}{ks:List CK}(h:keyK P t=some (ag,ks)):plainK P 20 t=some ks∧aggT P t=some ag∧(ag=false→ks.length=1):=by
 unfold keyK at h
 split at h
 ·rename_i h1 h2
  cases h
  obtain⟨_,g,hg,h3⟩:=qM h1
  rw[h2]at hg;cases hg
  exact⟨h1,h2,h3⟩
 ·cases h
theorem Br{M:Nat→Prop}{cells:List PV}{v:Value}(h:RP w M (.agg cells) v)(hp:∀x∈cells,j5 x=true):v=.agg (cells.map valOf).toArray:=by
 obtain⟨cs,rfl,hl,bA,hr⟩:=Bb h
 congr 1
 apply abt
 apply abj
 intro i
 by_cases hi:i<cells.length
 ·have h1:=u7 (hr i cells[i] (aaI hi)) (hp _ (abA hi))
  have bp:i<cs.size:=by omega
  simp[hi,bp]at h1 ⊢
  exact h1
 ·simp[hi,aaS,hl]
theorem nj{t:TypeId}{ag:Bool}{ks:List CK}(hk:keyK P t=some (ag,ks)){x:PV}{v:Value}(h:dQ ag ks x)(hr:RP w M x v):v=dJ P t (keyCells ag x):=by
 obtain⟨h1,h2,h3⟩:=ni hk
 obtain⟨_,hp⟩:=oe (me h)
 unfold dJ
 rw[h2]
 cases ag
 ·have:=hp x (by simp[keyCells])
  simpa [keyCells]using u7 hr this
 ·cases x<;>first|exact h.elim|skip
  exact Br hr hp
theorem Bs:∀{ks ls:List CK} {xs:List PV},cellsK (ks++ls) xs→cellsK ks (xs.take ks.length)∧cellsK ls (xs.drop ks.length)
 |[],ls,xs,h=>⟨by simp[cellsK],by simpa using h⟩
 |k::ks,ls,[],h=>h.elim
 |k::ks,ls,x::r,h=>by
  obtain⟨h1,h2⟩:=Bs h.2
  exact⟨⟨h.1,h1⟩,h2⟩
def Bt(P:Program)(D:Nat)(t:TypeId)(ks:List CK):Prop:=
 ∀(e:Bool) (xs:List PV),cellsK ks xs→∀w:World,(Instr.checkKey e D t (dJ P t xs)).run P w=.ok () w
theorem Gk{D:Nat}{e:TypeId}{k1:List CK}(h1:Bt P D e k1)(h2:bI P e=some k1.length){g:Bool}(hg:aggT P e=some g)(iE:g=false→k1.length=1)(em:Bool)
 (xs:List PV):∀(m s:Nat),cellsK (List.replicate m k1).flatten (xs.drop (s*k1.length))→∀w:World,
 (forIn (List.range' s m) PUnit.unit λi _=>do
  let n ←Go.sizeOf e
  let a ←part e (xs.map valOf).toArray (i*n)
  Instr.checkKey em D e a
  pure (ForInStep.yield PUnit.unit)).run P w=.ok PUnit.unit w
 |0,s,hp,w=>by simp
 |m+1,s,hp,w=>by
  rw[List.replicate_succ,List.flatten_cons]at hp
  obtain⟨p1,p2⟩:=Bs hp
  obtain⟨l1,_⟩:=oe hp
  simp only[aaV,abZ]at l1
  have hs:(s+1)*k1.length=s*k1.length+k1.length:=by rw[aaU,abC]
  have ih:=Gk h1 h2 hg iE em xs m (s+1) (by rw[hs,←abI];exact p2) w
  simp only[acF,adt,Sem.run_bind,run_sizeOf h2,Result.andThen_ok]
  have hle:k1.length≤xs.length - s*k1.length:=by omega
  by_cases hz:k1.length=0
  ·have e0:k1=[]:=aa1 hz
   have sL:s*k1.length+k1.length≤xs.length:=by simp[e0]
   simp only[qL h2 hg iE xs (s*k1.length) sL,Result.andThen_ok,h1 em _ p1,Sem.run_pure]
   exact ih
  ·have sL:s*k1.length+k1.length≤xs.length:=by omega
   simp only[qL h2 hg iE xs (s*k1.length) sL,Result.andThen_ok,h1 em _ p1,Sem.run_pure]
   exact ih
theorem Gl{D:Nat}{sz:TypeId→Option (List CK)}(hk:∀t ks,sz t=some ks→Bt P D t ks∧bI P t=some ks.length∧∃g,aggT P t=some g∧(g=false→ks.length=1))(em:Bool)
 (xs:List PV):∀(fs:List Field) (off:Nat) (ks:List CK),plainF sz off fs=some ks→cellsK ks (xs.drop off)→∀w:World,
 (forIn fs PUnit.unit λ(f:Field) _=>(do
  if f.name≠ "_" then do
   let a ←part f.type (xs.map valOf).toArray f.offset
   Instr.checkKey em D f.type a
   pure (ForInStep.yield PUnit.unit)
  else pure (ForInStep.yield PUnit.unit):Sem (ForInStep PUnit))).run P w=.ok PUnit.unit w
 |[],off,ks,h,hp,w=>by simp
 |f::r,off,ks,h,hp,w=>by
  simp only[plainF]at h
  split at h
  ·cases h
  ·rename_i hf
   split at h
   ·rename_i k1 dY
    split at h
    ·cases h
    rename_i nh
    split at h
    ·rename_i ls u9
     cases h
     obtain⟨h1,h2,g,hg,iE⟩:=hk _ _ dY
     obtain⟨l1,_⟩:=oe hp
     obtain⟨p1,p2⟩:=Bs hp
     simp only[aaV,abZ]at l1
     have u_:f.offset=off:=by
      by_cases h0:f.offset=off
      ·exact h0
      ·exact absurd (.inr h0) hf
     have mc:f.name≠ "_" :=λh0=>hf (.inl h0)
     have ih:=Gl hk em xs r (off+k1.length) ls u9 (by rw[←abI];exact p2) w
     have hb:off+k1.length≤xs.length:=by omega
     simp only[adt,Sem.run_bind,aaG mc,u_,qL h2 hg iE xs off hb,Result.andThen_ok,h1 em _ p1,Sem.run_pure]
     exact ih
    ·cases h
   ·cases h
theorem vb(d:Nat):∀(t:TypeId) (ks:List CK),plainK P d t=some ks→∀(D:Nat),d≤D→Bt P D t ks:=by
 induction d with
 |zero=>intro t ks h;simp[plainK]at h
 |succ d ih=>
  intro t ks h D hD em xs hp w
  obtain⟨D,rfl⟩:∃m,D=m+1:=⟨D - 1,by omega⟩
  obtain⟨hs,g,hg,iE⟩:=qM h
  obtain⟨cd,va⟩:=oe hp
  simp only[plainK]at h
  split at h
  case h_1 hu=>simp[Instr.checkKey,run_underlying hu]
  case h_2 k hu=>simp[Instr.checkKey,run_underlying hu]
  case h_3 hu=>simp[Instr.checkKey,run_underlying hu]
  case h_4 len e hu=>
   split at h
   ·rename_i k1 dY
    split at h
    ·rename_i bM
     cases h
     have ht:aggT P t=some true:=by simp[aggT,hu]
     obtain⟨se,ge,dG,Bm⟩:=qM dY
     have:=Gk (ih e k1 dY D (by omega)) se dG Bm em xs len 0 (by simpa using hp) w
     simp only[dJ,ht]
     simp only[Instr.checkKey,Sem.run_bind,run_underlying hu,Result.andThen_ok]
     rw[adX]
     have Bo:([:len]:Std.Legacy.Range).size=len:=by simp[Std.Legacy.Range.size]
     rw[Bo]
     show((Sem.run P (forIn (List.range' 0 len 1) _ _) w).andThen _)=_
     rw[this]
     rfl
    ·cases h
   ·cases h
  case h_5 fs hu=>
   split at h
   ·cases h
   ·rename_i aU
    split at h
    ·rename_i k1 dY
     split at h
     ·cases h
      have ht:aggT P t=some true:=by simp[aggT,hu]
      simp only[dJ,ht]
      simp only[Instr.checkKey,Sem.run_bind,run_underlying hu,Result.andThen_ok]
      rw[←Array.forIn_toList]
      have:=Gl (P:=P) (D:=D) (sz:=plainK P d) (λt ks h=>⟨ih t ks h D (by omega),qM h⟩) em xs fs.toList 0 ks dY (by simpa using hp) w
      rw[this]
      rfl
     ·cases h
    ·cases h
  case h_6=>cases h
def pG(P:Program)(t:TypeId)(ag:Bool)(ks:List CK)(ents:List (PV×PV))(fP:List MapEntry):Prop:=
 fP.length=ents.length∧∀(i:Nat) k v,ents[i]? =some (k,v)→dQ ag ks k∧∃e,fP[i]? =some e∧e.key=dJ P t (keyCells ag k)
theorem pG.tail{t:TypeId}{ag:Bool}{ks:List CK}{x:PV×PV}{r:List (PV×PV)}{e:MapEntry}{s:List MapEntry}(h:pG P t ag ks (x::r) (e::s)):pG P t ag ks r s:=
 ⟨by simpa using h.1,λi k v hi=>by simpa using h.2 (i+1) k v (by simpa using hi)⟩
def Found(ents:List (PV×PV))(fP:List MapEntry)(i0:Nat):Option (Nat×PV)→Option (Nat×Value)→Prop
 |none,r=>r=none
 |some (i,v),r=>∃j e kk,i=i0+j∧fP[j]? =some e∧ents[j]? =some (kk,v)∧r=some (i,e.val)
theorem Found.tail{x:PV×PV}{r:List (PV×PV)}{e:MapEntry}{s:List MapEntry}{i0:Nat}{o:Option (Nat×PV)}{q:Option (Nat×Value)}(h:Found r s (i0+1) o q):Found (x::r) (e::s) i0 o q:=by
 cases o with
 |none=>exact h
 |some iv=>
  obtain⟨i,v⟩:=iv
  obtain⟨j,e',kk,h1,h2,h3,h4⟩:=h
  exact⟨j+1,e',kk,by omega,by simpa using h2,by simpa using h3,h4⟩
theorem Gm{t:TypeId}{ag:Bool}{ks:List CK}(hk:keyK P t=some (ag,ks)){x:PV}(hx:dQ ag ks x):∀(ents:List (PV×PV)) (fP:List MapEntry) (i0:Nat),pG P t ag ks ents fP→
 ∃q,Found ents fP i0 (mfind ents x i0) q∧∀w:World,(Instr.findAsking t (dJ P t (keyCells ag x)) fP i0).run P w=.ok q w
 |[],fP,i0,h=>by
  have:fP=[]:=aa1 h.1
  subst this
  exact⟨none,rfl,λw=>by simp[Instr.findAsking]⟩
 |(k,v)::r,[],i0,h=>by cases h.1
 |(k,v)::r,e::s,i0,h=>by
  obtain⟨q,hq,aT⟩:=Gm hk hx r s (i0+1) h.tail
  obtain⟨lE,e',qP,cD⟩:=h.2 0 k v rfl
  simp at qP;subst qP
  obtain⟨h1,h2,h3⟩:=ni hk
  have heq:=Gg 20 t ks h1 10000 (by omega) _ _ (Bq (me hx) (me lE))
  rw[←Gj hx lE]at heq
  have Gn:∀w:World,(Op.equal t (dJ P t (keyCells ag x)) e.key).run P w=.ok (keyEq x k) w:=λw=>by rw[cD];exact heq w
  cases hc:keyEq x k with
  |true=>
   refine⟨some (i0,e.val),?_,λw=>by simp[Instr.findAsking,Gn,hc]⟩
   simp only[mfind,hc,cond_true]
   exact⟨0,e,k,rfl,rfl,rfl,rfl⟩
  |false=>
   refine⟨q,?_,λw=>by simp[Instr.findAsking,Gn,hc,aT]⟩
   simp only[mfind,hc,cond_false]
   exact hq.tail
theorem NV{t:TypeId}{ag:Bool}{ks:List CK}(hk:keyK P t=some (ag,ks)){d:TypeDesc}(hu:P.underlying t=some d){x y:PV}(hx:dQ ag ks x)(hy:dQ ag ks y):
 Instr.sameNow d (dJ P t (keyCells ag x)) (dJ P t (keyCells ag y))=none∨Instr.sameNow d (dJ P t (keyCells ag x)) (dJ P t (keyCells ag y))=some (keyEq x y):=by
 obtain⟨h1,h2,h3⟩:=ni hk
 cases ag with
 |true=>
  left
  unfold dJ
  rw[h2]
  simp only[keyCells]
  cases x<;>first|exact hx.elim|skip
  cases d<;>rfl
 |false=>
  unfold dJ
  rw[h2]
  simp only[keyCells,List.headD_cons]
  obtain⟨_,px⟩:=oe hx
  obtain⟨_,py⟩:=oe hy
  have px:=px x (by simp)
  have py:=py y (by simp)
  have NW:=Bq hx hy
  cases x<;>first|(simp[j5]at px;done)|skip
  all_goals cases y<;>first|(simp[j5]at py;done)|skip
  all_goals cases d<;>first|(left;rfl)|skip
  ·have ff:∀{k1 k2:IntKind} {n1 n2:Int},dQ false ks (.int k1 n1)→dQ false ks (.int k2 n2)→k1=k2:=by
    intro k1 k2 n1 n2 hx hy
    cases ks with
    |nil=>exact hx.elim
    |cons c r=>
     cases c<;>first|exact hx.1.elim|skip
     obtain⟨e1,_⟩:=eC hx.1
     obtain⟨e2,_⟩:=eC hy.1
     rw[←e1,←e2]
   have:=ff hx hy
   subst this
   right
   simp[Instr.sameNow,valOf,keyEq,cellEq]
  ·right;rfl
  ·right
   simp only[Instr.sameNow,valOf,keyEq,cellEq]
   congr 1
   rw[beq_toListBytes]
   simp
theorem Gp{t:TypeId}{ag:Bool}{ks:List CK}(hk:keyK P t=some (ag,ks)){d:TypeDesc}(hu:P.underlying t=some d){x:PV}(hx:dQ ag ks x):∀(ents:List (PV×PV)) (fP:List MapEntry) (i0:Nat),pG P t ag ks ents fP→
 Instr.findNow d (dJ P t (keyCells ag x)) fP i0=none∨∃q,Found ents fP i0 (mfind ents x i0) q∧Instr.findNow d (dJ P t (keyCells ag x)) fP i0=some q
 |[],fP,i0,h=>by
  have:fP=[]:=aa1 h.1
  subst this
  exact .inr ⟨none,rfl,rfl⟩
 |(k,v)::r,[],i0,h=>by cases h.1
 |(k,v)::r,e::s,i0,h=>by
  obtain⟨lE,e',qP,cD⟩:=h.2 0 k v rfl
  simp at qP;subst qP
  rcases NV hk hu hx lE with hn|hn
  ·rw[←cD]at hn
   left;simp only[Instr.findNow,hn]
  ·rw[←cD]at hn
   cases hc:keyEq x k with
   |true=>
    right
    refine⟨some (i0,e.val),?_,by simp only[Instr.findNow,hn,hc]⟩
    simp only[mfind,hc,cond_true]
    exact⟨0,e,k,rfl,rfl,rfl,rfl⟩
   |false=>
    rcases Gp hk hu hx r s (i0+1) h.tail with h1|⟨q,hq,h1⟩
    ·left;simp only[Instr.findNow,hn,hc,h1]
    ·right
     refine⟨q,?_,by simp only[Instr.findNow,hn,hc,h1]⟩
     simp only[mfind,hc,cond_false]
     exact hq.tail
theorem NX{d:Nat}{t:TypeId}{ks:List CK}(h:plainK P d t=some ks):∃k,P.underlying t=some k:=by
 cases d with
 |zero=>simp[plainK]at h
 |succ d=>
  simp only[plainK]at h
  split at h<;>first|exact⟨_,by assumption⟩|cases h
theorem vd{t:TypeId}{ag:Bool}{ks:List CK}(hk:keyK P t=some (ag,ks)){x:PV}(hx:dQ ag ks x){ents:List (PV×PV)}{fP:List MapEntry}(h:pG P t ag ks ents fP):
 ∃q,Found ents fP 0 (mfind ents x 0) q∧∀w:World,(Instr.findKey t (dJ P t (keyCells ag x)) fP).run P w=.ok q w:=by
 obtain⟨d,hu⟩:=NX (ni hk).1
 rcases Gp hk hu hx ents fP 0 h with h1|⟨q,hq,h1⟩
 ·obtain⟨q,hq,aT⟩:=Gm hk hx ents fP 0 h
  exact⟨q,hq,λw=>by simp[Instr.findKey,run_underlying hu,h1,aT]⟩
 ·exact⟨q,hq,λw=>by simp[Instr.findKey,run_underlying hu,h1]⟩
theorem n_.ents{ι:az}{t:TypeId}{ag:Bool}{ks:List CK}(hk:keyK P t=some (ag,ks)){ents:List (PV×PV)}{es:Array MapEntry}(h2:es.size=ents.length)
 (h3:∀(i:Nat) k v,ents[i]? =some (k,v)→dQ ag ks k∧∃e,es[i]? =some e∧e.born=i∧RP w ι.M k e.key∧RP w ι.M v e.val):pG P t ag ks ents es.toList:=by
 refine⟨by simpa using h2,λi k v hi=>?_⟩
 obtain⟨g0,e,g1,g2,g3,g4⟩:=h3 i k v hi
 exact⟨g0,e,by simpa using g1,nj hk g0 g3⟩
theorem xZ{t:TypeId}{z:PV}(h:zeroV P t=some z):∃v,RP w M z v∧∀w':World,(zeroValue t).run P w'=.ok v w':=by
 unfold zeroV at h
 obtain⟨v,h1,h2⟩:=ab7.1 h
 obtain⟨i,hi,hz⟩:=ab7.1 h1
 exact⟨v,FV h2,λw'=>by simp[zeroValue,run_typeInfo hi,hz]⟩
theorem NY{h:List Blk}{m:AV}{ag:Bool}{ks:List CK}{k:Nat→List (PV×PV)→Prop}(hv:vmap h m ag ks k):∃b ents,m=.mpr b∧nth .dead h b=.mp ag ks ents∧k b ents:=by
 unfold vmap at hv
 split at hv
 ·rename_i b
  split at hv
  ·rename_i l6 l7 ents hn
   cases hb:(qy ag l6&&cksEq ks l7)with
   |false=>rw[hb]at hv;exact hv.elim
   |true=>
    rw[hb]at hv
    simp only[aaQ]at hb
    rw[←Bp hb.1,←xY hb.2]at hn
    exact⟨b,ents,rfl,hn,hv⟩
  ·exact hv.elim
 ·exact hv.elim
theorem Gq{h:List Blk}{m:AV}{ag:Bool}{ks:List CK}{k1:Nat→List (PV×PV)→Prop}{k2:Nat→Nat→List (PV×List (List PV))→Option Nat→Prop}(hv:vmapn h m ag ks k1 k2):
 (∃b ents,m=.mpr b∧nth .dead h b=.mp ag ks ents∧k1 b ents)∨∃b wd ents op,m=.mpr b∧nth .dead h b=.bF ag ks wd ents op∧k2 b wd ents op:=by
 unfold vmapn at hv
 split at hv
 ·rename_i b
  split at hv
  ·rename_i l6 l7 ents hn
   cases hb:(qy ag l6&&cksEq ks l7)with
   |false=>rw[hb]at hv;exact hv.elim
   |true=>
    rw[hb]at hv
    simp only[aaQ]at hb
    rw[←Bp hb.1,←xY hb.2]at hn
    exact .inl ⟨b,ents,rfl,hn,hv⟩
  ·rename_i l6 l7 wd ents op hn
   cases hb:(qy ag l6&&cksEq ks l7)with
   |false=>rw[hb]at hv;exact hv.elim
   |true=>
    rw[hb]at hv
    simp only[aaQ]at hb
    rw[←Bp hb.1,←xY hb.2]at hn
    exact .inr ⟨b,wd,ents,op,rfl,hn,hv⟩
  ·exact hv.elim
 ·exact hv.elim
def qQ(wd:Nat)(ents:List (PV×List (List PV))):List (PV×PV):=ents.map λe=>(e.1,.au wd e.2 none)
theorem Bu(wd:Nat)(x:PV):∀(ents:List (PV×List (List PV))) (i:Nat),mfind (qQ wd ents) x i=(mfindN ents x i).map λq=>(q.1,.au wd q.2 none)
 |[],_=>rfl
 |(k,v)::r,i=>by
  have ih:=Bu wd x r (i+1)
  unfold qQ at ih ⊢
  simp only[abr,mfind,mfindN]
  cases keyEq x k
  ·simpa using ih
  ·rfl
theorem NZ(wd:Nat)(ents:List (PV×List (List PV))):(qQ wd ents).length=ents.length:=by simp[qQ]
theorem Gr{M:Nat→Prop}{wd:Nat}{t:TypeId}{ag:Bool}{ks:List CK}(hk:keyK P t=some (ag,ks)){ents:List (PV×List (List PV))}{es:Array MapEntry}(h2:es.size=ents.length)
 (h3:∀(i:Nat) k rows,ents[i]? =some (k,rows)→dQ ag ks k∧∃e,es[i]? =some e∧e.born=i∧RP w M k e.key):pG P t ag ks (qQ wd ents) es.toList:=by
 refine⟨by rw[NZ];simpa using h2,λi k v hi=>?_⟩
 simp only[qQ,aaM]at hi
 obtain⟨⟨k',rows⟩,bp,e⟩:=aaO.1 hi
 cases e
 obtain⟨g0,e,g1,g2,g3⟩:=h3 i _ rows bp
 exact⟨g0,e,by simpa using g1,nj hk g0 g3⟩
theorem ve{x:AV}{k:PV→Prop}(h:qz x k):∃y,x=.p y∧k y:=by
 unfold qz at h
 split at h
 ·exact⟨_,rfl,h⟩
 ·exact h.elim
theorem sM{ι:az}{h:List Blk}(hr:bL ι h w){b:Nat}{v:Value}{ag:Bool}{ks:List CK}{ents:List (PV×PV)}(hv:RA w ι (.mpr b) v)(hn:nth .dead h b=.mp ag ks ents):
 ∃c o s,v=.map (some c)∧ι b=some (c,o,s)∧n_ w ι c ag ks ents:=by
 cases hv
 rename_i c o s hb
 have:=hr.blk b
 rw[hn,hb]at this
 obtain⟨c',o',s',he,hm⟩:=this
 cases he
 exact⟨c,o,s,rfl,hb,hm⟩
theorem Gs{ι:az}{h:List Blk}(hr:bL ι h w){b wd:Nat}{op:Option Nat}{v:Value}{ag:Bool}{ks:List CK}{ents:List (PV×List (List PV))}(hv:RA w ι (.mpr b) v)(hn:nth .dead h b=.bF ag ks wd ents op):
 ∃c o s,v=.map (some c)∧ι b=some (c,o,s)∧∃es,w.heap[c]? =some (.map es ents.length)∧es.size=ents.length∧
  ∀(i:Nat) k rows,ents[i]? =some (k,rows)→dQ ag ks k∧∃e,es[i]? =some e∧e.born=i∧RP w ι.M k e.key:=by
 cases hv
 rename_i c o s hb
 have:=hr.blk b
 rw[hn,hb]at this
 obtain⟨c',o',s',he,hm⟩:=this
 cases he
 exact⟨c,o,s,rfl,hb,hm⟩
theorem N0{ι:az}{h:List Blk}(hr:bL ι h w){m x:AV}{mv xv:Value}(hm:RA w ι m mv)(hx:RA w ι x xv){t kt et:TypeId}(hu:P.underlying t=some (.map kt et)){ag:Bool}{ks:List CK}(hk:keyK P kt=some (ag,ks))
 {z:PV} (hz:zeroV P et=some z) {ok:Bool} {k:AV→Prop} (hv:AW h ag ks z ok m x k):cR P w ι k (Instr.lookup t mv xv ok):=by
 obtain⟨y,rfl,cD,hv⟩:=ve hv
 rcases Gq hv with⟨b,ents,rfl,hn,o,ho,ff⟩|⟨b,wd,ents,op,rfl,hn,o,ho,ff⟩
 rotate_left
 ·obtain⟨c,of,s,rfl,hb,es,h1,h2,h3⟩:=Gs hr hm hn
  have eL:=nj hk cD (lF hx)
  obtain⟨q,hq,aT⟩:=vd hk cD (Gr (wd:=wd) hk h2 h3)
  obtain⟨zv,kM,og⟩:=xZ (w:=w) (M:=ι.M) hz
  have j6:=vb 20 kt ks (ni hk).1 10000 (by omega) es.isEmpty _ (me cD)
  rw[Bu,ho]at hq
  have main:∀(rv:Value) (av:AV) (f:Bool),k (l8 ok av f)→RA w ι av rv→
   (∀w':World,Ext w w'→(Instr.lookup t (.map (some c)) xv ok).run P w'=.ok (if ok then .tuple #[rv,.bool f]else rv) w')→cR P w ι k (Instr.lookup t (.map (some c)) xv ok):=by
   intro rv av f ff dt bG
   have dB:RA w ι (l8 ok av f) (if ok then .tuple #[rv,.bool f]else rv):=by
    cases ok with
    |true=>
     refine .aD rfl λi x hi=>?_
     cases i with
     |zero=>simp at hi;subst hi;exact dt
     |succ i=>cases i with
      |zero=>simp at hi;subst hi;exact .p (.b _)
      |succ i=>simp at hi
    |false=>exact dt
   exact .mk ff dB bG
  cases o with
  |none=>
   have hq:q=none:=hq
   subst hq
   refine main zv (.p z) false ff (.p kM) λw' jv=>?_
   have gi:=jK (P:=P) (jv _ _ h1)
   simp only[Instr.lookup,Sem.run_bind,run_underlying hu,Result.andThen_ok,gi,Sem.run_pure,eL,j6,aT,og]
  |some iv=>
   obtain⟨i,rows⟩:=iv
   obtain⟨j,e,kk,e1,e2,e3,rfl⟩:=hq
   have hj:j=i:=by simpa using e1.symm
   subst hj
   obtain⟨e4,ff⟩:=ff
   subst e4
   simp only[qQ,aaM]at e3
   obtain⟨⟨k',rows'⟩,e3,e5⟩:=aaO.1 e3
   cases e5
   have h5:=hr.hid b j
   unfold HB at h5
   have a_:(nth .dead h b).inner j=some (wd,rows',true):=by rw[hn];simp only[Blk.inner];rw[‹ents[j]? =some (k',rows')›];rfl
   rw[a_]at h5
   obtain⟨v',p1,p2⟩:=h5.2 rfl
   rw[hn,hb]at p1
   obtain⟨c2,o2,s2,Bv,e',e6,p1,p3,p4⟩:=p1
   cases e6
   rw[h1]at p1;cases p1
   have N1:es[j]? =some e:=by simpa using e2
   rw[N1]at p3;cases p3
   subst p4
   have dB:RA w ι (.b8 b wd j rows'.length) e.val:=by
    rcases p2 with⟨c',o',s',cc,q1,q2,ql,qs⟩|⟨q1,oa,q2⟩
    ·rw[q2];exact .b8 q1 ql qs
    ·rw[q1,q2];exact .iB
   refine main e.val _ true ff dB λw' jv=>?_
   have gi:=jK (P:=P) (jv _ _ h1)
   simp only[Instr.lookup,Sem.run_bind,run_underlying hu,Result.andThen_ok,gi,Sem.run_pure,eL,j6,aT]
 obtain⟨c,of,s,rfl,hb,es,h1,h2,h3⟩:=sM hr hm hn
 have eL:=nj hk cD (lF hx)
 obtain⟨q,hq,aT⟩:=vd hk cD (n_.ents hk h2 h3)
 obtain⟨zv,kM,og⟩:=xZ (w:=w) (M:=ι.M) hz
 have j6:=vb 20 kt ks (ni hk).1 10000 (by omega) es.isEmpty _ (me cD)
 rw[ho]at hq
 have main:∀(rv:Value) (av:PV) (f:Bool),(AU z o=av∧FE o=f)→RP w ι.M av rv→
  (∀w':World,Ext w w'→(Instr.lookup t (.map (some c)) xv ok).run P w'=.ok (if ok then .tuple #[rv,.bool f]else rv) w')→cR P w ι k (Instr.lookup t (.map (some c)) xv ok):=by
  intro rv av f ⟨e1,e2⟩ dt bG
  have dB:RA w ι (xC z ok o) (if ok then .tuple #[rv,.bool f]else rv):=by
   cases ok with
   |true=>
    simp only[xC,e1,e2]
    refine .aD rfl λi x hi=>?_
    cases i with
    |zero=>simp at hi;subst hi;exact .p dt
    |succ i=>cases i with
     |zero=>simp at hi;subst hi;exact .p (.b _)
     |succ i=>simp at hi
   |false=>simp only[xC,e1];exact .p dt
  exact .mk ff dB bG
 cases o with
 |none=>
  have hq:q=none:=hq
  subst hq
  refine main zv z false ⟨rfl,rfl⟩ kM λw' jv=>?_
  have gi:=jK (P:=P) (jv _ _ h1)
  simp only[Instr.lookup,Sem.run_bind,run_underlying hu,Result.andThen_ok,gi,Sem.run_pure,eL,j6,aT,og]
 |some iv=>
  obtain⟨i,v⟩:=iv
  obtain⟨j,e,kk,e1,e2,e3,rfl⟩:=hq
  obtain⟨_,e',g1,_,_,g4⟩:=h3 j kk v e3
  have:e'=e:=by have h5:es[j]? =some e:=by simpa using e2
                rw[h5]at g1;cases g1;rfl
  subst this
  refine main e'.val v true ⟨rfl,rfl⟩ g4 λw' jv=>?_
  have gi:=jK (P:=P) (jv _ _ h1)
  simp only[Instr.lookup,Sem.run_bind,run_underlying hu,Result.andThen_ok,gi,Sem.run_pure,eL,j6,aT]
theorem N2{ι:az}{h:List Blk}(hr:bL ι h w){m:AV}{mv:Value}(hm:RA w ι m mv){t ty kt et:TypeId}(hu:P.underlying t=some (.map kt et)){k:AV→Prop}(hv:AX h m k):
 cR P w ι k (Builtin.len_ #[t] ty #[mv]):=by
 unfold AX at hv
 split at hv
 ·rename_i b
  split at hv
  ·rename_i ag ks ents hn
   obtain⟨c,of,s,rfl,hb,es,h1,h2,h3⟩:=sM hr hm hn
   refine .mk hv (.p (.int _ _)) λw' jv=>?_
   have gi:=jK (P:=P) (jv _ _ h1)
   simp[Builtin.len_,run_underlying hu,gi,h2,goInt]
  ·exact hv.elim
 ·exact hv.elim
end
section
variable {P:Program} {ι:az} {st:St} {a:Act} {w:World}
theorem x5{x y:AV}{v u:Value}(hx:RA w ι x v)(hy:RA w ι y u){op:BinOp}{neg:Bool}(du:(op=.eql∧neg=false)∨(op=.neq∧neg=true)){t:TypeId}{ks:List CK}
 (hk:plainK P 20 t=some ks) (N3:aggT P t=some true) (hg:P.eqGuardType P.depth t=false) {k:AV→Prop} {xo yo:Operand}
 (h:vcmpa neg ks x y k):
 cR P w ι k (do eqGuard op t xo yo v u;binOp op t v u):=by
 unfold vcmpa at h
 split at h
 ·rename_i as bs
  obtain⟨hp,h⟩:=h
  obtain⟨_,_,sN,nk⟩:=sK hp
  cases hx
  rename_i hx
  cases hy
  rename_i hy
  rw[Br hx sN,Br hy nk]
  have heq:=Gg 20 t ks hk 10000 (by omega) as bs hp
  simp only[dJ,N3]at heq
  refine .mk h (.p (.b _)) λw' _=>?_
  rw[Sem.run_bind,run_eqGuard_agg w' op t xo yo _ _ hg]
  rcases du with⟨rfl,rfl⟩|⟨rfl,rfl⟩
  ·simp only[Result.andThen_ok,run_eql_struct,heq,cond_false]
  ·simp only[Result.andThen_ok,run_neq_struct,heq,cond_true]
 ·exact h.elim
theorem Gt{x y:AV}{v u:Value}(hx:RA w ι x v)(hy:RA w ι y u){op:BinOp}{neg:Bool}(du:(op=.eql∧neg=false)∨(op=.neq∧neg=true)){t:TypeId}
 (ht:P.underlying t=some .bool) {k:AV→Prop} {xo yo:Operand}
 (h:vcmpb neg x y k):
 cR P w ι k (do eqGuard op t xo yo v u;binOp op t v u):=by
 unfold vcmpb at h
 split at h
 ·rename_i x0 y0
  rw[pw hx,pw hy]
  have e:∀w',(Op.equal t (.bool x0) (.bool y0)).run P w'=.ok (x0==y0) w':=λw'=>run_equalIn_bool' w' 9999 t x0 y0 ht
  refine .mk h (.p (.b _)) λw' _=>?_
  rcases du with⟨rfl,rfl⟩|⟨rfl,rfl⟩<;>simp[eqGuard,Go.binOp,e]
 ·exact h.elim
theorem Bw{t e:TypeId}(ht:P.underlying t=some (.pointer e))(x:Option Addr)(w:World):(Op.equal t (.pointer x) (.pointer none)).run P w=.ok x.isNone w:=by
 have h:∀d,(Op.equalIn (d+1) t (.pointer x) (.pointer none)).run P w=.ok x.isNone w:=λd=>by
  cases x<;>simp[Op.equalIn,run_underlying ht]
 exact h 9999
theorem Gu{x y:AV}{v u:Value}(hx:RA w ι x v)(hy:RA w ι y u){op:BinOp}{neg:Bool}(du:(op=.eql∧neg=false)∨(op=.neq∧neg=true)){t e:TypeId}
 (ht:P.underlying t=some (.pointer e)) {k:AV→Prop} {xo yo:Operand}
 (h:vcmpp neg x y k):
 cR P w ι k (do eqGuard op t xo yo v u;binOp op t v u):=by
 unfold vcmpp at h
 split at h
 ·rw[u4 hx,u4 hy]
  refine .mk h (.p (.b _)) λw' _=>?_
  rcases du with⟨rfl,rfl⟩|⟨rfl,rfl⟩<;>simp[eqGuard,Go.binOp,Bw ht]
 ·rw[u4 hy]
  cases hx
  refine .mk h (.p (.b _)) λw' _=>?_
  rcases du with⟨rfl,rfl⟩|⟨rfl,rfl⟩<;>simp[eqGuard,Go.binOp,Bw ht]
 ·rw[u4 hy]
  cases hx
  rename_i hx
  cases hx
  refine .mk h (.p (.b _)) λw' _=>?_
  rcases du with⟨rfl,rfl⟩|⟨rfl,rfl⟩<;>simp[eqGuard,Go.binOp,Bw ht]
 ·exact h.elim
theorem Gv{t e:TypeId}(ht:P.underlying t=some (.slice e))(x:Option Addr)(n c:Nat)(w:World):(Op.equal t (.slice x n c) (.slice none 0 0)).run P w=.ok x.isNone w:=by
 have h:∀d,(Op.equalIn (d+1) t (.slice x n c) (.slice none 0 0)).run P w=.ok x.isNone w:=λd=>by
  cases x<;>simp[Op.equalIn,run_underlying ht]
 exact h 9999
theorem Gw{y:Operand}(h:cOpd y=some (.c (.au 0 [] (some 0)))):y=.const (.slice none 0 0):=by
 cases y with
 |tmp t=>cases h
 |func f=>cases h
 |global g=>
  obtain⟨r,_,h⟩:=aaO.1 h
  cases h
 |const v=>
  obtain⟨x,hx,h⟩:=aaO.1 h
  cases h
  unfold pvOf at hx
  split at hx
  ·obtain⟨l,_,hx⟩:=aaO.1 hx
   cases hx
  ·unfold pv1 at hx
   split at hx<;>first|(cases hx;done)|rfl
theorem Gx{x:AV}{v:Value}(hx:RA w ι x v){op:BinOp}{neg:Bool}(du:(op=.eql∧neg=false)∨(op=.neq∧neg=true)){t e:TypeId}
 (ht:P.underlying t=some (.slice e)) {k:AV→Prop} {xo yo:Operand} (h:AR neg x k):
 cR P w ι k (do eqGuard op t xo yo v (.slice none 0 0);binOp op t v (.slice none 0 0)):=by
 have main:∀(b:Option Addr) (n c:Nat),v=.slice b n c→(b=none→k (.p (.b (!neg))))→k (.p (.b neg))→cR P w ι k (do eqGuard op t xo yo v (.slice none 0 0);binOp op t v (.slice none 0 0)):=by
  rintro b n c rfl h1 h2
  cases b with
  |none=>
   refine .mk (h1 rfl) (.p (.b _)) λw' _=>?_
   rcases du with⟨rfl,rfl⟩|⟨rfl,rfl⟩<;>simp[eqGuard,Go.binOp,Gv ht]
  |some b=>
   refine .mk h2 (.p (.b _)) λw' _=>?_
   rcases du with⟨rfl,rfl⟩|⟨rfl,rfl⟩<;>simp[eqGuard,Go.binOp,Gv ht]
 unfold AR at h
 split at h
 ·rename_i wd rows cap
  have hp:RP w ι.M (.au wd rows cap) v:=by cases hx;assumption
  obtain⟨oa,c0,hv,hc,aR,N4⟩:=lC hp
  rcases N4 with hr|⟨ad,rfl,_⟩
  ·exact main _ _ _ hv (λ_=>h.1 hr) h.2
  ·exact main _ _ _ hv (λe=>by cases e) h.2
 ·rename_i b wd i l cap
  cases hx with
  |sl hb hl aR hs=>exact main _ _ _ rfl (λe=>by cases e) h.2
  |c_ aR=>exact main _ _ _ rfl (λ_=>h.1 rfl) h.2
 ·exact h.elim
theorem N5{x:AV}{v:Value}(hx:RA w ι x v){op:UnOp}{k:AV→Prop}(h:vun op x k):cR P w ι k (Op.unary op v):=by
 unfold vun at h
 split at h
 ·rw[jI hx];exact .mk h (.p (.int _ _)) λw' _=>by simp[Op.unary,Op.intArith,intAr]
 ·rw[jI hx];exact .mk h (.p (.int _ _)) λw' _=>by simp[Op.unary,Op.intBits,intAr]
 ·rw[pw hx];exact .mk h (.p (.b _)) λw' _=>by simp[Op.unary]
 ·exact h.elim
theorem N6{x:AV}{v:Value}(hx:RA w ι x v){i:Nat}{k:AV→Prop}(h:vext x i k):cR P w ι k (Instr.extract v i):=by
 unfold vext at h
 split at h
 ·rename_i l
  cases hb:Nat.blt i l.length with
  |false=>rw[hb]at h;exact h.elim
  |true=>
   rw[hb]at h
   simp only[cond_true]at h
   have aq:i<l.length:=by simpa [ace]using hb
   have e:nth .undef l i=l[i]:=by rw[iC,aaI aq];rfl
   rw[e]at h
   cases hx with
   |aD hl hr=>
    refine .mk (dh h) (hr i _ (aaI aq)) λw' _=>?_
    simp[Instr.extract,hl,aq]
 ·exact h.elim
theorem Gy{x y:AV}{v u:Value}(hx:RA w ι x v)(hy:RA w ι y u){isMax:Bool}{k:AV→Prop}{ts:Array TypeId}{ty:TypeId}
 (h:vmm isMax x y k):
 cR P w ι k (if isMax then Builtin.max_ ts ty #[v,u]else Builtin.min_ ts ty #[v,u]):=by
 unfold vmm at h
 split at h
 ·rename_i kk n kb m
  obtain⟨_,h⟩:=eC h
  rw[jI hx,jI hy]
  cases isMax with
  |true=>
   refine .mk h (.p (.int _ _)) λw' _=>?_
   simp only[abu,Builtin.max_,List.foldlM_cons,List.foldlM_nil,Builtin.max2,Sem.run_bind,Sem.run_pure,Result.andThen_ok,cond_true]
   congr 2
   by_cases h1:n<m
   ·rw[aaG h1];omega
   ·rw[aaF h1];omega
  |false=>
   refine .mk h (.p (.int _ _)) λw' _=>?_
   simp only[abP,abm,Builtin.min_,List.foldlM_cons,List.foldlM_nil,Builtin.min2,Sem.run_bind,Sem.run_pure,Result.andThen_ok,cond_false]
   congr 2
   by_cases h1:m<n
   ·rw[aaG h1];omega
   ·rw[aaF h1];omega
 ·exact h.elim
theorem N7(gl:ga w ι.M)(tm:∀s,RA w ι (lk st.tmps s) (a.tmps.getD s undef)){f:Nat}{first cap:Array Operand}{fl cl:List aS}(hf:cOpds first.toList=some fl)(hc:cOpds cap.toList=some cl)
 {k:AV→Prop} (h:vmkfn f (evL st fl) (evL st cl) k):
 cR P w ι k (Instr.makeFunc (.func f) (first.map a.eval) (cap.map a.eval)):=by
 obtain⟨l1,h1⟩:=xS gl tm hf
 obtain⟨l2,h2⟩:=xS gl tm hc
 have e1:(first.toList.map a.eval).toArray=first.map a.eval:=by apply abt;simp
 have e2:(cap.toList.map a.eval).toArray=cap.map a.eval:=by apply abt;simp
 rw[e1]at h1
 rw[e2]at h2
 have aT:∀w',(Instr.makeFunc (.func f) (first.map a.eval) (cap.map a.eval)).run P w'=.ok (.func (.func f) (first.map a.eval) (cap.map a.eval)) w':=λw'=>rfl
 unfold vmkfn at h
 split at h
 ·rename_i as cs ha ja
  have ea:=u5 ha
  have ec:=u5 ja
  refine .mk h (.p (.fn ?_ ?_ (λi x hx=>?_) (λi x hx=>?_))) λw' _=>aT w'
  ·have:=aaH List.length ea;simp at this l1 ⊢;omega
  ·have:=aaH List.length ec;simp at this l2 ⊢;omega
  ·have:=h1 i (.p x) (by rw[ea];simp[hx])
   cases this;assumption
  ·have:=h2 i (.p x) (by rw[ec];simp[hx])
   cases this;assumption
 ·exact .mk h (.fn (by simp at l1 ⊢;omega) (by simp at l2 ⊢;omega) h1 h2) λw' _=>aT w'
theorem gW{x:PV}{v:Value}(h:RA w ι (.p x) v):RP w ι.M x v:=by
 cases h;assumption
theorem Gz{x:AV}{v:Value}(hx:RA w ι x v){k:AV→Prop}(h:vnil x k):k x∧((∃a,v=.pointer (some a))∨∃f fa ca,v=.func (.func f) fa ca):=by
 unfold vnil at h
 split at h
 ·cases hx;exact⟨h,.inl ⟨_,rfl⟩⟩
 ·cases hx;rename_i hx;cases hx;exact⟨h,.inl ⟨_,rfl⟩⟩
 ·cases hx;rename_i hx;cases hx;exact⟨h,.inr ⟨_,_,_,rfl⟩⟩
 ·cases hx;exact⟨h,.inr ⟨_,_,_,rfl⟩⟩
 ·exact h.elim
theorem N8{x:AV}{v:Value}(hx:RA w ι x v){kk kj:IntKind}{k:AV→Prop}(h:AS kk x k){s d:TypeId}(hs:P.underlying s=some (.int kj))(hd:P.underlying d=some (.int kk)):
 cR P w ι k (convert s d v):=by
 unfold AS at h
 split at h
 ·rw[jI hx]
  exact .mk h (.p (.int _ _)) λw' _=>by simp[convert,run_underlying hs,run_underlying hd,Conv.intToInt]
 ·exact h.elim
def Bx(P:Program)(w:World)(ι:az)(k:AV→Prop)(s:Sem Next):Prop:=
 ∃av v,k av∧RA w ι av v∧∀w',Ext w w'→s.run P w'=.ok (.value v) w'
theorem Bx.of{k:AV→Prop}{s:Sem Value}(h:cR P w ι k s):Bx P w ι k (do pure (.value (←s))):=by
 obtain⟨av,v,h1,h2,h3⟩:=h
 exact⟨av,v,h1,h2,λw' bP=>by simp[h3 w' bP]⟩
def stillOp(o:Oper):Bool:=
 match o.op with
 |.move _|.assign _|.nilCheck _|.fieldAddr _ _ _=>true
 |_=>false
theorem N9(gl:ga w ι.M)(tm:∀s,RA w ι (lk st.tmps s) (a.tmps.getD s undef)){o:Oper}{ro:RO}(hs:stillOp o=true)(hc:cop P o=some ro){k:AV→Prop}(h:so ro st k):
 ∃av v,k av∧RA w ι av v∧∀w',(execOp a.eval o).run P w'=.ok (.value v) w':=by
 unfold stillOp at hs
 unfold cop at hc
 split at hs
 ·rename_i x ho
  rw[ho]at hc
  obtain⟨x',hx,rfl⟩:=aaO.1 hc
  rw[execOp,ho]
  exact⟨_,_,dh h,bt gl tm hx,λw'=>rfl⟩
 ·rename_i x ho
  rw[ho]at hc
  obtain⟨x',hx,rfl⟩:=aaO.1 hc
  rw[execOp,ho]
  exact⟨_,_,dh h,bt gl tm hx,λw'=>rfl⟩
 ·rename_i x ho
  rw[ho]at hc
  obtain⟨x',hx,rfl⟩:=aaO.1 hc
  rw[execOp,ho]
  have hv:=bt gl tm hx
  obtain⟨hk,hn⟩:=Gz hv h
  refine⟨_,_,hk,hv,λw'=>?_⟩
  rcases hn with⟨ad,hn⟩|⟨f,fa,ca,hn⟩
  ·simp only[hn];rfl
  ·simp only[hn];rfl
 ·rename_i t x f ho
  rw[ho]at hc
  rw[execOp,ho]
  simp only at hc
  split at hc
  ·rename_i fs x' hu hx
   split at hc
   ·rename_i fd hf
    split at hc
    ·rename_i n hs
     cases hc
     obtain⟨av,r,h1,h2,h3⟩:=NC (bt gl tm hx) h hu hf hs
     exact⟨av,r,h1,h2,λw'=>by simp[h3 w']⟩
    ·cases hc
   ·cases hc
  ·cases hc
 ·cases hs
theorem N_{h:List Blk}(hr:bL ι h w){ax:AV}{v:Value}(hx:RA w ι ax v){k:AV→Prop}(hk:vmentry h ax k):cR P w ι k (Instr.entry v):=by
 unfold vmentry at hk
 split at hk
 ·rename_i b wd
  split at hk
  ·rename_i m n i seen hn
   split at hk
   ·rename_i ag ks ents iF
    obtain⟨rfl,y,u,hi,hk⟩:=hk
    cases hx
    rename_i c o' s hb
    have bq:=hr.blk b
    rw[hn,hb]at bq
    obtain⟨c',s',cm,sn,he,hc,x6,hm⟩:=bq
    cases he
    obtain⟨o2,s2,oh⟩:=hm m rfl
    have vf:=hr.blk m
    rw[iF,oh]at vf
    obtain⟨c3,o3,s3,he,es,h1,h2,h3⟩:=vf
    cases he
    obtain⟨_,e,g1,g2,g3,g4⟩:=h3 i y u hi
    have x7:sn.back? =some i:=by
     have:sn.toList=(i::seen).reverse:=by rw[←x6,List.reverse_reverse]
     rw[←Array.getLast?_toList,this];simp
    have om:∀(j:Nat) e',es[j]? =some e'→e'.born=j:=λj e' he=>by
     have aq:j<ents.length:=by have:=(aaW.1 he).1;omega
     obtain⟨_,e2,q1,q2,_⟩:=h3 j ents[j].1 ents[j].2 (by rw[aaI aq])
     rw[he]at q1;cases q1;exact q2
    have jL:(es.find? λe=>e.born==i)=some e:=by
     cases hf:es.find? λe=>e.born==i with
     |none=>
      rw[Array.find?_eq_none]at hf
      exact absurd (by simpa using g2) (hf e (adv g1))
     |some e'=>
      have a7:=Array.find?_some hf
      obtain⟨j,hj⟩:=adY (Array.mem_of_find?_eq_some hf)
      have:=om j e' hj
      have mf:j=i:=by simpa [this]using a7
      rw[mf,g1]at hj
      exact hj.symm
    have e0:0+(0*wd+0)=0:=by omega
    rw[e0]
    refine .mk (v:=.tuple #[e.key,e.val]) hk ?_ λw' bP=>?_
    ·refine .aD rfl λi x hi=>?_
     cases i with
     |zero=>simp at hi;subst hi;exact .p g3
     |succ i=>cases i with
      |zero=>simp at hi;subst hi;exact .p g4
      |succ i=>simp at hi
    ·have nm:=bP _ _ hc
     have gX:(getObj c).run P w'=.ok (.mapIter (some cm) ents.length sn ents.length) w':=by simp[getObj,Sem.run,nm]
     have By:(getObj cm).run P w'=.ok (.map es ents.length) w':=jK (bP _ _ h1)
     simp only[Instr.entry,Sem.run_bind,gX,By,Result.andThen_ok,x7,bne_self_eq_false,abP,abm,jL,Sem.run_pure]
   ·exact hk.elim
  ·exact hk.elim
 ·exact hk.elim
theorem GA{av:AV}{v:Value}(h:RA w ι av v)(ok f:Bool):RA w ι (l8 ok av f) (if ok then .tuple #[v,.bool f]else v):=by
 cases ok with
 |true=>
  refine .aD rfl λi x hi=>?_
  cases i with
  |zero=>simp at hi;subst hi;exact h
  |succ i=>cases i with
   |zero=>simp at hi;subst hi;exact .p (.b _)
   |succ i=>simp at hi
 |false=>exact h
theorem Oa{ax:AV}{v:Value}(hx:RA w ι ax v){xt t:TypeId}{d:TypeDesc}(hu:P.underlying t=some d)(hd:∀l,d=.interface l→False){z:PV}(hz:zeroV P t=some z){ok:Bool}{k:AV→Prop}(h:vtas t z ok ax k):
 cR P w ι k (Instr.typeAssert v xt t ok):=by
 have yes:∀u (w':World),(Instr.typeAssert (.iface t u) xt t ok).run P w'=.ok (if ok then .tuple #[u,.bool true]else u) w':=λu w'=>by
  simp only[Instr.typeAssert,Sem.run_bind,run_underlying hu,Result.andThen_ok]
  cases d<;>first|(exact(hd _ rfl).elim)|simp
 have no:∀t' u zv (w':World),t'≠t→ok=true→(zeroValue t).run P w'=.ok zv w'→(Instr.typeAssert (.iface t' u) xt t ok).run P w'=.ok (.tuple #[zv,.bool false]) w':=λt' u zv w' bg aZ qR=>by
  subst aZ
  simp only[Instr.typeAssert,Sem.run_bind,run_underlying hu,Result.andThen_ok]
  cases d<;>first|(exact(hd _ rfl).elim)|(simp[bg,qR])
 obtain⟨zv,kM,og⟩:=xZ (w:=w) (M:=ι.M) hz
 have one:∀(t':TypeId) (y:AV) (u:Value),RA w ι y u→(bif Nat.beq t' t then k (l8 ok y true)else bif ok then k (l8 true (.p z) false)else False)→cR P w ι k (Instr.typeAssert (.iface t' u) xt t ok):=by
  clear h
  intro t' y u hy h
  cases hb:Nat.beq t' t with
  |true=>
   rw[hb]at h
   obtain rfl:=abg hb
   exact .mk h (GA hy ok true) λw' _=>yes u w'
  |false=>
   rw[hb]at h
   have bg:t'≠t:=λe=>by subst e;simp at hb
   cases aZ:ok with
   |true=>
    rw[aZ]at h
    exact .mk h (GA (.p kM) true false) λw' _=>by have:=no t' u zv w' bg aZ (og w');rw[aZ]at this;simpa using this
   |false=>rw[aZ]at h;exact h.elim
 unfold vtas at h
 split at h
 ·rename_i t' y
  have hp:=gW hx
  cases hp
  rename_i u hy
  exact one t' (.p y) u (.p hy) h
 ·rename_i t' y
  cases hx
  rename_i u hy
  exact one t' y u hy h
 ·exact h.elim
theorem GB(gl:ga w ι.M)(tm:∀s,RA w ι (lk st.tmps s) (a.tmps.getD s undef))(hr:bL ι st.heap w){o:Oper}{ro:RO}(hc:cop P o=some ro){k:AV→Prop}(h:so ro st k):
 Bx P w ι k (execOp a.eval o):=by
 unfold cop at hc
 split at hc
 case h_1 x ho=>
  obtain⟨x',hx,rfl⟩:=aaO.1 hc
  rw[execOp,ho]
  exact⟨_,_,dh h,bt gl tm hx,λw' _=>rfl⟩
 case h_2 x ho=>
  obtain⟨x',hx,rfl⟩:=aaO.1 hc
  rw[execOp,ho]
  exact⟨_,_,dh h,bt gl tm hx,λw' _=>rfl⟩
 case h_3 c p q ho=>
  split at hc
  ·rename_i c' p' q' h1 h2 h3
   cases hc
   rw[execOp,ho]
   have dX:=bt gl tm h1
   have h:vpick (ev st c') (ev st p') (ev st q') k:=h
   unfold vpick at h
   split at h
   ·rename_i b hb
    rw[hb]at dX
    have h:=AM h
    cases b with
    |true=>exact⟨_,_,dh h,bt gl tm h2,λw' _=>by simp[pw dX,asBool]⟩
    |false=>exact⟨_,_,dh h,bt gl tm h3,λw' _=>by simp[pw dX,asBool]⟩
   ·exact h.elim
  ·cases hc
 case h_4 op t x y yt ho=>
  split at hc
  ·rename_i x' y' h1 h2
   rw[execOp,ho]
   have hx:=bt gl tm h1
   have hy:=bt gl tm h2
   refine .of ?_
   unfold cBin at hc
   split at hc
   ·cases hc
    exact FW hx hy (dh (k:=λy=>vbin op _ y k) (dh (k:=λx=>force (ev st y') λy=>vbin op x y k) h))
   ·cases hc
    exact FW hx hy (dh (k:=λy=>vbin op _ y k) (dh (k:=λx=>force (ev st y') λy=>vbin op x y k) h))
   ·rename_i ht
    split at hc
    ·cases hc;exact Gt hx hy (.inl ⟨rfl,rfl⟩) ht h
    ·cases hc;exact Gt hx hy (.inr ⟨rfl,rfl⟩) ht h
    ·cases hc
   ·rename_i e ht
    split at hc
    ·cases hc
     rw[Gw h2]
     exact Gx hx (.inl ⟨rfl,rfl⟩) ht h
    ·cases hc
     rw[Gw h2]
     exact Gx hx (.inr ⟨rfl,rfl⟩) ht h
    ·cases hc
   ·rename_i e ht
    split at hc
    ·cases hc
    ·split at hc
     ·cases hc;exact Gu hx hy (.inl ⟨rfl,rfl⟩) ht h
     ·cases hc;exact Gu hx hy (.inr ⟨rfl,rfl⟩) ht h
     ·cases hc
   ·rename_i fs ht
    split at hc
    ·rename_i ks hk
     split at hc
     ·rename_i hg
      split at hc
      ·cases hc;exact x5 hx hy (.inl ⟨rfl,rfl⟩) hk (by simp[aggT,ht]) hg h
      ·cases hc;exact x5 hx hy (.inr ⟨rfl,rfl⟩) hk (by simp[aggT,ht]) hg h
      ·cases hc
     ·cases hc
    ·cases hc
   ·rename_i n e ht
    split at hc
    ·rename_i ks hk
     split at hc
     ·rename_i hg
      split at hc
      ·cases hc;exact x5 hx hy (.inl ⟨rfl,rfl⟩) hk (by simp[aggT,ht]) hg h
      ·cases hc;exact x5 hx hy (.inr ⟨rfl,rfl⟩) hk (by simp[aggT,ht]) hg h
      ·cases hc
     ·cases hc
    ·cases hc
   ·cases hc
  ·cases hc
 case h_5 op t x ho=>
  obtain⟨x',hx,rfl⟩:=aaO.1 hc
  rw[execOp,ho]
  exact .of (N5 (bt gl tm hx) h)
 case h_6 e _=>
  obtain⟨x',hx,rfl⟩:=aaO.1 hc
  rcases FR P e x' with e1|⟨_,_,_,e1,_⟩<;>(rw[e1]at h;exact h.elim)
 case h_7 e _ _=>
  split at hc
  ·rename_i x' s _ _
   cases hc
   rcases FT P e x' s with e1|⟨_,e1⟩<;>(rw[e1]at h;exact h.elim)
  ·cases hc
 case h_8 t parts ho=>
  rw[execOp,ho]
  split at hc
  ·rename_i fs z hu hz
   split at hc
   ·rename_i cn
    obtain⟨ps,hp,rfl⟩:=aaO.1 hc
    rcases FQ P t z ps with e1|⟨n,z0,rest,e1,h1,h2,h3⟩
    ·rw[e1]at h;exact .of (Bk gl tm hz (.inl ⟨fs,hu,cn,hp⟩) h)
    ·rw[e1]at h;exact .of (Bk gl tm hz (.inl ⟨fs,hu,cn,hp⟩) (NP h1 h2 h3 h))
   ·cases hc
  ·rename_i n e z hu hz
   split at hc
   ·rename_i s hs
    obtain⟨ps,hp,rfl⟩:=aaO.1 hc
    exact .of (Bk gl tm hz (.inr ⟨n,e,s,hu,hs,hp⟩) h)
   ·cases hc
  ·cases hc
 case h_9=>
  split at hc
  ·split at hc
   ·split at hc
    ·cases hc;exact h.elim
    ·cases hc
   ·cases hc
  ·cases hc
 case h_10 t x ho=>
  split at hc
  ·rename_i x' s g hx hs hg
   cases hc
   rw[execOp,ho]
   exact .of (Bf hr (bt gl tm hx) (dh (k:=λa=>vload st.heap a s g k) h) hs hg)
  ·cases hc
 case h_11=>
  split at hc
  ·cases hc;exact h.elim
  ·cases hc
 case h_12 x ho=>
  obtain⟨x',hx,rfl⟩:=aaO.1 hc
  rw[execOp,ho]
  have hv:=bt gl tm hx
  obtain⟨hk,hn⟩:=Gz hv h
  refine⟨_,_,hk,hv,λw' _=>?_⟩
  rcases hn with⟨ad,hn⟩|⟨f,fa,ca,hn⟩
  ·simp only[hn];rfl
  ·simp only[hn];rfl
 case h_13 t x f ho=>
  rw[execOp,ho]
  split at hc
  ·rename_i fs x' hu hx
   split at hc
   ·rename_i fd hf
    split at hc
    ·rename_i n hs
     cases hc
     exact .of (NB (bt gl tm hx) h hu hf hs)
    ·cases hc
   ·cases hc
  ·cases hc
 case h_14 t x f ho=>
  rw[execOp,ho]
  split at hc
  ·rename_i fs x' hu hx
   split at hc
   ·rename_i fd hf
    split at hc
    ·rename_i n g hs hg
     cases hc
     exact .of (ND (bt gl tm hx) h hu hf hs hg)
    ·cases hc
   ·cases hc
  ·cases hc
 case h_15 t x i ho=>
  rw[execOp,ho]
  split at hc
  ·rename_i n e x' i' hu hx hi
   obtain⟨s,hs,rfl⟩:=aaO.1 hc
   exact .of (Nv (bt gl tm hx) (bt gl tm hi) h hu hs)
  ·rename_i e x' i' hu hx hi
   obtain⟨s,hs,rfl⟩:=aaO.1 hc
   exact .of (Nw (bt gl tm hx) (bt gl tm hi) (dh (k:=λx=>vidxS x (ev st i') s k) h) hu hs)
  ·cases hc
 case h_16 t x i ho=>
  rw[execOp,ho]
  split at hc
  ·rename_i n e x' i' hu hx hi
   split at hc
   ·rename_i s g hs hg
    cases hc
    exact .of (NA (bt gl tm hx) (bt gl tm hi) h hu hs hg)
   ·cases hc
  ·rename_i x' i' hu hx hi
   cases hc
   exact .of (Ny (bt gl tm hx) (bt gl tm hi) h hu)
  ·cases hc
 case h_17 t x lo hi mx ho=>
  rw[execOp,ho]
  split at hc
  ·rename_i n e x' kL bp nf hu hx hl hh hm
   obtain⟨s,hs,hc⟩:=ab7.1 hc
   split at hc
   ·cases hc
   ·rename_i qJ
    cases hc
    exact .of (NJ gl tm (bt gl tm hx) hl hh hm (adw.2 qJ) h hu hs)
  ·rename_i e x' kL bp nf hu hx hl hh hm
   obtain⟨s,hs,hc⟩:=ab7.1 hc
   split at hc
   ·cases hc
   ·rename_i qJ
    cases hc
    exact .of (NI gl tm (bt gl tm hx) hl hh hm (adw.2 qJ) (dh (k:=λx=>vslcS x (kL.map (ev st)) (bp.map (ev st)) (nf.map (ev st)) s k) h) hu hs)
  ·rename_i x' kL bp hu hx hl hh hm
   cases hc
   have:mx=none:=by
    cases mx with
    |none=>rfl
    |some m=>simp only[cOpdO]at hm;obtain⟨y,_,hy⟩:=aaO.1 hm;cases hy
   subst this
   exact .of (NK gl tm (bt gl tm hx) hl hh h hu)
  ·cases hc
 case h_18 s d x ho=>
  rw[execOp,ho]
  split at hc
  ·rename_i kj kk x' hs hd hx
   cases hc
   exact .of (N8 (bt gl tm hx) h hs hd)
  ·rename_i x' hs hd hx
   cases hc
   have hv:=bt gl tm hx
   refine .of ?_
   have h:AT (ev st x') k:=h
   generalize ev st x'=y at h hv
   unfold AT at h
   split at h
   ·rw[pz hv]
    exact .mk h (.p (.str _)) λw' _=>by simp[convert,run_underlying hs,run_underlying hd]
   ·exact h.elim
  ·rename_i e x' hs hd hx
   split at hc
   ·rename_i he
    cases hc
    exact .of (NM hr (bt gl tm hx) (dh (k:=λx=>vslices st.heap x 1 λrows=>∃l:List UInt8,rows=l.map fY∧k (.p (.str l))) h) hs he hd)
   ·cases hc
  ·split at hc
   ·cases hc;exact h.elim
   ·cases hc
  ·cases hc
 case h_19 t x ho=>
  rw[execOp,ho]
  split at hc
  ·cases hc
  ·rename_i u x' x8 hu hx
   cases hc
   have hv:=bt gl tm hx
   have h:vmkif t (ev st x') k:=dh (k:=λx=>vmkif t x k) h
   have aT:∀w',(Instr.makeInterface t (a.eval x)).run P w'=.ok (.iface t (a.eval x)) w':=λw'=>by
    simp only[Instr.makeInterface,Sem.run_bind,run_underlying hu,Result.andThen_ok]
    cases u<;>first|rfl|exact absurd rfl (x8 _)
   refine .of ?_
   unfold vmkif at h
   split at h
   ·rename_i z heq
    rw[heq]at hv
    exact .mk h (.p (.bK (gW hv))) λw' _=>aT w'
   ·exact .mk h (.bK hv) λw' _=>aT w'
  ·cases hc
 case h_20 f first cap ho=>
  rw[execOp,ho]
  split at hc
  ·rename_i fl cl h1 h2
   cases hc
   exact .of (N7 gl tm h1 h2 h)
  ·cases hc
 case h_21=>
  split at hc
  ·split at hc
   ·split at hc
    ·cases hc;exact h.elim
    ·cases hc
   ·cases hc
  ·cases hc
 case h_22 x i ho=>
  obtain⟨x',hx,rfl⟩:=aaO.1 hc
  rw[execOp,ho]
  exact .of (N6 (bt gl tm hx) h)
 case h_23 c ho=>
  split at hc
  ·obtain⟨l,_,rfl⟩:=aaO.1 hc;exact h.elim
  ·split at hc
   ·cases hc;exact h.elim
   ·cases hc
  ·rename_i eY
   split at hc
   ·rename_i x t cS kN
    have e1:c.args= #[x]:=by apply abt;simpa using cS
    have e2:c.argTypes= #[t]:=by apply abt;simpa using kN
    rw[execOp,ho]
    simp only[resolve,eY,e1,e2,invoke,builtin]
    split at hc
    ·rename_i x' hu hx
     cases hc
     obtain⟨av,v,h1,h2,h3⟩:=NF (ty:=o.type) (bt gl tm hx) h hu
     exact⟨av,v,h1,h2,λw' bP=>by
      have h4:=h3 w' bP
      simp at h4 ⊢
      rw[h4]
      rfl⟩
    ·rename_i e x' hu hx
     cases hc
     obtain⟨av,v,h1,h2,h3⟩:=NG (ty:=o.type) (bt gl tm hx) h hu
     exact⟨av,v,h1,h2,λw' bP=>by
      have h4:=h3 w' bP
      simp at h4 ⊢
      rw[h4]
      rfl⟩
    ·rename_i kt et x' hu hx
     cases hc
     obtain⟨av,v,h1,h2,h3⟩:=N2 (ty:=o.type) hr (bt gl tm hx) hu h
     exact⟨av,v,h1,h2,λw' bP=>by
      have h4:=h3 w' bP
      simp at h4 ⊢
      rw[h4]
      rfl⟩
    ·cases hc
   ·cases hc
  ·split at hc
   ·split at hc
    ·split at hc
     ·split at hc
      ·cases hc;exact h.elim
      ·cases hc
     ·cases hc
    ·split at hc
     ·split at hc
      ·cases hc;exact h.elim
      ·cases hc
     ·cases hc
    ·cases hc
   ·cases hc
  ·split at hc
   ·split at hc
    ·obtain⟨n,_,rfl⟩:=aaO.1 hc;exact h.elim
    ·cases hc
   ·cases hc
  ·rename_i eY
   split at hc
   ·rename_i x y cS
    have e1:c.args= #[x,y]:=by apply abt;simpa using cS
    rw[execOp,ho]
    simp only[resolve,eY,e1,invoke,builtin]
    split at hc
    ·rename_i x' y' hx hy
     cases hc
     obtain⟨av,v,h1,h2,h3⟩:=Gy (P:=P) (isMax:=true) (ts:=c.argTypes) (ty:=o.type) (bt gl tm hx) (bt gl tm hy) h
     exact⟨av,v,h1,h2,λw' bP=>by
      have h4:=h3 w' bP
      simp at h4 ⊢
      rw[h4]
      rfl⟩
    ·cases hc
   ·cases hc
  ·rename_i eY
   split at hc
   ·rename_i x y cS
    have e1:c.args= #[x,y]:=by apply abt;simpa using cS
    rw[execOp,ho]
    simp only[resolve,eY,e1,invoke,builtin]
    split at hc
    ·rename_i x' y' hx hy
     cases hc
     obtain⟨av,v,h1,h2,h3⟩:=Gy (P:=P) (isMax:=false) (ts:=c.argTypes) (ty:=o.type) (bt gl tm hx) (bt gl tm hy) h
     exact⟨av,v,h1,h2,λw' bP=>by
      have h4:=h3 w' bP
      simp at h4 ⊢
      rw[h4]
      rfl⟩
    ·cases hc
   ·cases hc
  ·split at hc
   ·split at hc
    ·split at hc
     ·split at hc
      ·cases hc;exact h.elim
      ·cases hc
     ·cases hc
    ·cases hc
   ·cases hc
  ·split at hc
   ·cases hc;exact h.elim
   ·cases hc
  ·cases hc
 case h_24=>
  split at hc
  ·obtain⟨q,_,rfl⟩:=aaO.1 hc
   exact h.elim
  ·cases hc
 case h_25 t m x ok ho=>
  rw[execOp,ho]
  split at hc
  ·rename_i kt et hu
   split at hc
   ·rename_i ag ks z m' x' hk hz hm hx
    cases hc
    exact .of (N0 hr (bt gl tm hm) (bt gl tm hx) hu hk hz (dh (k:=λx=>AW st.heap ag ks z ok (ev st m') x k) h))
   ·cases hc
  ·cases hc
 case h_26=>
  split at hc
  ·split at hc
   ·cases hc;exact h.elim
   ·cases hc
  ·cases hc
 case h_27=>
  split at hc
  ·split at hc
   ·cases hc;exact h.elim
   ·cases hc
  ·cases hc
 case h_28=>
  split at hc
  ·split at hc
   ·cases hc;exact h.elim
   ·cases hc
  ·cases hc
 case h_29=>
  split at hc
  ·cases hc;exact h.elim
  ·cases hc
 case h_30=>
  split at hc
  ·cases hc;exact h.elim
  ·cases hc
 case h_31=>
  obtain⟨q,_,rfl⟩:=aaO.1 hc
  exact h.elim
 case h_32 x ho=>
  obtain⟨x',hx,rfl⟩:=aaO.1 hc
  rw[execOp,ho]
  exact .of (N_ hr (bt gl tm hx) (dh (k:=λx=>vmentry st.heap x k) h))
 case h_33 x xt t ok ho=>
  rw[execOp,ho]
  split at hc
  ·cases hc
  ·rename_i d z x' Bz hu hz hx
   cases hc
   exact .of (Oa (bt gl tm hx) hu Bz hz h)
  ·cases hc
 case h_34=>cases hc
end
def az.cE(ι:az)(b:Nat)(p:Option (Nat×Nat×Nat)):az:={ι with m:=λn=>if n=.v b then p else if n.base=b then none else ι n}
theorem az.oo(ι:az)(b:Nat)(p:Option (Nat×Nat×Nat)):ι.cE b p b=p:=by simp[az.cE]
theorem az.BA(ι:az)(b i:Nat)(p:Option (Nat×Nat×Nat)):ι.cE b p (.h b i)=none:=by simp[az.cE,Bn.base]
theorem az.gL(ι:az){b:Nat}{n:Bn}(p:Option (Nat×Nat×Nat))(h:n.base≠b):ι.cE b p n=ι n:=by
 simp only[az.cE]
 rw[aaF (λe=>h (by rw[e];rfl)),aaF h]
theorem az.mg{ι:az}{b:Nat}{p:Option (Nat×Nat×Nat)}{n:Bn}{q:Nat×Nat×Nat}(h:ι.cE b p n=some q):(n=.v b∧p=some q)∨(n.base≠b∧ι n=some q):=by
 simp only[az.cE]at h
 split at h
 ·rename_i e;exact .inl ⟨e,h⟩
 ·split at h
  ·cases h
  ·rename_i e;exact .inr ⟨e,h⟩
def Blk.Ob:Blk→Bool
 |.mx _=>true
 |.pr _ _=>true
 |_=>false
def fE(w:World)(ι:az)(cs:Array Value)(o:Nat):Blk→Prop
 |.dead=>False
 |.mp _ _ _=>False
 |.gh _ _=>False
 |.pn _ _ _ _=>False
 |.bF _ _ _ _ _=>False
 |.mi _ _ _=>False
 |.ax n arr cells=>arr.length=n∧o+(arr.map AV.p++cells).length≤cs.size∧∀(j:Nat) x,(arr.map AV.p++cells)[j]? =some x→∃v,cs[o+j]? =some v∧dP v=true∧RA w ι x v
 |.mx cells=>o+cells.length≤cs.size∧∀(j:Nat) x,cells[j]? =some x→∃v,cs[o+j]? =some v∧dP v=true∧RA w ι x v
 |.pr wd rows=>o+rows.length*wd≤cs.size∧(∀(i:Nat) row,rows[i]? =some row→row.length=wd)∧
  ∀(i:Nat) row (j:Nat) x,rows[i]? =some row→row[j]? =some x→x.one=true∧∃v,cs[o+(i*wd+j)]? =some v∧RP w ι.M x v
theorem fE.bare{w:World}{ι:az}{cs:Array Value}{o:Nat}{x:Blk}(h:fE w ι cs o x):x.bare=true:=by cases x<;>first|rfl|exact h.elim
theorem fE.later{w w':World}{ι aC:az}(hL:bc ι.M w w' aC.M)(bh:∀b p,ι b=some p→aC b=some p){cs:Array Value}{o:Nat}{x:Blk}(h:fE w ι cs o x):
 fE w' aC cs o x:=by
 cases x with
 |dead=>exact h
 |mp _ _ _=>exact h
 |gh _ _=>exact h
 |pn _ _ _ _=>exact h
 |bF _ _ _ _ _=>exact h
 |mi _ _ _=>exact h
 |ax n arr cells=>
  obtain⟨h0,h1,h2⟩:=h
  refine⟨h0,h1,λj x hx=>?_⟩
  obtain⟨v,hv,ho,hr⟩:=h2 j x hx
  exact⟨v,hv,ho,hr.later hL bh⟩
 |mx cells=>
  obtain⟨h1,h2⟩:=h
  refine⟨h1,λj x hx=>?_⟩
  obtain⟨v,hv,ho,hr⟩:=h2 j x hx
  exact⟨v,hv,ho,hr.later hL bh⟩
 |pr wd rows=>
  obtain⟨h1,h2,h3⟩:=h
  refine⟨h1,h2,λi row j x hi hx=>?_⟩
  obtain⟨ho,v,hv,hr⟩:=h3 i row j x hi hx
  exact⟨ho,v,hv,hr.later hL⟩
theorem fE.kK{w w':World}{ι aC:az}(hL:bc ι.M w w' aC.M){cs:Array Value}{o wd:Nat}{rows:List (List PV)}(h:fE w ι cs o (.pr wd rows)):
 fE w' aC cs o (.pr wd rows):=by
 obtain⟨h1,h2,h3⟩:=h
 refine⟨h1,h2,λi row j x hi hx=>?_⟩
 obtain⟨ho,v,hv,hr⟩:=h3 i row j x hi hx
 exact⟨ho,v,hv,hr.later hL⟩
theorem fE.rb{w:World}{ι:az}{c o:Nat}{cs:Array Value}{ty:TypeId}{fz:Nat×Nat}{x:Blk}(h:fE w ι cs o x)(hc:w.heap[c]? =some (.cells cs ty fz))(ht:kJ cs.size fz):
 RB w ι (some (c,o,cs.size)) x:=by
 cases x with
 |dead=>exact h.elim
 |mp _ _ _=>exact h.elim
 |gh _ _=>exact h.elim
 |pn _ _ _ _=>exact h.elim
 |bF _ _ _ _ _=>exact h.elim
 |mi _ _ _=>exact h.elim
 |ax n arr cells=>exact⟨h.1,c,o,_,cs,ty,fz,rfl,hc,ht,rfl,h.2.1,h.2.2⟩
 |mx cells=>exact⟨c,o,_,cs,ty,fz,rfl,hc,ht,rfl,h.1,h.2⟩
 |pr wd rows=>exact .inr ⟨c,o,_,cs,ty,fz,rfl,hc,ht,rfl,h.1,h.2.1,h.2.2⟩
theorem RB.at{w:World}{ι:az}{c o s:Nat}{x:Blk}(h:RB w ι (some (c,o,s)) x)(hx:x.Ob=true:=by rfl):∃cs ty fz,w.heap[c]? =some (.cells cs ty fz)∧kJ cs.size fz∧cs.size=s∧fE w ι cs o x:=by
 cases x with
 |dead=>cases h
 |mp _ _ _=>cases hx
 |gh _ _=>cases hx
 |pn _ _ _ _=>cases hx
 |bF _ _ _ _ _=>cases hx
 |mi _ _ _=>cases hx
 |ax _ _ _=>cases hx
 |mx cells=>
  obtain⟨c',o',s',cs,ty,fz,he,h1,hf,h2,h3,h4⟩:=h
  cases he
  exact⟨cs,ty,fz,h1,hf,h2,by rw[h2];exact h3,h4⟩
 |pr wd rows=>
  rcases h with⟨h0,_⟩|⟨c',o',s',cs,ty,fz,he,h1,hf,h2,h3,h4,h5⟩
  ·cases h0
  ·cases he
   exact⟨cs,ty,fz,h1,hf,h2,by rw[h2];exact h3,h4,h5⟩
def dC(w:World)(o:Obj):World:={w with heap:=w.heap.push o}
def bB(w:World)(c:Nat)(o:Obj):World:={w with heap:=w.heap.setIfInBounds c o}
theorem j7(w:World)(o:Obj)(c:Nat)(x:Obj)(h:w.heap[c]? =some x):(dC w o).heap[c]? =some x:=by
 have aq:=(aaW.1 h).1
 simp only[dC]
 rw[acs aq]
 rw[abh aq]at h
 exact h
theorem nn(w:World)(o:Obj):(dC w o).heap[w.heap.size]? =some o:=by
 show(w.heap.push o)[w.heap.size]? =some o
 simp
theorem iG(w:World)(c:Nat)(o:Obj)(h:c<w.heap.size):(bB w c o).heap[c]? =some o:=by simp[bB,h]
theorem fg(w:World){c d:Nat}(o:Obj)(h:d≠c):(bB w c o).heap[d]? =w.heap[d]?:=by
 simp only[bB];exact ab4 (abk h)
section
variable {cx:Cx} {ι:az} {h:List Blk} {w:World}
theorem vg{b:Bn}{x:Blk}{l:Nat}{r:Option (List (List PV))}(h:x.kill b=.gh l r):x=.gh l r:=by
 cases x with
 |mi m n s=>cases m<;>(simp[Blk.kill]at h)
 |_=>first|exact h|(simp[Blk.kill]at h)
theorem Mem.step(hm:Mem cx ι h w){aC:az}{h':List Blk}{w':World}(hr:bL aC h' w')(db:∀(d:Nat) (x:Obj),¬ι.I d→w.heap[d]? =some x→w'.heap[d]? =some x)
 (eD:∀c,aC.I c→ι.I c∨w.heap.size≤c) (ct:w.heap.size≤w'.heap.size) (dj:w'.os=w.os∧w'.output=w.output)
 (hX:aC.X=ι.X) (hS:aC.S=ι.S) (hD:aC.D=ι.D) (hG:aC.G=ι.G) (gM:∀b:Nat,cx.E.fx b=true→aC b=ι b) (x9:cx.E.k≤h'.length)
 (pH:∀l r,nth .dead h' 0=.gh l r→nth .dead h 0=.gh l r):Mem cx aC h' w':=by
 refine⟨hr,?_,?_,?_,?_,?_,?_,?_,aa2 hm.gr ct,⟨dj.1.trans hm.os.1,dj.2.trans hm.os.2⟩,λb hb=>(gM b hb).trans (hm.fx b hb),x9,?_,?_,?_,by rw[hG,hS];exact hm.su,by rw[hD];exact hm.dz⟩
 ·rw[hX];exact λc hc=>abL (hm.xl c hc) ct
 ·rw[hX,hS];exact hm.xs
 ·rw[hX];exact hm.xe
 ·rw[hS];exact hm.se
 ·rw[hG];exact hm.ge
 ·intro c hc
  rcases eD c hc with h1|h1
  ·exact hm.ow c h1
  ·exact .inr (aa2 hm.gr h1)
 ·intro c h1 h2 h3
  have BB:¬ι.I c:=λhI=>by
   rcases hm.ow c hI with h4|h4
   ·exact h1 h4
   ·omega
  have h5:=hm.fr c h1 h2 h3
  have h6:cx.w0.heap[c]? =some cx.w0.heap[c]:=abh h3
  rw[h6]at h5 ⊢
  exact db c _ BB h5
 ·rw[hD,hX,hS]
  intro d hd
  obtain⟨h1,h2,h3,h4⟩:=hm.dm d hd
  exact⟨h1,h2,h3,db d _ (λ⟨b,o,s,hb⟩=>hm.hr.cC _ _ _ _ hb h1) h4⟩
 ·rw[hD];exact hm.dn
 ·intro l r hl
  obtain⟨h1,h2⟩:=hm.jt l r (pH l r hl)
  refine⟨h1,?_⟩
  rw[hS]
  exact cx.js _ _ _ _ _ _ h2 db eD (λc hc=>hr.lt hc) ct dj
theorem Mem.mh(hm:Mem cx ι h w){b:Nat}(hb:b<h.length)(gM:cx.E.fx b=false){w':World}{p:Option (Nat×Nat×Nat)}{blk:Blk}{c:Nat}
 (hc:(∃o s,ι b=some (c,o,s))∨w.heap.size≤c) (hp:∀c' o s,p=some (c',o,s)→c'=c)
 (db:∀(d:Nat) (x:Obj),d≠c→w.heap[d]? =some x→w'.heap[d]? =some x) (ct:w.heap.size≤w'.heap.size)
 (dj:w'.os=w.os∧w'.output=w.output) (bq:bc ι.M w w' (ι.cE b p).M→RB w' (ι.cE b p) p blk) (gj:∀l r,blk≠.gh l r:=by intro _ _ h;cases h) (jc:blk.bare=true:=by rfl):
 Mem cx (ι.cE b p) (setNth (killH b h) b blk) w'∧bc ι.M w w' (ι.cE b p).M:=by
 have j8:ι.I c∨w.heap.size≤c:=hc.imp (λ⟨o,s,h⟩=>⟨b,o,s,h⟩) id
 have vh:∀d,(ι.cE b p).I d→d=c∨∃(b':Bn) (o s:Nat),b'.base≠b∧ι b'=some (d,o,s):=by
  rintro d ⟨b',o,s,a7⟩
  rcases az.mg a7 with⟨_,h1⟩|⟨e,h1⟩
  ·exact .inl (hp _ _ _ h1)
  ·exact .inr ⟨b',o,s,e,h1⟩
 have hL:bc ι.M w w' (ι.cE b p).M:=by
  refine⟨λd x hd hx=>db d x (λe=>?_) hx,λd hd=>?_,ct⟩
  ·subst e
   rcases j8 with h1|h1
   ·exact hd (.inl h1)
   ·have:=(aaW.1 hx).1;omega
  ·rcases hd with hd|hd
   ·rcases vh d hd with rfl|⟨b',o,s,_,h1⟩
    ·exact j8.imp .inl id
    ·exact .inl (.inl ⟨b',o,s,h1⟩)
   ·exact .inl (.inr hd)
 have bh:∀b',(Bn.v b).hit b'=false→∀q,ι b'=some q→(ι.cE b p) b'=some q:=λb' e q hq=>by rw[az.gL _ _ (Bn.n9 e)];exact hq
 have jw:∀(b':Bn) d o s,b'.base≠b→ι b'=some (d,o,s)→d≠c:=by
  intro b' d o s e h1 e2
  subst e2
  rcases hc with⟨o2,s2,h2⟩|h2
  ·exact e (by rw[hm.hr.inj _ _ _ _ _ _ _ h1 h2];rfl)
  ·have:=hm.hr.lt ⟨b',o,s,h1⟩;omega
 have dK:∀(b':Bn) d o s,b'.base≠b→ι b'=some (d,o,s)→w'.heap[d]? =w.heap[d]?:=λb' d o s e hd=>by
  have bg:=jw b' d o s e hd
  obtain⟨ob,h1,_⟩:=hm.hr.size hd
  rw[h1,db _ _ bg h1]
 refine⟨hm.step ⟨hm.hr.gl.later hL,λb'=>?_,λb1 b2 d o1 s1 o2 s2 h1 h2=>?_,λb1 d o1 s1 h1=>?_,λb' i=>?_⟩ (λd x hd hx=>db d x (λe=>?_) hx) (λd hd=>?_) ct dj rfl rfl rfl rfl
  (λb' a7=>?_) (by rw[eA,abd,fc];exact hm.kl) (λl r hl=>?_),hL⟩
 ·rw[da _ _ _ _ _ (by rw[fc];exact hb)]
  by_cases e:b'=b
  ·rw[aaG e];subst e;rw[az.oo];exact bq hL
  ·rw[aaF e,az.gL _ _ (n:=.v b') e,jZ]
   exact(hm.hr.blk b').kill hL (λh=>h) bh λd o s hd=>dK (.v b') d o s e hd
 ·rcases az.mg h1 with⟨e1,g1⟩|⟨e1,g1⟩<;>rcases az.mg h2 with⟨e2,g2⟩|⟨e2,g2⟩
  ·rw[e1,e2]
  ·have:=hp _ _ _ g1;subst this
   exact absurd rfl (jw _ _ _ _ e2 g2)
  ·have:=hp _ _ _ g2;subst this
   exact absurd rfl (jw _ _ _ _ e1 g1)
  ·exact hm.hr.inj _ _ _ _ _ _ _ g1 g2
 ·rcases az.mg h1 with⟨e1,g1⟩|⟨e1,g1⟩
  ·have:=hp _ _ _ g1
   subst this
   rcases hc with⟨o2,s2,h2⟩|h2
   ·exact hm.hr.cC _ _ _ _ h2
   ·intro hX;have:=hm.xl _ hX;omega
  ·exact hm.hr.cC _ _ _ _ g1
 ·rw[da _ _ _ _ _ (by rw[fc];exact hb)]
  by_cases e:b'=b
  ·rw[aaG e];subst e;exact HB.bare jc (az.BA _ _ _ _)
  ·rw[aaF e,az.gL _ _ (n:=.v b') e,az.gL _ _ (n:=.h b' i) e,jZ]
   exact((hm.hr.hid b' i).later hL (λd o s hd=>dK (.v b') d o s e hd) (λd o s hd=>dK (.h b' i) d o s e hd)).kill _
 ·subst e
  rcases j8 with h1|h1
  ·exact hd h1
  ·have:=(aaW.1 hx).1;omega
 ·rcases vh d hd with rfl|⟨b',o,s,_,h1⟩
  ·exact j8
  ·exact .inl ⟨b',o,s,h1⟩
 ·rw[az.gL]
  intro e;have e:b'=b:=e;subst e;rw[gM]at a7;cases a7
 ·rw[da _ _ _ _ _ (by rw[fc];exact hb)]at hl
  split at hl
  ·exact absurd hl (gj l r)
  ·rw[jZ]at hl;exact vg hl
theorem Mem.BC(hm:Mem cx ι h w){b c o s:Nat}(hb:ι b=some (c,o,s)){w':World}{blk:Blk}
 (db:∀(d:Nat) (x:Obj),d≠c→w.heap[d]? =some x→w'.heap[d]? =some x) (ct:w.heap.size≤w'.heap.size)
 (dj:w'.os=w.os∧w'.output=w.output) (bq:bc ι.M w w' ι.M→RB w' ι (some (c,o,s)) blk) (Oc:bc ι.M w w' ι.M→(∀i c' o s,ι (.h b i)=some (c',o,s)→w'.heap[c']? =w.heap[c']?)→∀i,HB w' ι (some (c,o,s)) (ι (.h b i)) i blk) (gj:∀l r,blk≠.gh l r:=by intro _ _ h;cases h):
 Mem cx ι (setNth h b blk) w'∧bc ι.M w w' ι.M:=by
 have hlen:b<h.length:=by
  obtain⟨ob,_,hd⟩:=hm.hr.size hb
  exact hm.hr.fO hd
 have hL:bc ι.M w w' ι.M:=⟨λd x hd hx=>db d x (λe=>hd (e▸.inl ⟨b,o,s,hb⟩)) hx,λd hd=>.inl hd,ct⟩
 have dK:∀(b':Bn) d o' s',b'≠.v b→ι b'=some (d,o',s')→w'.heap[d]? =w.heap[d]?:=λb' d o' s' e hd=>by
  have bg:d≠c:=λe2=>by subst e2;exact e (hm.hr.inj _ _ _ _ _ _ _ hd hb)
  obtain⟨ob,h1,_⟩:=hm.hr.size hd
  rw[h1,db _ _ bg h1]
 refine⟨hm.step ⟨hm.hr.gl.later hL,λb'=>?_,hm.hr.inj,hm.hr.cC,λb' i=>?_⟩ (λd x hd hx=>db d x (λe=>?_) hx) (λd hd=>.inl hd) ct dj rfl rfl rfl rfl
  (λb' a7=>rfl) (by rw[eA,abd];exact hm.kl) (λl r hl=>?_),hL⟩
 ·rw[da _ _ _ _ _ hlen]
  by_cases e:b'=b
  ·rw[aaG e];subst e;rw[hb];exact bq hL
  ·rw[aaF e]
   exact(hm.hr.blk b').later hL (λh=>h) (λ_ _ h=>h) λd o' s' hd=>dK (.v b') d o' s' (Bn.qD e) hd
 ·rw[da _ _ _ _ _ hlen]
  by_cases e:b'=b
  ·rw[aaG e];subst e;rw[hb];exact Oc hL (λi c' o' s' hd=>dK _ _ _ _ (λe=>by cases e) hd) i
  ·rw[aaF e]
   exact(hm.hr.hid b' i).later hL (λd o' s' hd=>dK (.v b') d o' s' (Bn.qD e) hd) (λd o' s' hd=>dK (.h b' i) d o' s' (λe=>by cases e) hd)
 ·subst e;exact hd ⟨b,o,s,hb⟩
 ·rw[da _ _ _ _ _ hlen]at hl
  split at hl
  ·exact absurd hl (gj l r)
  ·exact hl
theorem Mem.write(hm:Mem cx ι h w){b c o s:Nat}(hb:ι b=some (c,o,s)){w':World}{blk:Blk}
 (db:∀(d:Nat) (x:Obj),d≠c→w.heap[d]? =some x→w'.heap[d]? =some x) (ct:w.heap.size≤w'.heap.size)
 (dj:w'.os=w.os∧w'.output=w.output) (bq:bc ι.M w w' ι.M→RB w' ι (some (c,o,s)) blk) (lG:(nth .dead h b).bare=true) (gj:∀l r,blk≠.gh l r:=by intro _ _ h;cases h) (jc:blk.bare=true:=by rfl):
 Mem cx ι (setNth h b blk) w'∧bc ι.M w w' ι.M:=hm.BC hb db ct dj bq (λ_ _ i=>HB.bare jc ((hm.hr.hid b i).none lG)) gj
theorem Mem.lay(hm:Mem cx ι h w){w':World}{c o s:Nat}{blk:Blk}(hc:w.heap.size≤c)
 (hold:∀(d:Nat) (x:Obj),w.heap[d]? =some x→w'.heap[d]? =some x)
 (dj:w'.os=w.os∧w'.output=w.output)
 (bq:bc ι.M w w' (ι.cE h.length (some (c,o,s))).M→(∀b p,ι b=some p→(ι.cE h.length (some (c,o,s))) b=some p)→RB w' (ι.cE h.length (some (c,o,s))) (some (c,o,s)) blk) (gj:∀l r,blk≠.gh l r:=by intro _ _ h;cases h) (jc:blk.bare=true:=by rfl):
 Mem cx (ι.cE h.length (some (c,o,s))) (h++[blk]) w'∧bc ι.M w w' (ι.cE h.length (some (c,o,s))).M∧
  ∀b p,ι b=some p→(ι.cE h.length (some (c,o,s))) b=some p:=by
 have aq:∀(b':Bn) q,ι b'=some q→b'.base≠h.length:=λb' q hq e=>by
  obtain⟨c',o',s'⟩:=q
  obtain⟨ob,_,hd⟩:=hm.hr.size hq
  rw[e]at hd
  exact absurd (hm.hr.fO hd) (ab9 _)
 have bh:∀b p,ι b=some p→(ι.cE h.length (some (c,o,s))) b=some p:=λb p hb=>by
  rw[az.gL _ _ (aq _ _ hb)]
  exact hb
 have ct:w.heap.size≤w'.heap.size:=Ext.size hold
 have vh:∀d,(ι.cE h.length (some (c,o,s))).I d→d=c∨ι.I d:=by
  rintro d ⟨b',o',s',a7⟩
  rcases az.mg a7 with⟨_,h1⟩|⟨_,h1⟩
  ·cases h1;exact .inl rfl
  ·exact .inr ⟨b',o',s',h1⟩
 have hL:bc ι.M w w' (ι.cE h.length (some (c,o,s))).M:=
  ⟨λd x _ hx=>hold d x hx,λd hd=>hd.elim (λhd=>(vh d hd).elim (λe=>.inr (e▸hc)) λh=>.inl (.inl h)) λh=>.inl (.inr h),ct⟩
 have dK:∀(b':Bn) d o' s',ι b'=some (d,o',s')→w'.heap[d]? =w.heap[d]?:=λb' d o' s' hd=>by
  obtain⟨ob,h1,_⟩:=hm.hr.size hd
  rw[h1,hold _ _ h1]
 refine⟨hm.step ⟨hm.hr.gl.later hL,λb'=>?_,λb1 b2 d o1 s1 o2 s2 h1 h2=>?_,λb1 d o1 s1 h1=>?_,λb' i=>?_⟩ (λd x _ hx=>hold d x hx) (λd hd=>?_) ct dj rfl rfl rfl rfl
  (λb' a7=>?_) (by rw[aaV];exact aa2 hm.kl (adx _ _)) (λl r hl=>?_),hL,bh⟩
 ·rw[pq]
  by_cases e:b'=h.length
  ·rw[aaG e];subst e;rw[az.oo];exact bq hL bh
  ·rw[aaF e,az.gL _ _ (n:=.v b') e]
   exact(hm.hr.blk b').later hL (λh=>h) bh λd o' s' hd=>dK _ _ _ _ hd
 ·have aq:∀b' d o' s',ι b'=some (d,o',s')→d≠c:=λb' d o' s' h3 e=>by
   have:=hm.hr.lt ⟨b',o',s',h3⟩;omega
  rcases az.mg h1 with⟨e1,g1⟩|⟨e1,g1⟩<;>rcases az.mg h2 with⟨e2,g2⟩|⟨e2,g2⟩
  ·rw[e1,e2]
  ·cases g1;exact absurd rfl (aq _ _ _ _ g2)
  ·cases g2;exact absurd rfl (aq _ _ _ _ g1)
  ·exact hm.hr.inj _ _ _ _ _ _ _ g1 g2
 ·rcases az.mg h1 with⟨e1,g1⟩|⟨e1,g1⟩
  ·cases g1
   intro hX;have:=hm.xl _ hX;omega
  ·exact hm.hr.cC _ _ _ _ g1
 ·rw[pq]
  by_cases e:b'=h.length
  ·rw[aaG e];subst e;exact HB.bare jc (az.BA _ _ _ _)
  ·rw[aaF e,az.gL _ _ (n:=.v b') e,az.gL _ _ (n:=.h b' i) e]
   exact(hm.hr.hid b' i).later hL (λd o' s' hd=>dK _ _ _ _ hd) (λd o' s' hd=>dK _ _ _ _ hd)
 ·rcases vh d hd with rfl|h1
  ·exact .inr hc
  ·exact .inl h1
 ·rw[az.gL]
  intro e;have e:b'=h.length:=e;subst e;have:=cx.fk _ a7;have:=hm.kl;omega
 ·rw[pq]at hl
  split at hl
  ·exact absurd hl (gj l r)
  ·exact hl
theorem GC(hr:bL ι h w){x:Blk}(hx:x.bare=true)(b i:Nat):HB w ι (ι (.v b)) (ι (.h b i)) i (nth .dead (h++[x]) b):=by
 rw[pq]
 split
 ·rename_i e
  have:=hr.hid b i
  rw[l_ _ _ _ (by omega)]at this
  exact HB.bare hx this
 ·exact hr.hid b i
def az.gw(ι:az)(b i:Nat)(p:Option (Nat×Nat×Nat)):az:={ι with m:=λn=>if n=.h b i then p else ι n}
theorem az.vi(ι:az)(b i:Nat)(p:Option (Nat×Nat×Nat)):ι.gw b i p (.h b i)=p:=by simp[az.gw]
theorem az.oq(ι:az){b i:Nat}{n:Bn}(p:Option (Nat×Nat×Nat))(h:n≠.h b i):ι.gw b i p n=ι n:=by simp[az.gw,h]
theorem az.x_(ι:az){b i n:Nat}(p:Option (Nat×Nat×Nat)):ι.gw b i p (.v n)=ι (.v n):=ι.oq p (λe=>by cases e)
theorem az.pI{ι:az}{b i:Nat}{p:Option (Nat×Nat×Nat)}{n:Bn}{q:Nat×Nat×Nat}(h:ι.gw b i p n=some q):(n=.h b i∧p=some q)∨(n≠.h b i∧ι n=some q):=by
 by_cases e:n=.h b i
 ·subst e;rw[az.vi]at h;exact .inl ⟨rfl,h⟩
 ·rw[az.oq _ _ e]at h;exact .inr ⟨e,h⟩
theorem Bn.ya{b i:Nat}{x:Bn}(h:(Bn.h b i).hit x=false):x≠.h b i:=λe=>by subst e;simp[Bn.hit,Bn.hitH]at h
structure Alike(x y:Blk)(i wd:Nat)(rows:List (List PV))(t:Bool):Prop where
 b8:∀j,y.inner j=if j=i then some (wd,rows,t)else x.inner j
 rb:∀(w:World) (ι:az) p,RB w ι p x→RB w ι p y
 pv:∀(w:World) p j v,lB w p x j v→lB w p y j v
 gh:∀l r,y≠.gh l r
theorem Mem.inner(hm:Mem cx ι h w){b i wd:Nat}(hb:b<h.length){rows':List (List PV)}{blk:Blk}(ha:Alike (nth .dead h b) blk i wd rows' false){w':World}{q:Option (Nat×Nat×Nat)}{c:Nat}
 (hc:(∃o s,ι (.h b i)=some (c,o,s))∨w.heap.size≤c) (hp:∀c' o s,q=some (c',o,s)→c'=c)
 (db:∀(d:Nat) (x:Obj),d≠c→w.heap[d]? =some x→w'.heap[d]? =some x) (ct:w.heap.size≤w'.heap.size)
 (dj:w'.os=w.os∧w'.output=w.output) (bq:bc ι.M w w' (ι.gw b i q).M→RB w' (ι.gw b i q) q (.pr wd rows')):
 Mem cx (ι.gw b i q) (setNth (killH (.h b i) h) b blk) w'∧bc ι.M w w' (ι.gw b i q).M:=by
 have j8:ι.I c∨w.heap.size≤c:=hc.imp (λ⟨o,s,h⟩=>⟨_,o,s,h⟩) id
 have hI:∀d,(ι.gw b i q).I d→d=c∨∃(b':Bn) (o s:Nat),b'≠.h b i∧ι b'=some (d,o,s):=by
  rintro d ⟨b',o,s,a7⟩
  rcases az.pI a7 with⟨_,h1⟩|⟨e,h1⟩
  ·exact .inl (hp _ _ _ h1)
  ·exact .inr ⟨b',o,s,e,h1⟩
 have hL:bc ι.M w w' (ι.gw b i q).M:=by
  refine⟨λd x hd hx=>db d x (λe=>?_) hx,λd hd=>?_,ct⟩
  ·subst e
   rcases j8 with h1|h1
   ·exact hd (.inl h1)
   ·have:=(aaW.1 hx).1;omega
  ·rcases hd with hd|hd
   ·rcases hI d hd with rfl|⟨b',o,s,_,h1⟩
    ·exact j8.imp .inl id
    ·exact .inl (.inl ⟨b',o,s,h1⟩)
   ·exact .inl (.inr hd)
 have bh:∀b',(Bn.h b i).hit b'=false→∀p,ι b'=some p→(ι.gw b i q) b'=some p:=λb' e p hq=>by rw[az.oq _ _ (Bn.ya e)];exact hq
 have jw:∀(b':Bn) d o s,b'≠.h b i→ι b'=some (d,o,s)→d≠c:=by
  intro b' d o s e h1 e2
  subst e2
  rcases hc with⟨o2,s2,h2⟩|h2
  ·exact e (hm.hr.inj _ _ _ _ _ _ _ h1 h2)
  ·have:=hm.hr.lt ⟨b',o,s,h1⟩;omega
 have dK:∀(b':Bn) d o s,b'≠.h b i→ι b'=some (d,o,s)→w'.heap[d]? =w.heap[d]?:=λb' d o s e hd=>by
  have bg:=jw b' d o s e hd
  obtain⟨ob,h1,_⟩:=hm.hr.size hd
  rw[h1,db _ _ bg h1]
 have hv:∀n:Nat,(Bn.v n)≠.h b i:=λn e=>by cases e
 refine⟨hm.step ⟨hm.hr.gl.later hL,λb'=>?_,λb1 b2 d o1 s1 o2 s2 h1 h2=>?_,λb1 d o1 s1 h1=>?_,λb' j=>?_⟩ (λd x hd hx=>db d x (λe=>?_) hx) (λd hd=>?_) ct dj rfl rfl rfl rfl
  (λb' a7=>az.x_ _ _) (by rw[eA,abd,fc];exact hm.kl) (λl r hl=>?_),hL⟩
 ·rw[da _ _ _ _ _ (by rw[fc];exact hb),az.x_]
  have h0:=(hm.hr.blk b').kill (b:=.h b i) hL (λh=>h) bh λd o s hd=>dK (.v b') d o s (hv _) hd
  by_cases e:b'=b
  ·subst e;rw[aaG rfl]
   have h1:=(ha.rb w ι _ (hm.hr.blk b')).kill (b:=.h b' i) (aC:=ι.gw b' i q) hL (λh=>h) bh λd o s hd=>dK (.v b') d o s (hv _) hd
   have e3:blk.kill (.h b' i)=blk:=by
    have hi:=ha.b8 i
    rw[aaG rfl]at hi
    cases blk<;>first|rfl|cases hi
   rw[e3]at h1;exact h1
  ·rw[aaF e,jZ];exact h0
 ·rcases az.pI h1 with⟨e1,g1⟩|⟨e1,g1⟩<;>rcases az.pI h2 with⟨e2,g2⟩|⟨e2,g2⟩
  ·rw[e1,e2]
  ·have:=hp _ _ _ g1;subst this
   exact absurd rfl (jw _ _ _ _ e2 g2)
  ·have:=hp _ _ _ g2;subst this
   exact absurd rfl (jw _ _ _ _ e1 g1)
  ·exact hm.hr.inj _ _ _ _ _ _ _ g1 g2
 ·rcases az.pI h1 with⟨e1,g1⟩|⟨e1,g1⟩
  ·have:=hp _ _ _ g1
   subst this
   rcases hc with⟨o2,s2,h2⟩|h2
   ·exact hm.hr.cC _ _ _ _ h2
   ·intro hX;have:=hm.xl _ hX;omega
  ·exact hm.hr.cC _ _ _ _ g1
 ·rw[da _ _ _ _ _ (by rw[fc];exact hb),az.x_]
  by_cases e:b'=b
  ·subst e
   rw[aaG rfl]
   unfold HB
   rw[ha.b8 j]
   by_cases e2:j=i
   ·subst e2;rw[aaG rfl,az.vi];exact⟨bq hL,λh=>by cases h⟩
   ·rw[aaF e2,az.oq _ _ (λe=>e2 (by cases e;rfl))]
    have h0:=(hm.hr.hid b' j).later hL (λd o s hd=>dK (.v b') d o s (hv _) hd) (λd o s hd=>dK (.h b' j) d o s (λe=>e2 (by cases e;rfl)) hd)
    unfold HB at h0
    cases hx:(nth .dead h b').inner j with
    |none=>rw[hx]at h0;exact h0
    |some y=>
     obtain⟨GD,GF,t⟩:=y
     rw[hx]at h0
     exact⟨h0.1,λht=>let ⟨v,v1,v2⟩:=h0.2 ht;⟨v,ha.pv _ _ _ _ v1,v2⟩⟩
  ·rw[aaF e,az.oq _ _ (λe2=>e (by cases e2;rfl)),jZ]
   exact((hm.hr.hid b' j).later hL (λd o s hd=>dK (.v b') d o s (hv _) hd) (λd o s hd=>dK (.h b' j) d o s (λe2=>e (by cases e2;rfl)) hd)).kill _
 ·subst e
  rcases j8 with h1|h1
  ·exact hd h1
  ·have:=(aaW.1 hx).1;omega
 ·rcases hI d hd with rfl|⟨b',o,s,_,h1⟩
  ·exact j8
  ·exact .inl ⟨b',o,s,h1⟩
 ·rw[da _ _ _ _ _ (by rw[fc];exact hb)]at hl
  split at hl
  ·exact absurd hl (ha.gh l r)
  ·rw[jZ]at hl;exact vg hl
theorem Mem.stay(hm:Mem cx ι h w){b i wd c o s:Nat}{rows rows':List (List PV)}{t:Bool}{blk:Blk}(a_:(nth .dead h b).inner i=some (wd,rows,t))(ha:Alike (nth .dead h b) blk i wd rows' t)(hlen:rows'.length=rows.length)
 (hc:ι (.h b i)=some (c,o,s)) {w':World} (db:∀(d:Nat) (x:Obj),d≠c→w.heap[d]? =some x→w'.heap[d]? =some x) (ct:w.heap.size≤w'.heap.size)
 (dj:w'.os=w.os∧w'.output=w.output) (bq:bc ι.M w w' ι.M→RB w' ι (some (c,o,s)) (.pr wd rows')):
 Mem cx ι (setNth h b blk) w'∧bc ι.M w w' ι.M:=by
 have hb:b<h.length:=by
  obtain⟨ob,_,hd⟩:=hm.hr.size hc
  exact hm.hr.fO hd
 have hL:bc ι.M w w' ι.M:=⟨λd x hd hx=>db d x (λe=>hd (e▸.inl ⟨.h b i,o,s,hc⟩)) hx,λd hd=>.inl hd,ct⟩
 have dK:∀(b':Bn) d o' s',b'≠.h b i→ι b'=some (d,o',s')→w'.heap[d]? =w.heap[d]?:=λb' d o' s' e hd=>by
  have bg:d≠c:=λe2=>by subst e2;exact e (hm.hr.inj _ _ _ _ _ _ _ hd hc)
  obtain⟨ob,h1,_⟩:=hm.hr.size hd
  rw[h1,db _ _ bg h1]
 have hv:∀n:Nat,(Bn.v n)≠.h b i:=λn e=>by cases e
 refine⟨hm.step ⟨hm.hr.gl.later hL,λb'=>?_,hm.hr.inj,hm.hr.cC,λb' j=>?_⟩ (λd x hd hx=>db d x (λe=>?_) hx) (λd hd=>.inl hd) ct dj rfl rfl rfl rfl
  (λb' a7=>rfl) (by rw[eA,abd];exact hm.kl) (λl r hl=>?_),hL⟩
 ·rw[da _ _ _ _ _ hb]
  have h0:=(hm.hr.blk b').later hL (λh=>h) (λ_ _ h=>h) λd o' s' hd=>dK (.v b') d o' s' (hv _) hd
  by_cases e:b'=b
  ·subst e;rw[aaG rfl];exact ha.rb _ _ _ h0
  ·rw[aaF e];exact h0
 ·rw[da _ _ _ _ _ hb]
  by_cases e:b'=b
  ·subst e
   rw[aaG rfl]
   have h1:=hm.hr.hid b' j
   by_cases e2:j=i
   ·subst e2
    unfold HB at h1 ⊢
    rw[a_]at h1
    rw[ha.b8 j,aaG rfl,hc]
    refine⟨bq hL,λht=>?_⟩
    obtain⟨v,v1,v2⟩:=h1.2 ht
    rw[hc]at v2
    exact⟨v,ha.pv _ _ _ _ (v1.later λc' o' s' hd=>dK (.v b') c' o' s' (hv _) hd),by rw[hlen];exact v2⟩
   ·have h0:=h1.later hL (λd o s hd=>dK (.v b') d o s (hv _) hd) (λd o s hd=>dK (.h b' j) d o s (λe=>e2 (by cases e;rfl)) hd)
    unfold HB at h0 ⊢
    rw[ha.b8 j,aaF e2]
    cases hx:(nth .dead h b').inner j with
    |none=>rw[hx]at h0;exact h0
    |some y=>
     obtain⟨GD,GF,t2⟩:=y
     rw[hx]at h0
     exact⟨h0.1,λht=>let ⟨v,v1,v2⟩:=h0.2 ht;⟨v,ha.pv _ _ _ _ v1,v2⟩⟩
  ·rw[aaF e]
   exact(hm.hr.hid b' j).later hL (λd o s hd=>dK (.v b') d o s (hv _) hd) (λd o s hd=>dK (.h b' j) d o s (λe2=>e (by cases e2;rfl)) hd)
 ·subst e;exact hd ⟨.h b i,o,s,hc⟩
 ·rw[da _ _ _ _ _ hb]at hl
  split at hl
  ·exact absurd hl (ha.gh l r)
  ·exact hl
def az.j9(ι:az)(b:Nat)(p:Option (Nat×Nat×Nat)):az:={ι with m:=λn=>if n=.v b then p else ι n}
theorem az.yb(ι:az)(b:Nat)(p:Option (Nat×Nat×Nat)):ι.j9 b p (.v b)=p:=by simp[az.j9]
theorem az.qS(ι:az){b:Nat}{n:Bn}(p:Option (Nat×Nat×Nat))(h:n≠.v b):ι.j9 b p n=ι n:=by simp[az.j9,h]
theorem az.Od(ι:az){b n i:Nat}(p:Option (Nat×Nat×Nat)):ι.j9 b p (.h n i)=ι (.h n i):=ι.qS p (λe=>by cases e)
theorem az.yc{ι:az}{b:Nat}{p:Option (Nat×Nat×Nat)}{n:Bn}{q:Nat×Nat×Nat}(h:ι.j9 b p n=some q):(n=.v b∧p=some q)∨(n≠.v b∧ι n=some q):=by
 by_cases e:n=.v b
 ·subst e;rw[az.yb]at h;exact .inl ⟨rfl,h⟩
 ·rw[az.qS _ _ e]at h;exact .inr ⟨e,h⟩
theorem Mem.outer(hm:Mem cx ι h w){b wo wd n:Nat}{cells:List (Bool×List (List PV))}(hn:nth .dead h b=.pn wo wd cells none)(gM:cx.E.fx b=false){w':World}{q:Option (Nat×Nat×Nat)}{c:Nat}
 (hc:(∃o s,ι (.v b)=some (c,o,s))∨w.heap.size≤c) (hp:∀c' o s,q=some (c',o,s)→c'=c)
 (db:∀(d:Nat) (x:Obj),d≠c→w.heap[d]? =some x→w'.heap[d]? =some x) (ct:w.heap.size≤w'.heap.size)
 (dj:w'.os=w.os∧w'.output=w.output) (bq:bc ι.M w w' (ι.j9 b q).M→RB w' (ι.j9 b q) q (.pn wo wd (cells++List.replicate n (true,[])) none))
 (Oe:∀i v,i<cells.length→lB w (ι (.v b)) (.pn wo wd cells none) i v→lB w' q (.pn wo wd (cells++List.replicate n (true,[])) none) i v)
 (eD:∀i,cells.length≤i→i<cells.length+n→∃oa,lB w' q (.pn wo wd (cells++List.replicate n (true,[])) none) i (.slice oa 0 0)):
 Mem cx (ι.j9 b q) (setNth (killH b h) b (.pn wo wd (cells++List.replicate n (true,[])) none)) w'∧bc ι.M w w' (ι.j9 b q).M:=by
 have hb:b<h.length:=hm.hr.fO (by rw[hn];simp)
 have j8:ι.I c∨w.heap.size≤c:=hc.imp (λ⟨o,s,h⟩=>⟨_,o,s,h⟩) id
 have hI:∀d,(ι.j9 b q).I d→d=c∨∃(b':Bn) (o s:Nat),b'≠.v b∧ι b'=some (d,o,s):=by
  rintro d ⟨b',o,s,a7⟩
  rcases az.yc a7 with⟨_,h1⟩|⟨e,h1⟩
  ·exact .inl (hp _ _ _ h1)
  ·exact .inr ⟨b',o,s,e,h1⟩
 have hL:bc ι.M w w' (ι.j9 b q).M:=by
  refine⟨λd x hd hx=>db d x (λe=>?_) hx,λd hd=>?_,ct⟩
  ·subst e
   rcases j8 with h1|h1
   ·exact hd (.inl h1)
   ·have:=(aaW.1 hx).1;omega
  ·rcases hd with hd|hd
   ·rcases hI d hd with rfl|⟨b',o,s,_,h1⟩
    ·exact j8.imp .inl id
    ·exact .inl (.inl ⟨b',o,s,h1⟩)
   ·exact .inl (.inr hd)
 have bh:∀b',(Bn.v b).hit b'=false→∀p,ι b'=some p→(ι.j9 b q) b'=some p:=λb' e p hq=>by
  rw[az.qS _ _ (λe2=>Bn.n9 e (by rw[e2];rfl))];exact hq
 have jw:∀(b':Bn) d o s,b'≠.v b→ι b'=some (d,o,s)→d≠c:=by
  intro b' d o s e h1 e2
  subst e2
  rcases hc with⟨o2,s2,h2⟩|h2
  ·exact e (hm.hr.inj _ _ _ _ _ _ _ h1 h2)
  ·have:=hm.hr.lt ⟨b',o,s,h1⟩;omega
 have dK:∀(b':Bn) d o s,b'≠.v b→ι b'=some (d,o,s)→w'.heap[d]? =w.heap[d]?:=λb' d o s e hd=>by
  have bg:=jw b' d o s e hd
  obtain⟨ob,h1,_⟩:=hm.hr.size hd
  rw[h1,db _ _ bg h1]
 have hh:∀n i:Nat,(Bn.h n i)≠.v b:=λn i e=>by cases e
 refine⟨hm.step ⟨hm.hr.gl.later hL,λb'=>?_,λb1 b2 d o1 s1 o2 s2 h1 h2=>?_,λb1 d o1 s1 h1=>?_,λb' j=>?_⟩ (λd x hd hx=>db d x (λe=>?_) hx) (λd hd=>?_) ct dj rfl rfl rfl rfl
  (λb' a7=>az.qS _ _ (Bn.qD λe=>by subst e;rw[gM]at a7;cases a7)) (by rw[eA,abd,fc];exact hm.kl) (λl r hl=>?_),hL⟩
 ·rw[da _ _ _ _ _ (by rw[fc];exact hb)]
  by_cases e:b'=b
  ·subst e;rw[aaG rfl,az.yb];exact bq hL
  ·rw[aaF e,jZ,az.qS _ _ (Bn.qD e)]
   exact(hm.hr.blk b').kill hL (λh=>h) bh λd o s hd=>dK (.v b') d o s (Bn.qD e) hd
 ·rcases az.yc h1 with⟨e1,g1⟩|⟨e1,g1⟩<;>rcases az.yc h2 with⟨e2,g2⟩|⟨e2,g2⟩
  ·rw[e1,e2]
  ·have:=hp _ _ _ g1;subst this
   exact absurd rfl (jw _ _ _ _ e2 g2)
  ·have:=hp _ _ _ g2;subst this
   exact absurd rfl (jw _ _ _ _ e1 g1)
  ·exact hm.hr.inj _ _ _ _ _ _ _ g1 g2
 ·rcases az.yc h1 with⟨e1,g1⟩|⟨e1,g1⟩
  ·have:=hp _ _ _ g1
   subst this
   rcases hc with⟨o2,s2,h2⟩|h2
   ·exact hm.hr.cC _ _ _ _ h2
   ·intro hX;have:=hm.xl _ hX;omega
  ·exact hm.hr.cC _ _ _ _ g1
 ·rw[da _ _ _ _ _ (by rw[fc];exact hb),az.Od]
  by_cases e:b'=b
  ·subst e
   rw[aaG rfl,az.yb]
   have h0:=hm.hr.hid b' j
   unfold HB at h0 ⊢
   rw[hn]at h0
   simp only[Blk.inner]at h0 ⊢
   by_cases hj:j<cells.length
   ·rw[aa9 hj]
    cases hx:cells[j]? with
    |none=>rw[hx]at h0;exact h0
    |some y=>
     obtain⟨fl,rows⟩:=y
     rw[hx]at h0
     cases fl with
     |false=>exact h0
     |true=>
      exact⟨h0.1.kK hL λd o s hd=>dK _ d o s (hh _ _) hd,λht=>let ⟨v,v1,v2⟩:=h0.2 ht;⟨v,Oe _ _ hj v1,v2⟩⟩
   ·rw[abe (by omega)]
    rw[aaS (by omega)]at h0
    by_cases Og:j<cells.length+n
    ·rw[ab1,aaG (by omega)]
     obtain⟨oa,hv⟩:=eD j (by omega) Og
     have h0:ι (.h b' j)=none:=h0
     exact⟨.inl ⟨h0,rfl⟩,λ_=>⟨_,hv,.inr ⟨rfl,oa,rfl⟩⟩⟩
    ·rw[ab1,aaF (by omega)];exact h0
  ·rw[aaF e,az.qS _ _ (Bn.qD e),jZ]
   exact((hm.hr.hid b' j).later hL (λd o s hd=>dK (.v b') d o s (Bn.qD e) hd) (λd o s hd=>dK (.h b' j) d o s (hh _ _) hd)).kill _
 ·subst e
  rcases j8 with h1|h1
  ·exact hd h1
  ·have:=(aaW.1 hx).1;omega
 ·rcases hI d hd with rfl|⟨b',o,s,_,h1⟩
  ·exact j8
  ·exact .inl ⟨b',o,s,h1⟩
 ·rw[da _ _ _ _ _ (by rw[fc];exact hb)]at hl
  split at hl
  ·cases hl
  ·rw[jZ]at hl;exact vg hl
theorem Mem.GG(hm:Mem cx ι h w){m b i wd i0 len:Nat}{cap:Option Nat}{rows:List (List PV)}(jM:m≠b)(iF:nth .dead h m=.pr wd rows)(vj:cx.E.fx m=false)(hb:b<h.length){v:Value}
 (hv:RA w ι (.sl m wd i0 len cap) v) (hl:i0+len=rows.length) {blk:Blk} {t:Bool} (ha:Alike (nth .dead h b) blk i wd (rows.drop i0) t) (ht:t=true→lB w (ι (.v b)) blk i v):
 ∃aC:az,Mem cx aC (setNth (setNth (killH m (killH (.h b i) h)) m .dead) b blk) w∧bc ι.M w w aC.M∧RA w aC (.b8 b wd i len) v∧(aC (.v b)=ι (.v b)∧aC.D=ι.D)∧(∀x u,RA w ι x u→RA w aC ((x.kill (.h b i)).kill m) u):=by
 have Oh:m<h.length:=hm.hr.fO (by rw[iF];simp)
 have hd:(rows.drop i0).length=len:=by simp;omega
 obtain⟨q,gY,Oi,GH⟩:∃q:Option (Nat×Nat×Nat),(∀c o s,q=some (c,o,s)→∃o' s',ι (.v m)=some (c,o',s'))∧RB w ι q (.pr wd (rows.drop i0))∧po q wd len v:=by
  have bq:=hm.hr.blk m
  rw[iF]at bq
  cases hv with
  |c_ aR=>exact⟨none,by simp,.inl ⟨rfl,aa1 hd⟩,.inr ⟨rfl,_,rfl⟩⟩
  |sl gZ hle aR hs=>
   rename_i c o s cc
   rw[gZ]at bq
   rcases bq with⟨h0,_⟩|⟨c',o',s',cs,ty,fz,he,h1,h2,h3,h4,h5,h6⟩
   ·cases h0
   cases he
   refine⟨some (c,o+i0*wd,s),λc1 o1 s1 e=>by cases e;exact⟨_,_,gZ⟩,.inr ⟨c,o+i0*wd,s,cs,ty,fz,rfl,h1,h2,h3,?_,λn row hn=>?_,λn row j x hn hx=>?_⟩,.inl ⟨c,o+i0*wd,s,cc,rfl,rfl,hle,?_⟩⟩
   ·have e:rows.length*wd=i0*wd+(rows.drop i0).length*wd:=by rw[hd,←aaU,hl]
    omega
   ·rw[abx]at hn;exact h5 _ _ hn
   ·rw[abx]at hn
    obtain⟨g1,u,g2,g3⟩:=h6 _ _ _ _ hn hx
    exact⟨g1,u,by rw[←g2];congr 1;rw[aaU];omega,g3⟩
   ·rw[aaU]at hs;omega
 let ot:=ι.gw b i q
 let bX:=ot.cE m none
 have BD:∀c,ot.I c→ι.I c:=by
  rintro c ⟨x,o,s,hx⟩
  rcases az.pI hx with⟨_,h1⟩|⟨_,h1⟩
  ·obtain⟨o',s',h2⟩:=gY _ _ _ h1;exact⟨_,_,_,h2⟩
  ·exact⟨_,_,_,h1⟩
 have yd:∀x p,bX x=some p→x.base≠m∧ot x=some p:=λx p hx=>by
  rcases az.mg hx with⟨_,h2⟩|h2
  ·cases h2
  ·exact h2
 have BE:∀c,bX.I c→ot.I c:=λc ⟨x,o,s,hx⟩=>⟨x,o,s,(yd _ _ hx).2⟩
 have BF:bc ι.M w w ot.M:=⟨λ_ _ _ h=>h,λc hc=>.inl (hc.imp (BD c) id),aaJ _⟩
 have mj:bc ot.M w w bX.M:=⟨λ_ _ _ h=>h,λc hc=>.inl (hc.imp (BE c) id),aaJ _⟩
 have hL:bc ι.M w w bX.M:=⟨λ_ _ _ h=>h,λc hc=>.inl (hc.imp (λh=>BD c (BE c h)) id),aaJ _⟩
 have BG:∀n,(Bn.h b i).hit n=false→∀p,ι n=some p→ot n=some p:=λn hn p hp=>by
  show ι.gw b i q n=_
  rw[az.oq _ _ (Bn.ya hn)];exact hp
 have pJ:∀n,(Bn.v m).hit n=false→∀p,ot n=some p→bX n=some p:=λn hn p hp=>by
  show ot.cE m none n=_
  rw[az.gL _ _ (Bn.n9 hn)];exact hp
 have sO:∀n:Nat,n≠m→bX (.v n)=ι (.v n):=λn hn=>by
  show(ι.gw b i q).cE m none (.v n)=_
  rw[az.gL _ _ (n:=.v n) hn,az.x_]
 have Oj:bX (.v m)=none:=az.oo _ _ _
 have GI:∀n j:Nat,n≠m→¬(n=b∧j=i)→bX (.h n j)=ι (.h n j):=λn j hn hj=>by
  show(ι.gw b i q).cE m none (.h n j)=_
  rw[az.gL _ _ (n:=.h n j) hn,az.oq _ _ (λe=>hj (by cases e;exact⟨rfl,rfl⟩))]
 have GJ:bX (.h b i)=q:=by
  show(ι.gw b i q).cE m none (.h b i)=_
  rw[az.gL _ _ (n:=.h b i) (abk jM),az.vi]
 have kO:∀n,nth .dead (setNth (setNth (killH m (killH (.h b i) h)) m .dead) b blk) n=if n=b then blk else if n=m then .dead else((nth .dead h n).kill (.h b i)).kill m:=λn=>by
  rw[da _ _ _ _ _ (by rw[eA,abd,fc,fc];exact hb)]
  by_cases e:n=b
  ·rw[aaG e,aaG e]
  ·rw[aaF e,aaF e,da _ _ _ _ _ (by rw[fc,fc];exact Oh)]
   by_cases e2:n=m
   ·rw[aaG e2,aaG e2]
   ·rw[aaF e2,aaF e2,jZ,jZ]
 have dL:∀k:Bn,blk.kill k=blk:=λk=>by
  have hi:=ha.b8 i
  rw[aaG rfl]at hi
  cases blk<;>first|rfl|cases hi
 refine⟨bX,hm.step ⟨hm.hr.gl.later hL,λn=>?_,λx y c o s o' s' h1 h2=>?_,λx c o s h1=>?_,λn j=>?_⟩ (λd x hd hx=>hx) (λd hd=>.inl (BD d (BE d hd))) (aaJ _) ⟨rfl,rfl⟩ rfl rfl rfl rfl
  (λn hn=>sO n (λe=>by subst e;rw[vj]at hn;cases hn)) (by rw[eA,abd,eA,abd,fc,fc];exact hm.kl) (λl r hl=>?_),hL,?_,⟨sO b (abk jM),rfl⟩,λx u hx=>((hx.kill BF BG).kill mj pJ)⟩
 ·rw[kO]
  by_cases e:n=b
  ·subst e
   rw[aaG rfl,sO n (abk jM)]
   have:=((ha.rb w ι _ (hm.hr.blk n)).kill (b:=.h n i) BF (λh=>h) BG λ_ _ _ _=>rfl).kill (b:=.v m) mj (λh=>h) pJ λ_ _ _ _=>rfl
   rw[dL,dL]at this
   exact this
  ·rw[aaF e]
   by_cases e2:n=m
   ·subst e2;rw[aaG rfl,Oj];rfl
   ·rw[aaF e2,sO n e2]
    exact((hm.hr.blk n).kill (b:=.h b i) BF (λh=>h) BG λ_ _ _ _=>rfl).kill (b:=.v m) mj (λh=>h) pJ λ_ _ _ _=>rfl
 ·obtain⟨g1,g2⟩:=yd _ _ h1
  obtain⟨g3,g4⟩:=yd _ _ h2
  rcases az.pI g2 with⟨a1,a2⟩|⟨a1,a2⟩<;>rcases az.pI g4 with⟨a3,a4⟩|⟨a3,a4⟩
  ·rw[a1,a3]
  ·obtain⟨o2,s2,h5⟩:=gY _ _ _ a2
   exact absurd (by rw[hm.hr.inj _ _ _ _ _ _ _ a4 h5];rfl) g3
  ·obtain⟨o2,s2,h5⟩:=gY _ _ _ a4
   exact absurd (by rw[hm.hr.inj _ _ _ _ _ _ _ a2 h5];rfl) g1
  ·exact hm.hr.inj _ _ _ _ _ _ _ a2 a4
 ·obtain⟨g1,g2⟩:=yd _ _ h1
  rcases az.pI g2 with⟨a1,a2⟩|⟨a1,a2⟩
  ·obtain⟨o2,s2,h5⟩:=gY _ _ _ a2
   exact hm.hr.cC _ _ _ _ h5
  ·exact hm.hr.cC _ _ _ _ a2
 ·rw[kO]
  by_cases e:n=b
  ·subst e
   rw[aaG rfl,sO n (abk jM)]
   unfold HB
   rw[ha.b8 j]
   by_cases e2:j=i
   ·subst e2
    rw[aaG rfl,GJ]
    exact⟨Oi.kK hL (λ_ _ _ _=>rfl),λh=>⟨v,ht h,by rw[hd];exact GH⟩⟩
   ·rw[aaF e2,GI n j (abk jM) (λh=>e2 h.2)]
    have h0:=(hm.hr.hid n j).later hL (λ_ _ _ _=>rfl) (λ_ _ _ _=>rfl)
    unfold HB at h0
    cases hx:(nth .dead h n).inner j with
    |none=>rw[hx]at h0;exact h0
    |some y=>
     obtain⟨GD,GF,t2⟩:=y
     rw[hx]at h0
     exact⟨h0.1,λht=>let ⟨v,v1,v2⟩:=h0.2 ht;⟨v,ha.pv _ _ _ _ v1,v2⟩⟩
  ·rw[aaF e]
   by_cases e2:n=m
   ·subst e2;rw[aaG rfl];exact HB.bare rfl (az.BA _ _ _ _)
   ·rw[aaF e2,sO n e2,GI n j e2 (λh=>e h.1)]
    exact(((hm.hr.hid n j).later hL (λ_ _ _ _=>rfl) (λ_ _ _ _=>rfl)).kill _).kill _
 ·rw[kO]at hl
  split at hl
  ·exact absurd hl (ha.gh l r)
  ·split at hl
   ·cases hl
   ·exact vg (vg hl)
 ·rcases GH with⟨c',o',s',cc,q1,q2,ql,qs⟩|⟨q1,oa,q2⟩
  ·rw[q2];exact .b8 (GJ.trans q1) ql qs
  ·rw[q2,q1];exact .iB
theorem Mem.same(hm:Mem cx ι h w){w':World}(hh:w'.heap=w.heap)(dj:w'.os=w.os∧w'.output=w.output):Mem cx ι h w':=by
 have hL:bc ι.M w w' ι.M:=⟨λc o _ hc=>by rw[hh];exact hc,λc hc=>.inl hc,by rw[hh];exact aaJ _⟩
 exact hm.step ⟨hm.hr.gl.later hL,λb=>(hm.hr.blk b).later hL (λh=>h) (λ_ _ h=>h) λc o s _=>by rw[hh],hm.hr.inj,hm.hr.cC,λb i=>(hm.hr.hid b i).later hL (λc o s _=>by rw[hh]) (λc o s _=>by rw[hh])⟩ (λc o _ hc=>by rw[hh];exact hc) (λc hc=>.inl hc)
  (by rw[hh];exact aaJ _) dj rfl rfl rfl rfl (λ_ _=>rfl) hm.kl (λ_ _ h=>h)
end
theorem jd{w w':World}{ι aC:az}{t:List (Nat×AV)}{a:Act}(hL:bc ι.M w w' aC.M)(bh:∀b p,ι b=some p→aC b=some p)
 (h:∀s,RA w ι (lk t s) (a.tmps.getD s undef)):∀s,RA w' aC (lk t s) (a.tmps.getD s undef):=λs=>(h s).later hL bh
theorem ou{w w':World}{ι aC:az}{t:List (Nat×AV)}{a:Act}{b:Bn}(hL:bc ι.M w w' aC.M)(bh:∀b',b.hit b'=false→∀p,ι b'=some p→aC b'=some p)
 (h:∀s,RA w ι (lk t s) (a.tmps.getD s undef)):∀s,RA w' aC (lk (killT b t) s) (a.tmps.getD s undef):=λs=>by
 rw[qF];exact(h s).kill hL bh
section
variable {cx:Cx} {ι:az} {st:St} {a:Act} {w:World}
def g_(cx:Cx)(q:Bool)(w:World)(k:St→Prop)(a':Act)(w':World):Prop:=Kc cx k a' w'∧(q=true→Ext w w')
theorem dN{P:Program}{o:Oper}{K:Act→World→Prop}{Q:Exit→Act→World→Prop}{v:Value}{w':World}
 (h:(execOp a.eval o).run P w=.ok (.value v) w') (hk:K (a.put o.dst v) w'):o.wp P a w K Q:=by
 unfold Oper.wp;rw[h];exact hk
theorem nq{P:Program}{o:Oper}{K:Act→World→Prop}{Q:Exit→Act→World→Prop}{w':World}
 (h:(execOp a.eval o).run P w=.ok .skip w') (hk:K (a.put o.dst undef) w'):o.wp P a w K Q:=by
 unfold Oper.wp;rw[h];exact hk
theorem GK(b:Nat)(h:List Blk)(x:Blk):(setNth (killH b h) b x).length=h.length:=by
 rw[eA];simp[fc]
theorem ju.blk{cells:List AV}{cs:Array Value}(h:ju w ι cells cs):fE w ι cs 0 (.mx cells):=by
 refine⟨by have:=h.1;omega,λj x hx=>?_⟩
 obtain⟨h1,h2⟩:=h.2 j x hx
 have aq:j<cs.size:=by rw[h.1];exact(aaK.1 hx).1
 refine⟨cs[j],by simp[aq],?_,?_⟩
 ·simpa [aq]using h1
 ·simpa [aq]using h2
theorem ju.row{ps:List PV}{cs:Array Value}(h:ju w ι (ps.map .p) cs):fE w ι cs 0 (.pr ps.length [ps]):=by
 refine⟨by have:=h.1;simp at this ⊢;omega,λi row hi=>?_,λi row j x hi hx=>?_⟩
 ·cases i<;>simp at hi
  subst hi;rfl
 ·cases i<;>simp at hi
  subst hi
  have gd:(ps.map AV.p)[j]? =some (.p x):=by simp[hx]
  obtain⟨h1,h2⟩:=h.2 j _ gd
  have aq:j<cs.size:=by rw[h.1];exact(aaK.1 gd).1
  have hr:=gW h2
  exact⟨hr.pB h1,cs.getD j undef,by simp[aq],hr⟩
theorem vk(hr:Rel cx ι st a w){d:Option Nat}(hd:∀t,d=some t→cx.bw t=true){cs:Array Value}{ty:TypeId}{blk:Blk}{wd:Nat}{k:St→Prop}{q:Bool}
 (hb:fE w ι cs 0 blk) (hk:k (iW st d (.ptr st.heap.length wd 0 0) blk)):
 g_ cx q w k (a.put d (.pointer (some ⟨w.heap.size,0,none⟩))) (dC w (.cells cs ty)):=by
 have jf:(dC w (.cells cs ty)).heap[w.heap.size]? =some (.cells cs ty (0,0)):=nn _ _
 have Ol:kJ cs.size (0,0):=λo _ h=>by omega
 obtain⟨hm,hL,bh⟩:=hr.mem.lay (w':=dC w (.cells cs ty)) (c:=w.heap.size) (o:=0) (s:=cs.size) (blk:=blk) (aaJ _) (j7 w _) ⟨rfl,rfl⟩
  (λhL bh=>(hb.later hL bh).rb jf Ol) (λl r e=>by subst e;exact hb) hb.bare
 refine⟨⟨_,_,⟨?_,sB (st:=⟨st.tmps,st.heap++[blk]⟩) (jd hL bh hr.tm) hr.sz.1 (λt ht=>cx.eI t (hd t ht)) ?_,Sz.put hr.sz hd _,by rw[Act.sA];exact hr.df⟩,hk⟩,λ_=>j7 w _⟩
 ·rw[pt];exact hm
 ·have:=RA.ptr (w:=dC w (.cells cs ty)) (ι:=ι.cE st.heap.length (some (w.heap.size,0,cs.size))) (wd:=wd) (i:=0) (j:=0) (az.oo _ _ _)
  simpa using this
theorem Om(hr:Rel cx ι st a w){o:Oper}{e:TypeId}{z:List PV}{arr:Bool}(ho:o.op=.alloc e)(hz:zeroT cx.P e=some z)(hd:∀t,o.dst=some t→cx.bw t=true)
 {q:Bool} {k:St→Prop} (h:iA cx.E q (.alloc arr z) o.dst st k) {Q:Exit→Act→World→Prop}:o.wp cx.P a w (g_ cx q w k) Q:=by
 obtain⟨i,v,hi,sJ,i_,qR,ov⟩:=qK (w:=w) (ι:=ι) hz
 have aT:(execOp a.eval o).run cx.P w=.ok (.value (.pointer (some ⟨w.heap.size,0,none⟩))) (dC w (.cells v.cells e)):=by
  simp[execOp,ho,Instr.alloc,od hi sJ,newVar,newRow]
  rfl
 refine dN aT (vk hr hd ?_ h)
 cases arr with
 |true=>exact i_.row
 |false=>exact i_.blk
theorem On(hr:Rel cx ι st a w){o:Oper}{e:TypeId}{z rest:List PV}{n:Nat}{z0:PV}(ho:o.op=.alloc e)(hz:zeroT cx.P e=some z)(hn:n≤z.length)(cn:(z.take n).all (eqPV z0)=true)(pF:z.drop n=rest)(hd:∀t,o.dst=some t→cx.bw t=true)
 {q:Bool} {k:St→Prop} (h:iA cx.E q (.sj n z0 rest) o.dst st k) {Q:Exit→Act→World→Prop}:o.wp cx.P a w (g_ cx q w k) Q:=by
 obtain⟨i,v,hi,sJ,i_,qR,ov⟩:=qK (w:=w) (ι:=ι) hz
 have aT:(execOp a.eval o).run cx.P w=.ok (.value (.pointer (some ⟨w.heap.size,0,none⟩))) (dC w (.cells v.cells e)):=by
  simp[execOp,ho,Instr.alloc,od hi sJ,newVar,newRow]
  rfl
 refine dN aT (vk hr hd ?_ h)
 have e1:List.replicate n z0=z.take n:=by
  symm
  rw[ads]
  refine⟨by simp;omega,λx hx=>?_⟩
  exact(F8 (aa8.1 cn x hx)).symm
 have e2:(List.replicate n z0).map AV.p++rest.map AV.p=z.map AV.p:=by
  rw[e1,←pF,←abb,abY]
 have hb:=i_.blk
 refine⟨by simp,?_⟩
 rw[e2]
 exact hb
theorem BH:∀l:List PV,allP (l.map .p)=some l
 |[]=>rfl
 |x::r=>by simp[allP,BH r]
theorem Oo{x:AV}{k:List PV→Prop}(h:A0 x k):qB (cellsOf x) k:=by
 unfold A0 at h
 split at h
 ·rename_i l;unfold qB;simp[cellsOf,BH,h]
 ·exact h
theorem Oq(hr:Rel cx ι st a w){o:Oper}{e:TypeId}{x:Operand}{x':aS}{n sz:Nat}(ho:o.op=.box e x)(hx:cOpd x=some x')(hd:∀t,o.dst=some t→cx.bw t=true)
 {q:Bool} {k:St→Prop} (h:iA cx.E q (.uJ n x' sz) o.dst st k) {Q:Exit→Act→World→Prop}:o.wp cx.P a w (g_ cx q w k) Q:=by
 have hv:=bt hr.mem.hr.gl hr.tm hx
 have aT:(execOp a.eval o).run cx.P w=.ok (.value (.pointer (some ⟨w.heap.size,0,none⟩))) (dC w (.cells (a.eval x).cells e)):=by
  simp[execOp,ho,Instr.box,newVar,newRow]
  rfl
 obtain⟨arr,rest,hc,⟨aZ,hn,bM⟩,h⟩:=h
 have i_:ju w ι (cellsOf (ev st x')) (a.eval x).cells:=pE aZ hv
 have hb:=i_.blk
 rw[hc]at hb
 exact dN aT (vk (blk:=.ax n arr rest) hr hd ⟨hn,hb⟩ h)
theorem Ot(hr:Rel cx ι st a w){o:Oper}{e:TypeId}{x:Operand}{x':aS}{sz:Nat}{arr:Bool}(ho:o.op=.box e x)(hx:cOpd x=some x')(hd:∀t,o.dst=some t→cx.bw t=true)
 {q:Bool} {k:St→Prop} (h:iA cx.E q (.box arr x' sz) o.dst st k) {Q:Exit→Act→World→Prop}:o.wp cx.P a w (g_ cx q w k) Q:=by
 have hv:=bt hr.mem.hr.gl hr.tm hx
 have aT:(execOp a.eval o).run cx.P w=.ok (.value (.pointer (some ⟨w.heap.size,0,none⟩))) (dC w (.cells (a.eval x).cells e)):=by
  simp[execOp,ho,Instr.box,newVar,newRow]
  rfl
 have h:xH arr sz o.dst st (ev st x') k:=dh (k:=λv=>xH arr sz o.dst st v k) h
 unfold xH at h
 cases arr with
 |true=>
  have h:=Oo h
  simp only[qB]at h
  split at h
  ·rename_i ps hp
   obtain⟨bM,h⟩:=h
   have aZ:vok (ev st x')=true:=by
    generalize ev st x'=y at hp
    cases y<;>first|rfl|(simp[cellsOf,allP]at hp)
   have i_:ju w ι (cellsOf (ev st x')) (a.eval x).cells:=pE aZ hv
   rw[u5 hp]at i_
   subst bM
   exact dN aT (vk hr hd i_.row h)
  ·exact h.elim
 |false=>
  simp only at h
  cases hb:(vok (ev st x')&&Nat.beq (cellsOf (ev st x')).length sz)with
  |false=>rw[hb]at h;exact h.elim
  |true=>
   rw[hb]at h
   simp only[aaQ]at hb
   have i_:ju w ι (cellsOf (ev st x')) (a.eval x).cells:=pE hb.1 hv
   exact dN aT (vk hr hd i_.blk h)
theorem nr{P:Program}(c o:Nat)(ty:TypeId)(fz:Nat×Nat):∀(vs:List Value) (i:Nat) (cur:Array Value) (w:World),w.heap[c]? =some (.cells cur ty fz)→
 o+i+vs.length≤cur.size→kJ cur.size fz→(∀v∈vs,dP v=true)→
 (storeCells ⟨c,o,none⟩ vs i).run P w=.ok () (bB w c (.cells (cur.toList.take (o+i)++vs++cur.toList.drop (o+i+vs.length)).toArray ty fz))
 |[],i,cur,w,hg,_,_,_=>by
  simp only[storeCells,abF,List.length_nil,Nat.add_zero,abY,Array.toArray_toList,bB]
  show Result.ok () w=_
  congr 1
  have:w.heap.setIfInBounds c (.cells cur ty fz)=w.heap:=by
   apply ady
   intro j
   by_cases e:c=j
   ·subst e
    have aq:=(aaW.1 hg).1
    simp[aq,hg]
    exact(aaW.1 hg).2.symm
   ·rw[ab4 e]
  rw[this]
 |v::rest,i,cur,w,hg,hl,ht,h1=>by
  have aq:=(aaW.1 hg).1
  have hi:o+i<cur.size:=by simp at hl;omega
  have bn:w.cell? ⟨c,o+i,none⟩=some cur[o+i]:=by simp[World.cell?,hg,hi]
  have Ou:w.frozen? ⟨c,o+i,none⟩=false:=by
   simp only[World.frozen?,hg]
   have:=ht (o+i) hi
   simp only[not_and,Nat.not_lt]at this
   simp only[Bool.and_eq_false_iff,acG,Nat.not_le,Nat.not_lt]
   by_cases h0:fz.1≤o+i
   ·exact .inr (this h0)
   ·exact .inl (by omega)
  have ns:w.setCell ⟨c,o+i,none⟩ v=bB w c (.cells (cur.setIfInBounds (o+i) v) ty fz):=by
   simp only[World.setCell,bB]
   congr 1
   apply ady
   intro j
   rw[acg]
   by_cases e:c=j
   ·subst e
    have e1:=(aaW.1 hg).2
    simp[aq,e1]
   ·rw[ab4 e];simp[e]
  have aU:(store ((⟨c,o,none⟩:Addr).add i) v).run P w=.ok () (bB w c (.cells (cur.setIfInBounds (o+i) v) ty fz)):=by
   rw[gK,run_store P w _ v _ (h1 v (by simp)),bn]
   simp[Ou,ns]
  have ih:=nr (P:=P) c o ty fz rest (i+1) (cur.setIfInBounds (o+i) v) (bB w c (.cells (cur.setIfInBounds (o+i) v) ty fz)) (iG _ _ _ aq)
   (by simp at hl ⊢;omega) (by simpa using ht) (λx hx=>h1 x (by simp[hx]))
  simp only[storeCells,Sem.run_bind,aU,Result.andThen_ok,ih]
  congr 1
  simp only[bB,Array.setIfInBounds_setIfInBounds]
  congr 3
  have e:=list_seg_step cur.toList (o+i) v rest (by simp at hl ⊢;omega)
  simpa [Array.toList_setIfInBounds,aaX]using e
end
end Hk
