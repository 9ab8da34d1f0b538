/- Texts of this claim, put together: Eff2, Eff3, Eff4, App, Copy, Wk, Call, Call2, Mape, Clr, Mit, Fnc, Vro, Ord, Reg, Stle. -/
import Derived.Test.YteicokbnoonipaaGreatDoorM1
import Derived.RangeFuncLeaves
import Derived.RangeFuncSeq
import Derived.OrdersIn
import Derived.TacticsIn
set_option linter.unusedSimpArgs false
set_option linter.unusedVariables false
namespace Hk
open Go
structure jN(ι aC:az)(h':List Blk):Prop where
 old:∀(x:Bn) p,ι x=some p→aC x=some p∨nth .dead h' x.base=.dead
 less:∀c,aC.M c→ι.M c
theorem jN.refl(ι:az)(h:List Blk):jN ι ι h:=⟨λ_ _ h=>.inl h,λ_ h=>h⟩
theorem jN.later{ι aC:az}{h':List Blk}(hf:jN ι aC h')(w:World):bc ι.M w w aC.M:=⟨λ_ _ _ h=>h,λc h=>.inl (hf.less c h),aaJ _⟩
section
variable {cx:Cx} {ι bV:az} {st:St} {a:Act} {w:World}
theorem jN.ye{h:List Blk}(hf:jN bV ι h)(gV:Mem cx ι h w){b:Nat}(hb:b<h.length)(hm:Mem cx (ι.cE b none) (setNth (killH b h) b .dead) w)(hL:bc ι.M w w (ι.cE b none).M):
 jN bV (ι.cE b none) (setNth (killH b h) b .dead):=by
 refine⟨λx p hp=>?_,λc hc=>?_⟩
 ·by_cases e:x.base=b
  ·right
   rw[e,da _ _ _ _ _ (by rw[fc];exact hb),aaG rfl]
  ·rcases hf.old _ _ hp with h1|h1
   ·left;rw[az.gL _ _ e];exact h1
   ·right
    rw[da _ _ _ _ _ (by rw[fc];exact hb),aaF e,jZ,h1]
    rfl
 ·rcases hL.new c hc with h1|h1
  ·exact hf.less c h1
  ·rcases hc with hc|hc
   ·have:=hm.hr.lt hc;omega
   ·exact hf.less c (.inr hc)
theorem bL.qT{h:List Blk}(hr:bL ι h w){b i wd:Nat}{rows:List (List PV)}{t:Bool}(a_:(nth .dead h b).inner i=some (wd,rows,t)){v:Value}(hv:po (ι (.h b i)) wd rows.length v)
 {M:Nat→Prop} (hM:∀c o s,ι (.h b i)=some (c,o,s)→¬M c) (hL:bc ι.M w w M):RP w M (.au wd rows none) v:=by
 have h0:=hr.hid b i
 unfold HB at h0
 rw[a_]at h0
 obtain⟨h1,_⟩:=h0
 rcases hv with⟨c,o,s,cc,q,rfl,ql,qs⟩|⟨q,oa,rfl⟩
 ·rw[q]at h1
  rcases h1 with⟨h1,_⟩|⟨c',o',s',cs,ty,fz,he,h1,h2,h3,h4,h5,h6⟩
  ·cases h1
  cases he
  refine sF (ad:=⟨c,o,none⟩) rfl (hM _ _ _ q) (aaW.1 h1).1 ql (by simp) λn row hn=>⟨h5 n row hn,λj x hx=>?_⟩
  obtain⟨g1,u,g2,g3⟩:=h6 n row j x hn hx
  exact⟨g1,u,by rw[cell_of h1,aaX];exact g2,g3.later hL⟩
 ·obtain rfl:=aa1 q
  exact .nil (by simp)
theorem RA.sP{b wd i len:Nat}{v:Value}(h:RA w ι (.b8 b wd i len) v):dP v=true∧v.cells= #[v]∧po (ι (.h b i)) wd len v:=by
 cases h with
 |b8 h1 h2 h3=>exact⟨rfl,rfl,.inl ⟨_,_,_,_,h1,rfl,h2,h3⟩⟩
 |iB=>exact⟨rfl,rfl,.inr ⟨rfl,_,rfl⟩⟩
theorem RP.vl{M:Nat→Prop}{wd:Nat}{rows:List (List PV)}{cap:Option Nat}{v:Value}(h:RP w M (.au wd rows cap) v):RP w M (.au wd rows none) v:=by
 cases h with
 |nil h=>exact .nil (by simp)
 |au hs hM hb hc aR bm bA bn dt=>exact .au hs hM hb hc (by simp) bm bA bn dt
theorem BI{h:List Blk}(hr:bL ι h w){b wd len:Nat}{cap:Option Nat}{cells:List (Bool×List (List PV))}(hn:nth .dead h b=.pn 1 wd cells none)(hl:len=cells.length){M:Nat→Prop}
 (hM:∀x:Bn,x.base=b→∀c o s,ι x=some (c,o,s)→¬M c) (hL:bc ι.M w w M) {v:Value} (hx:RA w ι (.sl b 1 0 len cap) v):RP w M (.au 1 (cells.map λc=>[.au wd c.2 none]) none) v:=by
 have di:(cells.map λc=>[PV.au wd c.2 none]).length=cells.length:=by simp
 cases hx with
 |c_ aR=>
  have:cells=[]:=aa1 hl.symm
  subst this
  exact .nil (by simp)
 |sl hb hle aR hs=>
  rename_i c o s cc
  rw[hl,←di]
  refine sF (ad:=⟨c,o+0*1,none⟩) rfl (hM (.v b) rfl _ _ _ hb) (hr.lt ⟨_,_,_,hb⟩) (by rw[di,←hl];exact hle) (by simp) λn row hi=>?_
  rw[aaM]at hi
  obtain⟨⟨fl,rows⟩,bp,e'⟩:=aaO.1 hi
  subst e'
  refine⟨rfl,λj x hx=>?_⟩
  cases j with
  |succ j=>simp at hx
  |zero=>
   simp at hx
   subst hx
   obtain⟨v,v1,v2,v3,v4⟩:=hr.F0 hb hn bp
   refine⟨rfl,v,by simpa using v1,?_⟩
   cases fl with
   |true=>
    have a_:(nth .dead h b).inner n=some (wd,rows,true):=by rw[hn];simp only[Blk.inner];rw[bp];rfl
    exact hr.qT a_ (v3 rfl rfl).sP.2.2 (hM (.h b n) rfl) hL
   |false=>exact((v4 rfl).later hL).vl
theorem RA.back{b wd i len:Nat}{cap:Option Nat}{v:Value}{w':World}(h:RA w bV (.sl b wd i len cap) v)(hk:∀p,bV (.v b)=some p→ι (.v b)=some p):RA w' ι (.sl b wd i len cap) v:=by
 cases h with
 |sl hb hl aR hs=>exact .sl (hk _ hb) hl aR hs
 |c_ aR=>exact .c_ aR
theorem Ov(b wd:Nat)(rows:List (List PV))(t:List (Nat×AV))(s:Nat):lk (uR b wd rows t) s=AV.keep b wd rows (lk t s):=by
 induction t with
 |nil=>rfl
 |cons x r ih=>
  obtain⟨k,v⟩:=x
  simp only[uR,lk,ih]
  cases Nat.beq k s<;>rfl
theorem Ow{b wd:Nat}{rows:List (List PV)}{t:List (Nat×AV)}(h:uS b wd rows t)(s:Nat):∀i l c,lk t s=.sl b wd i l c→i+l≤rows.length:=by
 induction t with
 |nil=>intro i l c e;cases e
 |cons x r ih=>
  obtain⟨k,v⟩:=x
  intro i l c e
  have h:xy b wd rows v (uS b wd rows r):=h
  have hr:uS b wd rows r:=by
   unfold xy at h
   split at h
   ·rename_i b' b6 i' l' c' _
    cases hc:(Nat.beq b' b&&Nat.beq b6 wd)with
    |false=>rw[hc]at h;exact h
    |true=>rw[hc]at h;exact h.2
   ·exact h
  simp only[lk]at e
  cases hk:Nat.beq k s with
  |false=>rw[hk]at e;exact ih hr i l c e
  |true=>
   rw[hk]at e
   have e:v=_:=e
   subst e
   unfold xy at h
   simp only[acr,Bool.and_self,cond_true]at h
   exact h.1
theorem Ox(hr:Rel cx ι st a w)(hf:jN bV ι st.heap){x:AV}{v:Value}(hx:RA w bV x v){k:St→PV→Prop}(h:vpure cx.E st x k):
 ∃aC st' y,k st' y∧Rel cx aC st' a w∧RP w aC.M y v∧jN bV aC st'.heap∧bc ι.M w w aC.M:=by
 unfold vpure at h
 split at h
 ·rename_i y
  exact⟨ι,st,y,A_ (k:=λx=>k st x) h,hr,(gW hx).later (hf.later w),hf,bc.refl _ _⟩
 ·rename_i b wd i len cap
  split at h
  ·rename_i b6 rows hn
   cases hw:(Nat.beq wd b6&&!cx.E.fx b)with
   |false=>rw[hw]at h;exact h.elim
   |true=>
    rw[hw]at h
    obtain⟨hw,gM⟩:=by simpa using hw
    subst hw
    obtain⟨rs,eW,hlen,hk⟩:=h
    have hb:b<st.heap.length:=hr.mem.hr.fO (by rw[hn];simp)
    obtain⟨hm,hL⟩:=hr.mem.mh (w':=w) hb gM (p:=none) (blk:=.dead) (c:=w.heap.size) (.inr (aaJ _)) (by simp) (λ_ _ _ h=>h) (aaJ _) ⟨rfl,rfl⟩ (λ_=>rfl)
    have bh:∀b',(Bn.v b).hit b'=false→∀q,ι b'=some q→(ι.cE b none) b'=some q:=λb' e q hq=>by rw[az.gL _ _ (Bn.n9 e)];exact hq
    have key:∀{i len:Nat} {cap:Option Nat} {v:Value} {rs:List (List PV)},RA w ι (.sl b wd i len cap) v→(dropN i rows).take len=rs→rs.length=len→RP w (ι.cE b none).M (.au wd rs cap) v:=by
     intro i len cap v rs hx eW hlen
     rw[gJ]at eW
     cases hx with
     |sl yf hl aR bS=>
      rename_i c o s cc
      rw[←hlen]
      refine sF (ad:=⟨c,o+i*wd,none⟩) rfl ?_ ?_ (by omega) aR λn row hi=>?_
      ·rintro (⟨b',o',s',a7⟩|hX)
       rotate_left
       ·exact hr.mem.hr.cC _ _ _ _ yf hX
       rcases az.mg a7 with⟨_,h1⟩|⟨e,h1⟩
       ·cases h1
       ·exact e (by rw[hr.mem.hr.inj _ _ _ _ _ _ _ h1 yf];rfl)
      ·exact hr.mem.hr.lt ⟨b,o,s,yf⟩
      ·have bp:rows[i+n]? =some row:=by
        have:((rows.drop i).take len)[n]? =some row:=by rw[eW];exact hi
        rw[abT]at this
        split at this
        ·rwa [abx]at this
        ·cases this
       obtain⟨h1,h2⟩:=hr.mem.hr.row yf hn bp
       refine⟨h1,λj x hx=>?_⟩
       obtain⟨h3,v,h4,h5⟩:=h2 j x hx
       exact⟨h3,v,by rw[←h4];congr 2;simp[aaU,aaX],h5.later hL⟩
     |c_ aR=>
      have:rs=[]:=aa1 hlen
      subst this
      exact .nil λk hk=>(aR k hk).symm
    have gd:RA w ι (.sl b wd i len cap) v:=hx.back λp hp=>by
     rcases hf.old _ _ hp with h1|h1
     ·exact h1
     ·exfalso;rw[show(Bn.v b).base=b from rfl,hn]at h1;cases h1
    rcases hk with hk|⟨aZ,hk⟩|hk
    ·exact⟨ι.cE b none,_,_,hk,⟨hm,ou hL bh hr.tm,hr.sz,hr.df⟩,(key gd eW hlen).vl,hf.ye hr.mem hb hm hL,hL⟩
    rotate_left
    ·exact⟨ι.cE b none,_,_,hk,⟨hm,ou hL bh hr.tm,hr.sz,hr.df⟩,key gd eW hlen,hf.ye hr.mem hb hm hL,hL⟩
    ·refine⟨ι.cE b none,_,_,hk,⟨hm,λs=>?_,hr.sz,hr.df⟩,(key gd eW hlen).vl,hf.ye hr.mem hb hm hL,hL⟩
     show RA w _ (lk (uR b wd rows st.tmps) s) _
     rw[Ov]
     have ht:=hr.tm s
     have hq:=Ow aZ s
     revert ht hq
     generalize lk st.tmps s=x
     intro ht hq
     unfold AV.keep
     split
     ·rename_i b' b6 i' l' c'
      cases hc:(Nat.beq b' b&&Nat.beq b6 wd)with
      |false=>exact ht.kill hL bh
      |true=>
       obtain⟨e1,e2⟩:=by simpa using hc
       subst e1;subst e2
       have:=hq _ _ _ rfl
       exact .p (key ht rfl (by rw[gJ,abB,abZ];omega)).vl
     ·exact ht.kill hL bh
  ·rename_i wo wi cells op hn
   cases hw:(Nat.beq wd wo&&Nat.beq wo 1&&!cx.E.fx b)with
   |false=>rw[hw]at h;exact h.elim
   |true=>
    rw[hw]at h
    obtain⟨⟨e1,e2⟩,gM⟩:=by simpa using hw
    subst e1;subst e2
    obtain⟨⟨rfl,rfl,hlen⟩,hk⟩:=h
    have hb:b<st.heap.length:=hr.mem.hr.fO (by rw[hn];simp)
    obtain⟨hm,hL⟩:=hr.mem.mh (w':=w) hb gM (p:=none) (blk:=.dead) (c:=w.heap.size) (.inr (aaJ _)) (by simp) (λ_ _ _ h=>h) (aaJ _) ⟨rfl,rfl⟩ (λ_=>rfl)
    have bh:∀b',(Bn.v b).hit b'=false→∀q,ι b'=some q→(ι.cE b none) b'=some q:=λb' e q hq=>by rw[az.gL _ _ (Bn.n9 e)];exact hq
    refine⟨ι.cE b none,_,_,hk,⟨hm,ou hL bh hr.tm,hr.sz,hr.df⟩,?_,hf.ye hr.mem hb hm hL,hL⟩
    refine BI hr.mem.hr hn hlen (λx hx c o s hc hM=>?_) hL (hx.back λp hp=>?_)
    ·rcases hM with⟨b',o',s',a7⟩|hX
     ·rcases az.mg a7 with⟨_,h1⟩|⟨e,h1⟩
      ·cases h1
      ·exact e (by rw[hr.mem.hr.inj _ _ _ _ _ _ _ h1 hc];exact hx)
     ·exact hr.mem.hr.cC _ _ _ _ hc hX
    ·rcases hf.old _ _ hp with h1|h1
     ·exact h1
     ·exfalso
      rw[show(Bn.v b).base=b from rfl,hn]at h1
      cases h1
  ·exact h.elim
 ·exact h.elim
theorem BJ{val:Nat→Value}:∀(xs:List AV) (n:Nat) {ι:az} {st:St} (hr:Rel cx ι st a w) (hf:jN bV ι st.heap)
 (hx:∀(i:Nat) x,xs[i]? =some x→RA w bV x (val (n+i))) {k:St→List PV→Prop} (h:ph cx.E st xs k),
 ∃aC st' ys,k st' ys∧Rel cx aC st' a w∧ys.length=xs.length∧(∀(i:Nat) y,ys[i]? =some y→RP w aC.M y (val (n+i)))∧jN bV aC st'.heap∧bc ι.M w w aC.M
 |[],n,ι,st,hr,hf,hx,k,h=>⟨ι,st,[],h,hr,rfl,by simp,hf,bc.refl _ _⟩
 |x::r,n,ι,st,hr,hf,hx,k,h=>by
  obtain⟨b9,st1,y,h1,bG,BK,ox,sQ⟩:=Ox hr hf (hx 0 x rfl) h
  obtain⟨bX,st2,ys,h2,fh,dH,sR,BL,mj⟩:=BJ r (n+1) bG ox (λi x hi=>by
   have:=hx (i+1) x (by simpa using hi)
   rw[aaX,acu 1 i];exact this) h1
  refine⟨bX,st2,y::ys,h2,fh,by simp[dH],λi z hz=>?_,BL,⟨λ_ _ _ h=>h,λc hc=>?_,aaJ _⟩⟩
  ·cases i with
   |zero=>simp at hz;subst hz;exact BK.later mj
   |succ i=>
    have:=sR i z (by simpa using hz)
    rw[aaX,acu 1 i]at this;exact this
  ·rcases mj.new c hc with h3|h3
   ·exact sQ.new c h3
   ·exact .inr h3
theorem pK{α:Type}(l:List α)(k:Nat)(vs:List α)(hk:k+vs.length≤l.length)(n:Nat):
 (l.take k++vs++l.drop (k+vs.length))[n]? =if k≤n∧n<k+vs.length then vs[n - k]? else l[n]?:=by
 rw[abi]
 by_cases h1:n<k
 ·rw[aaF (by omega),aa9 (by simp;omega),acj h1]
 ·rw[abe (by simp;omega)]
  simp only[abB,ab6 (show k≤l.length by omega)]
  by_cases h2:n<k+vs.length
  ·rw[aaG (by omega),aa9 (by omega)]
  ·rw[aaF (by omega),abe (by omega),abx]
   congr 1;omega
theorem sS{α:Type}(l:List α)(k:Nat)(vs:List α)(hk:k+vs.length≤l.length):(l.take k++vs++l.drop (k+vs.length)).length=l.length:=by
 simp;omega
theorem GL{E:En}{st:St}:∀(l:List PV) {k:St→List PV→Prop},k st l→ph E st (l.map .p) k
 |[],k,h=>h
 |x::r,k,h=>by
  have:ph E st (r.map .p) (λst ys=>k st (x::ys)):=GL r h
  cases x<;>exact this
theorem GM{E:En}{st:St}{x:AV}{k:St→List PV→Prop}(h:vagg E st x k):ph E st (cellsOf x) k:=by
 unfold vagg at h
 split at h
 ·rename_i l;exact GL l h
 ·exact h
def dD(cs:Array Value)(k:Nat)(vs:List Value):Array Value:=(cs.toList.take k++vs++cs.toList.drop (k+vs.length)).toArray
theorem ml(cs:Array Value)(k:Nat)(vs:List Value)(hk:k+vs.length≤cs.size)(n:Nat):(dD cs k vs)[n]? =if k≤n∧n<k+vs.length then vs[n - k]? else cs[n]?:=by
 unfold dD
 rw[abW,pK _ _ _ (by simpa using hk)]
 simp
theorem eN(cs:Array Value)(k:Nat)(vs:List Value)(hk:k+vs.length≤cs.size):(dD cs k vs).size=cs.size:=by
 unfold dD
 rw[ac8,sS _ _ _ (by simpa using hk)]
 simp
theorem GN(hr:Rel cx ι st a w){o:Oper}{t:TypeId}{x v:Operand}{ax av:AV}{sz:Nat}(ho:o.op=.store t x v)(bN:RA w ι ax (a.eval x))(dp:RA w ι av (a.eval v))
 (hs:bI cx.P t=some sz) (hd:∀t,o.dst=some t→cx.bw t=true) {k:St→Prop} (h:vstore0 cx.E st ax av sz (λst=>k (st.put o.dst .undef)))
 {Q:Exit→Act→World→Prop}:o.wp cx.P a w (Kc cx k) Q:=by
 generalize Oy:a.eval x=vx at bN
 generalize vm:a.eval v=vv at dp
 have run:∀(c off:Nat) (cs:Array Value) (ty:TypeId) (fz:Nat×Nat),vx=.pointer (some ⟨c,off,none⟩)→w.heap[c]? =some (.cells cs ty fz)→kJ cs.size fz→vv.cells.size=sz→off+sz≤cs.size→
  (∀v∈vv.cells.toList,dP v=true)→(execOp a.eval o).run cx.P w=.ok .skip (bB w c (.cells (dD cs off vv.cells.toList) ty fz)):=by
  intro c off cs ty fz BM hc ht bM u_ bA
  have h1:=nr (P:=cx.P) c off ty fz vv.cells.toList 0 cs w hc (by simp;omega) ht bA
  simp only[Nat.add_zero]at h1
  simp only[execOp,ho,Oy,vm,BM,Instr.storeAt,Instr.sureAddr,Sem.run_bind,Sem.run_pure,Result.andThen_ok,storeVar,run_sizeOf hs,bM,ne_eq,adz,abm,h1]
  rfl
 unfold vstore0 at h
 split at h
 ·rename_i b wd i j
  cases bN
  rename_i c o' s hb
  split at h
  ·rename_i cells hn
   split at h
   ·
    cases j_:(vok av&&Nat.beq (cellsOf av).length sz&&Nat.ble (j+sz) cells.length)with
    |false=>rw[j_]at h;exact h.elim
    |true=>
     rw[j_]at h
     simp only[cond_true,na]at h
     simp only[aaQ]at j_
     obtain⟨⟨aZ,e1⟩,e2⟩:=j_
     have e1:=abg e1
     have e2:=aa6 e2
     obtain⟨dA,dX⟩:=pE aZ dp
     have bq:=hr.mem.hr.blk b
     rw[hn,hb]at bq
     obtain⟨cs,ty,fz,hc,ht,bM,hlen,bn⟩:=bq.at
     simp only[acf,aaL]at*
     have mn:vv.cells.toList.length=sz:=by simp;omega
     have hbound:o'+j+vv.cells.toList.length≤cs.size:=by omega
     have aT:=run c (o'+j) cs ty fz rfl hc ht (by omega) (by omega) (λz hz=>by
      obtain⟨n,gx,rfl⟩:=acv hz
      have:=(dX n _ (aaI (by simp at gx;omega))).1
      simpa [show n<vv.cells.size by simpa using gx]using this)
     obtain⟨hm,hL⟩:=hr.mem.write hb (w':=bB w c (.cells (dD cs (o'+j) vv.cells.toList) ty fz))
      (blk:=.mx (cells.take j++cellsOf av++cells.drop (j+sz)))
      (λd z hd hz=>by rw[fg _ _ hd];exact hz) (by simp[bB]) ⟨rfl,rfl⟩ (λhL=>by
       have vn:fE w ι (dD cs (o'+j) vv.cells.toList) o' (.mx (cells.take j++cellsOf av++cells.drop (j+sz))):=by
        rw[←e1]
        refine⟨by rw[eN _ _ _ hbound,sS _ _ _ (by omega)];exact hlen,λn z hz=>?_⟩
        rw[pK _ _ _ (by omega)]at hz
        rw[ml _ _ _ hbound]
        split at hz
        ·rename_i a_
         rw[aaG (by omega)]
         obtain⟨g1,g2⟩:=dX _ _ hz
         have aq:n - j<vv.cells.size:=by omega
         refine⟨vv.cells[n - j],?_,?_,?_⟩
         ·rw[show o'+n - (o'+j)=n - j by omega];simp[aq]
         ·simpa [aq]using g1
         ·simpa [aq]using g2
        ·rename_i a_
         rw[aaF (by omega)]
         exact bn n z hz
       have:=(vn.later hL (λ_ _ h=>h)).rb (ty:=ty) (fz:=fz) (iG w c _ (aaW.1 hc).1) (by rw[eN _ _ _ hbound];exact ht)
       rw[eN _ _ _ hbound,bM]at this
       exact this) (by rw[hn];rfl)
     exact nq aT ⟨ι,_,Rel.put (st:=⟨st.tmps,setNth st.heap b (.mx (cells.take j++cellsOf av++cells.drop (j+sz)))⟩) ⟨hm,jd hL (λ_ _ h=>h) hr.tm,hr.sz,hr.df⟩ hd (.aE _),h⟩
   ·exact h.elim
  ·
   cases aZ:vok av with
   |false=>rw[aZ]at h;exact h.elim
   |true=>
    rw[aZ]at h
    simp only[cond_true]at h
    obtain⟨dA,dX⟩:=pE aZ dp
    have h:=GM h
    obtain⟨aC,st',ys,h,aV,Zv,Gh,hf,pL⟩:=BJ (val:=λi=>vv.cells.getD i undef) (cellsOf av) 0 hr (jN.refl ι st.heap) (λi x hx=>by simpa using (dX i x hx).2) h
    split at h
    ·rename_i b6 rows gx
     cases hw:Nat.beq wd b6 with
     |false=>rw[hw]at h;exact h.elim
     |true=>
      rw[hw]at h
      obtain rfl:=abg hw
      obtain⟨row,bm,nu,qU,h⟩:=h
      have a7:aC b=some (c,o',s):=by
       rcases hf.old _ _ hb with h1|h1
       ·exact h1
       ·rw[show(Bn.v b).base=b from rfl,gx]at h1;cases h1
      have bq:=aV.mem.hr.blk b
      rw[gx,a7]at bq
      obtain⟨cs,ty,fz,hc,ht,bM,hlen,cq,bn⟩:=bq.at
      have pM:=cq i row bm
      have lH:i<rows.length:=(aaK.1 bm).1
      have GO:i*wd+wd≤rows.length*wd:=by
       have:=abl wd (show i+1≤rows.length from lH)
       rwa [aaU,abC]at this
      have mn:vv.cells.toList.length=sz:=by simp;omega
      have hbound:o'+(i*wd+j)+vv.cells.toList.length≤cs.size:=by omega
      have aT:=run c (o'+(i*wd+j)) cs ty fz rfl hc ht (by omega) (by omega) (λz hz=>by
       obtain⟨n,gx,rfl⟩:=acv hz
       have:=(dX n _ (aaI (by simp at gx;omega))).1
       simpa [show n<vv.cells.size by simpa using gx]using this)
      have BN:(row.take j++ys++row.drop (j+sz)).length=wd:=by
       rw[←nu,sS _ _ _ (by omega)];exact pM
      obtain⟨hm,hL⟩:=aV.mem.write a7 (w':=bB w c (.cells (dD cs (o'+(i*wd+j)) vv.cells.toList) ty fz))
       (blk:=.pr wd (rows.set i (row.take j++ys++row.drop (j+sz))))
       (λd z hd hz=>by rw[fg _ _ hd];exact hz) (by simp[bB]) ⟨rfl,rfl⟩ (λhL=>by
        have vn:fE w aC (dD cs (o'+(i*wd+j)) vv.cells.toList) o' (.pr wd (rows.set i (row.take j++ys++row.drop (j+sz)))):=by
         refine⟨by rw[eN _ _ _ hbound,abd];exact hlen,λn r hr=>?_,λn r m z hr hz=>?_⟩
         ·rw[aaZ]at hr
          split at hr
          ·cases hr;exact BN
          ·exact cq n r hr
         ·rw[ml _ _ _ hbound]
          rw[aaZ]at hr
          split at hr
          ·rename_i e
           subst e
           cases hr
           ·rw[←nu,pK _ _ _ (by omega)]at hz
            split at hz
            ·rename_i a_
             rw[aaG (by omega)]
             have aq:m - j<vv.cells.size:=by omega
             have g1:=Gh _ _ hz
             have g2:=(dX (m - j) _ (aaI (by omega))).1
             simp only[aaL]at g1
             refine⟨g1.pB g2,vv.cells.getD (m - j) undef,?_,g1⟩
             rw[show o'+(i*wd+m) - (o'+(i*wd+j))=m - j by omega]
             simp[aq]
            ·rename_i a_
             rw[aaF (by omega)]
             exact bn i row m z bm hz
          ·rename_i e
           have GP:m<wd:=by
            have:=(aaK.1 hz).1
            rw[cq n r hr]at this;exact this
           rw[aaF]
           ·exact bn n r m z hr hz
           ·rintro ⟨q1,q2⟩
            rcases adA e with h4|h4
            ·have:=abl wd (show i+1≤n from h4)
             rw[aaU,abC]at this
             omega
            ·have:=abl wd (show n+1≤i from h4)
             rw[aaU,abC]at this
             omega
        have:=(vn.later hL (λ_ _ h=>h)).rb (ty:=ty) (fz:=fz) (iG w c _ (aaW.1 hc).1) (by rw[eN _ _ _ hbound];exact ht)
        rw[eN _ _ _ hbound,bM]at this
        exact this) (by rw[gx];rfl)
      exact nq aT ⟨aC,_,Rel.put (st:=⟨st'.tmps,setNth st'.heap b (.pr wd (rows.set i (row.take j++ys++row.drop (j+sz))))⟩) ⟨hm,jd hL (λ_ _ h=>h) aV.tm,aV.sz,aV.df⟩ hd (.aE _),h⟩
    ·exact h.elim
  ·exact h.elim
 ·exact h.elim
theorem BO{α:Type}(l:List α)(n:Nat)(x y:α):setNth (setNth l n x) n y=setNth l n y:=by
 simp only[eA];exact ac9 ..
theorem yg{h:List Blk}(hr:bL ι h w){b:Nat}(aq:b<h.length)(lG:(nth .dead h b).bare=true){x:Blk}(hx:x.bare=true)(b' i:Nat):HB w ι (ι (.v b')) (ι (.h b' i)) i (nth .dead (setNth h b x) b'):=by
 rw[da _ _ _ _ _ aq]
 split
 ·rename_i e;subst e;exact HB.bare hx ((hr.hid b' i).none lG)
 ·exact hr.hid b' i
theorem Mem.Oz{h:List Blk}(hm:Mem cx ι h w){b n:Nat}{arr:List PV}{cells:List AV}(hn:nth .dead h b=.ax n arr cells):Mem cx ι (setNth h b (.mx (arr.map AV.p++cells))) w:=by
 have aq:b<h.length:=hm.hr.fO (by rw[hn];simp)
 refine hm.step ⟨hm.hr.gl,λb'=>?_,hm.hr.inj,hm.hr.cC,yg hm.hr aq (by rw[hn];rfl) rfl⟩ (λ_ _ _ h=>h) (λc h=>.inl h) (aaJ _) ⟨rfl,rfl⟩ rfl rfl rfl rfl (λ_ _=>rfl) (by rw[eA];simpa using hm.kl) (λl r e=>?_)
 ·rw[da _ _ _ _ _ aq]
  have h0:=hm.hr.blk b'
  split
  ·rename_i e;subst e;rw[hn]at h0;exact h0.2
  ·exact h0
 ·rw[da _ _ _ _ _ aq]at e
  split at e
  ·cases e
  ·exact e
theorem Mem.OA{h:List Blk}{b n:Nat}{arr:List PV}{cells:List AV}(aq:b<h.length)(hm:Mem cx ι (setNth h b (.mx (arr.map AV.p++cells))) w)(hn:arr.length=n):Mem cx ι (setNth h b (.ax n arr cells)) w:=by
 have hl:∀x,(setNth h b x).length=h.length:=λx=>by rw[eA,abd]
 have GQ:=yg (x:=.ax n arr cells) hm.hr (b:=b) (by rw[hl];exact aq) (by rw[da _ _ _ _ _ aq,aaG rfl];rfl) rfl
 rw[BO]at GQ
 refine hm.step ⟨hm.hr.gl,λb'=>?_,hm.hr.inj,hm.hr.cC,GQ⟩ (λ_ _ _ h=>h) (λc h=>.inl h) (aaJ _) ⟨rfl,rfl⟩ rfl rfl rfl rfl (λ_ _=>rfl) (by rw[hl,←hl (.mx (arr.map AV.p++cells))];exact hm.kl) (λl r e=>?_)
 ·rw[da _ _ _ _ _ aq]
  have h0:=hm.hr.blk b'
  rw[da _ _ _ _ _ aq]at h0
  split
  ·rename_i e;rw[aaG e]at h0;exact⟨hn,h0⟩
  ·rename_i e;rw[aaF e]at h0;exact h0
 ·rw[da _ _ _ _ _ aq]at e ⊢
  split at e
  ·cases e
  ·rename_i bg;rw[aaF bg];exact e
theorem OB{n:Nat}{arr:List PV}{cells:List AV}(hn:arr.length=n){j sz:Nat}{v:AV}{k:List PV→List AV→Prop}(h:AZ n arr cells j v sz k):
 ∃jH gN,k jH gN∧jH.length=n∧(vok v&&Nat.beq (cellsOf v).length sz&&Nat.ble (j+sz) (arr.map AV.p++cells).length)=true∧
  (arr.map AV.p++cells).take j++cellsOf v++(arr.map AV.p++cells).drop (j+sz)=jH.map AV.p++gN:=by
 subst hn
 have later:∀{k:List PV→List AV→Prop},arr.length≤j→(bif vok v&&Nat.beq (cellsOf v).length sz&&Nat.ble (j - arr.length+sz) cells.length then k arr (cells.take (j - arr.length)++cellsOf v++cells.drop (j - arr.length+sz))else False)→
  ∃jH gN,k jH gN∧jH.length=arr.length∧(vok v&&Nat.beq (cellsOf v).length sz&&Nat.ble (j+sz) (arr.map AV.p++cells).length)=true∧
  (arr.map AV.p++cells).take j++cellsOf v++(arr.map AV.p++cells).drop (j+sz)=jH.map AV.p++gN:=by
  intro k hj h
  cases hc:(vok v&&Nat.beq (cellsOf v).length sz&&Nat.ble (j - arr.length+sz) cells.length)with
  |false=>rw[hc]at h;exact h.elim
  |true=>
   rw[hc]at h
   simp only[aaQ]at hc
   have h2:=aa6 hc.2
   refine⟨arr,_,h,rfl,?_,?_⟩
   ·simp only[aaQ]
    exact⟨hc.1,by simp only[aci];simp;omega⟩
   ·rw[adr,ac3,abU (by simpa using hj),ac4 (by simp;omega),aaR]
    have:j+sz - arr.length=j - arr.length+sz:=by omega
    rw[this]
    simp
 unfold AZ at h
 cases h1:Nat.beq sz 1 with
 |true=>
  rw[h1]at h
  obtain rfl:=abg h1
  simp only[cond_true]at h
  rcases h with⟨hj,y,hy,h⟩|⟨hj,h⟩
  ·have aZ:vok v=true:=by
    cases v<;>first|rfl|(simp[cellsOf]at hy)
   refine⟨_,_,h,by simp,?_,?_⟩
   ·rw[aZ,hy]
    simp only[abM,List.length_singleton,acr,aci]
    simp;omega
   ·rw[hy,acm (by simp;omega),adZ (by simp;omega),ad0,aaG hj]
    simp
  ·exact later hj h
 |false=>
  rw[h1]at h
  simp only[cond_false]at h
  cases h2:Nat.ble arr.length j with
  |true=>rw[h2]at h;exact later (aa6 h2) h
  |false=>
   rw[h2]at h
   obtain⟨jH,rest,hc,⟨aZ,rfl,hl,bM,hle⟩,h⟩:=h
   refine⟨_,_,h,hl,?_,?_⟩
   ·rw[aZ,hc]
    have:(jH.map AV.p++rest).length=sz:=by simp;omega
    rw[this]
    simp only[abM,acr,aci]
    simp;omega
   ·rw[hc,List.take_zero,List.nil_append,aaL,ac3,ac4 (by simp;omega),aaR]
    have:sz - arr.length=rest.length:=by omega
    rw[this]
    simp
theorem Alike.pn{wo wd:Nat}{cells:List (Bool×List (List PV))}{op:Option Nat}{i:Nat}{rows:List (List PV)}{t:Bool}(hi:i<cells.length)(du:op=none∨op=some i)(ht:t=false):
 Alike (.pn wo wd cells op) (.pn wo wd (cells.set i (true,rows)) (some i)) i wd rows t:=by
 subst ht
 refine⟨λj=>?_,λw ι p h=>?_,λw p j v h=>h,λl r h=>by cases h⟩
 ·simp only[Blk.inner,aaZ]
  by_cases e:j=i
  ·subst e;simp[hi]
  ·have e':¬i=j:=λh=>e h.symm
   rw[aaF e',aaF e]
   have h1:decide ((some i:Option Nat)=some j)=false:=by simp[e']
   have h2:decide (op=some j)=false:=by rcases du with rfl|rfl<;>simp[e']
   rw[h1,h2]
 ·rcases h with⟨_,h0⟩|⟨c,o,s,cs,ty,fz,h1,h2,h3,h4,h5,h6⟩
  ·subst h0;simp at hi
  refine .inr ⟨c,o,s,cs,ty,fz,h1,h2,h3,h4,by rw[abd];exact h5,λj fl rs hj=>?_⟩
  rw[aaZ]at hj
  by_cases e:i=j
  ·rw[aaG e]at hj
   subst e
   rw[aaG hi]at hj
   cases hj
   obtain⟨v,v1,v2,_⟩:=h6 i cells[i].1 cells[i].2 (aaI hi)
   exact⟨v,v1,v2,λh=>by cases h⟩
  ·rw[aaF e]at hj;exact h6 j fl rs hj
theorem Alike.OC{wo wd:Nat}{cells:List (Bool×List (List PV))}{op:Option Nat}{i:Nat}{OD rows:List (List PV)}(hi:cells[i]? =some (true,OD)):
 Alike (.pn wo wd cells op) (.pn wo wd (cells.set i (true,rows)) op) i wd rows (!decide (op=some i)):=by
 have aq:=(aaK.1 hi).1
 refine⟨λj=>?_,λw ι p h=>?_,λw p j v h=>h,λl r h=>by cases h⟩
 ·simp only[Blk.inner,aaZ]
  by_cases e:j=i
  ·subst e;simp[aq]
  ·rw[aaF (λh=>e h.symm),aaF e]
 ·rcases h with⟨_,h0⟩|⟨c,o,s,cs,ty,fz,h1,h2,h3,h4,h5,h6⟩
  ·subst h0;simp at aq
  refine .inr ⟨c,o,s,cs,ty,fz,h1,h2,h3,h4,by rw[abd];exact h5,λj fl rs hj=>?_⟩
  rw[aaZ]at hj
  by_cases e:i=j
  ·rw[aaG e]at hj
   subst e
   rw[aaG aq]at hj
   cases hj
   obtain⟨v,v1,v2,_⟩:=h6 i _ _ hi
   exact⟨v,v1,v2,λh=>by cases h⟩
  ·rw[aaF e]at hj;exact h6 j fl rs hj
theorem GR{st:St}(hm:Mem cx ι st.heap w){b c o' s wo wd i:Nat}{cells:List (Bool×List (List PV))}{op:Option Nat}(hn:nth .dead st.heap b=.pn wo wd cells op)(hb:ι (.v b)=some (c,o',s)){rows:List (List PV)}
 (hi:cells[i]? =some (true,rows)) (du:op=none∨op=some i) {v:Value} (hv:RA w ι (.b8 b wd i rows.length) v):
 ∃cs ty fz,w.heap[c]? =some (.cells cs ty fz)∧kJ cs.size fz∧o'+i+1≤cs.size∧
  Mem cx ι (setNth st.heap b (.pn wo wd cells none)) (bB w c (.cells (dD cs (o'+i) [v]) ty fz))∧bc ι.M w (bB w c (.cells (dD cs (o'+i) [v]) ty fz)) ι.M:=by
 have bq:=hm.hr.blk b
 rw[hn,hb]at bq
 rcases bq with⟨h0,_⟩|⟨c',o2,s2,cs,ty,fz,he,hc,ht,bM,hlen,bn⟩
 ·cases h0
 cases he
 have aq:i<cells.length:=(aaK.1 hi).1
 have hbound:o'+i+[v].length≤cs.size:=by simp;omega
 obtain⟨ho,_,nv⟩:=hv.sP
 have ka:=iG w c (.cells (dD cs (o'+i) [v]) ty fz) (aaW.1 hc).1
 have fe:∀j,(dD cs (o'+i) [v])[o'+j]? =if j=i then some v else cs[o'+j]?:=λj=>by
  rw[ml _ _ _ hbound]
  by_cases e:j=i
  ·subst e;simp
  ·rw[aaF (by simp;omega),aaF e]
 refine⟨cs,ty,fz,hc,ht,by simpa using hbound,hm.BC hb (λd z hd hz=>by rw[fg _ _ hd];exact hz) (by simp[bB]) ⟨rfl,rfl⟩ (λhL=>?_) λhL aU j=>?_⟩
 ·refine .inr ⟨c,o',s,_,ty,fz,rfl,ka,by rw[eN _ _ _ hbound];exact ht,by rw[eN _ _ _ hbound];exact bM,hlen,λj fl rs hj=>?_⟩
  rw[fe]
  by_cases e:j=i
  ·subst e
   rw[hi]at hj;cases hj
   exact⟨v,by simp,ho,λh=>by cases h⟩
  ·rw[aaF e]
   obtain⟨u,u1,u2,u3⟩:=bn j fl rs hj
   exact⟨u,u1,u2,λh=>(u3 h).later hL⟩
 ·have h0:=hm.hr.hid b j
  unfold HB at h0 ⊢
  rw[hn]at h0
  simp only[Blk.inner]at h0 ⊢
  cases hj:cells[j]? with
  |none=>rw[hj]at h0;exact h0
  |some y=>
   obtain⟨fl,rs⟩:=y
   rw[hj]at h0
   cases fl with
   |false=>exact h0
   |true=>
    refine⟨h0.1.kK hL λc' o s hd=>aU j c' o s hd,λ_=>?_⟩
    by_cases e:j=i
    ·subst e
     rw[hi]at hj;cases hj
     exact⟨v,⟨c,o',s,rfl,by rw[cell_of ka,fe,aaG rfl]⟩,nv⟩
    ·have:(!decide (op=some j))=true:=by rcases du with rfl|rfl<;>simp[abk e]
     obtain⟨u,⟨c2,o2,s2,q1,q2⟩,u2⟩:=h0.2 this
     rw[hb]at q1;cases q1
     exact⟨u,⟨c,o',s,rfl,by rw[cell_of ka,fe,aaF e];rw[cell_of hc]at q2;exact q2⟩,u2⟩
theorem OE(hr:Rel cx ι st a w){o:Oper}{t:TypeId}{x v:Operand}{av:AV}{b wo wd i:Nat}{cells:List (Bool×List (List PV))}{op:Option Nat}(hn:nth .dead st.heap b=.pn wo wd cells op){c o' s:Nat}(hb:ι (.v b)=some (c,o',s))
 (ho:o.op=.store t x v) (hx:a.eval x=.pointer (some ⟨c,o'+i,none⟩)) (dp:RA w ι av (a.eval v)) (hs:bI cx.P t=some 1) (hd:∀t,o.dst=some t→cx.bw t=true) {k:St→Prop}
 (h:vpnst cx.E st b wo wd cells op i av (λst=>k (st.put o.dst .undef))) {Q:Exit→Act→World→Prop}:o.wp cx.P a w (Kc cx k) Q:=by
 generalize vm:a.eval v=vv at dp
 have run:∀(cs:Array Value) (ty:TypeId) (fz:Nat×Nat),w.heap[c]? =some (.cells cs ty fz)→kJ cs.size fz→o'+i+1≤cs.size→dP vv=true→vv.cells= #[vv]→
  (execOp a.eval o).run cx.P w=.ok .skip (bB w c (.cells (dD cs (o'+i) [vv]) ty fz)):=by
  intro cs ty fz hc ht u_ bA b0
  have h1:=nr (P:=cx.P) c (o'+i) ty fz [vv] 0 cs w hc (by simp;omega) ht (by simp[bA])
  simp only[Nat.add_zero]at h1
  simp only[execOp,ho,hx,vm,Instr.storeAt,Instr.sureAddr,Sem.run_bind,Sem.run_pure,Result.andThen_ok,storeVar,run_sizeOf hs,b0,ne_eq,adz,abm,ac8,List.length_singleton,h1]
  rfl
 unfold vpnst at h
 split at h
 ·rename_i b' w' i' len
  cases hw:(Nat.beq b' b&&Nat.beq w' wd)with
  |false=>rw[hw]at h;exact h.elim
  |true=>
   rw[hw]at h
   obtain⟨e1,e2⟩:=by simpa using hw
   subst e1;subst e2
   obtain⟨⟨rfl,du⟩,rows,hi,rfl,hk⟩:=h
   obtain⟨cs,ty,fz,hc,ht,hle,hm,hL⟩:=GR hr.mem hn hb hi du dp
   obtain⟨h1,h2,_⟩:=dp.sP
   exact nq (run cs ty fz hc ht hle h1 h2) ⟨ι,_,Rel.put (st:=⟨st.tmps,setNth st.heap b' (.pn wo w' cells none)⟩) ⟨hm,jd hL (λ_ _ h=>h) hr.tm,hr.sz,hr.df⟩ hd (.aE _),hk⟩
 ·rename_i m w' i0 len cap
  split at h
  ·rename_i w2 rows iF
   cases hw:(Nat.beq w' wd&&Nat.beq w2 wd&&!cx.E.fx m&&!Nat.beq m b)with
   |false=>rw[hw]at h;exact h.elim
   |true=>
    rw[hw]at h
    obtain⟨⟨⟨e1,e2⟩,vj⟩,jM⟩:=by simpa using hw
    subst e1;subst e2
    simp only[cond_true,na]at h
    obtain⟨⟨hl,du,aq⟩,hk⟩:=h
    have h_:b<st.heap.length:=hr.mem.hr.fO (by rw[hn];simp)
    have ha:Alike (nth .dead st.heap b) (.pn wo w2 (cells.set i (true,rows.drop i0)) (some i)) i w2 (rows.drop i0) false:=by rw[hn];exact Alike.pn aq du rfl
    obtain⟨aC,hm,hL,hv,⟨a7,hD⟩,BP⟩:=hr.mem.GG (λe=>by subst e;simp at jM) iF vj h_ dp hl ha (λh=>by cases h)
    rw[gJ]at hk
    let st1:St:=⟨killT m (killT (.h b i) st.tmps),setNth (setNth (killH m (killH (.h b i) st.heap)) m .dead) b (.pn wo w2 (cells.set i (true,rows.drop i0)) (some i))⟩
    have OF:b<(setNth (killH m (killH (.h b i) st.heap)) m .dead).length:=by rw[eA,abd,fc,fc];exact h_
    have nw:nth .dead st1.heap b=.pn wo w2 (cells.set i (true,rows.drop i0)) (some i):=by rw[da _ _ _ _ _ OF,aaG rfl]
    have yh:(cells.set i (true,rows.drop i0))[i]? =some (true,rows.drop i0):=by rw[aaZ,aaG rfl,aaG aq]
    have OG:(rows.drop i0).length=len:=by simp;omega
    rw[←OG]at hv
    obtain⟨cs,ty,fz,hc,ht,hle,jx,mj⟩:=GR (st:=st1) hm nw (a7.trans hb) yh (.inr rfl) hv
    obtain⟨h1,h2,_⟩:=hv.sP
    have e3:setNth st1.heap b (.pn wo w2 (cells.set i (true,rows.drop i0)) none)=setNth (setNth (killH m (killH (.h b i) st.heap)) m .dead) b (.pn wo w2 (cells.set i (true,rows.drop i0)) none):=BO _ _ _ _
    rw[e3]at jx
    exact nq (run cs ty fz hc ht hle h1 h2) ⟨aC,_,Rel.put (st:=⟨killT m (killT (.h b i) st.tmps),setNth (setNth (killH m (killH (.h b i) st.heap)) m .dead) b (.pn wo w2 (cells.set i (true,rows.drop i0)) none)⟩)
     ⟨jx,λs=>by rw[qF,qF];exact(BP _ _ (hr.tm s)).later mj (λ_ _ h=>h),hr.sz,by rw[hD];exact hr.df⟩ hd (.aE _),hk⟩
  ·exact h.elim
 ·exact h.elim
theorem OH(hr:Rel cx ι st a w){o:Oper}{t:TypeId}{x v:Operand}{av:AV}{b wo wd i r j:Nat}{cells:List (Bool×List (List PV))}{op:Option Nat}(hn:nth .dead st.heap b=.pn wo wd cells op){c o' s:Nat}(hb:ι (.h b i)=some (c,o',s))
 (ho:o.op=.store t x v) (hx:a.eval x=.pointer (some ⟨c,o'+(r*wd+j),none⟩)) (dp:RA w ι av (a.eval v)) (hs:bI cx.P t=some 1) (hd:∀t,o.dst=some t→cx.bw t=true) {k:St→Prop} {rows:List (List PV)} {row:List PV} {y:PV}
 (hi:cells[i]? =some (true,rows)) (bm:rows[r]? =some row) (hj:j<row.length) (hy:cellsOf av=[.p y])
 (h:k ((⟨st.tmps,setNth st.heap b (.pn wo wd (cells.set i (true,rows.set r (row.set j y))) op)⟩:St).put o.dst .undef)) {Q:Exit→Act→World→Prop}:o.wp cx.P a w (Kc cx k) Q:=by
 generalize vm:a.eval v=vv at dp
 have aZ:vok av=true:=by cases av<;>first|rfl|(simp[cellsOf]at hy)
 obtain⟨dA,dX⟩:=pE aZ dp
 rw[hy]at dA
 have dA:vv.cells.size=1:=dA
 obtain⟨bA,dB⟩:=dX 0 (.p y) (by rw[hy];rfl)
 have a_:(nth .dead st.heap b).inner i=some (wd,rows,!decide (op=some i)):=by rw[hn];simp[Blk.inner,hi]
 have h0:=hr.mem.hr.hid b i
 unfold HB at h0
 rw[a_,hb]at h0
 rcases h0.1 with⟨h1,_⟩|⟨c',o2,s2,cs,ty,fz,he,hc,ht,bM,hlen,cq,bn⟩
 ·cases h1
 cases he
 have pM:=cq r row bm
 have lH:r<rows.length:=(aaK.1 bm).1
 have GO:r*wd+wd≤rows.length*wd:=by
  have:=abl wd (show r+1≤rows.length from lH)
  rwa [aaU,abC]at this
 have mn:vv.cells.toList.length=1:=by simpa using dA
 have hbound:o'+(r*wd+j)+vv.cells.toList.length≤cs.size:=by omega
 have aT:(execOp a.eval o).run cx.P w=.ok .skip (bB w c (.cells (dD cs (o'+(r*wd+j)) vv.cells.toList) ty fz)):=by
  have h1:=nr (P:=cx.P) c (o'+(r*wd+j)) ty fz vv.cells.toList 0 cs w hc (by simp;omega) ht (λz hz=>by
   obtain⟨n,gx,rfl⟩:=acv hz
   have e:n=0:=by omega
   subst e
   simpa [show 0<vv.cells.size by omega]using bA)
  simp only[Nat.add_zero]at h1
  simp only[execOp,ho,hx,vm,Instr.storeAt,Instr.sureAddr,Sem.run_bind,Sem.run_pure,Result.andThen_ok,storeVar,run_sizeOf hs,dA,ne_eq,adz,abm,h1]
  rfl
 obtain⟨hm,hL⟩:=hr.mem.stay (blk:=.pn wo wd (cells.set i (true,rows.set r (row.set j y))) op) a_ (rows':=rows.set r (row.set j y)) (by rw[hn];exact Alike.OC hi) (by simp) hb
  (w':=bB w c (.cells (dD cs (o'+(r*wd+j)) vv.cells.toList) ty fz)) (λd z hd hz=>by rw[fg _ _ hd];exact hz) (by simp[bB]) ⟨rfl,rfl⟩ (λhL=>by
   have vn:fE w ι (dD cs (o'+(r*wd+j)) vv.cells.toList) o' (.pr wd (rows.set r (row.set j y))):=by
    refine⟨by rw[eN _ _ _ hbound,abd];omega,λn q hq=>?_,λn q m z hq hz=>?_⟩
    ·rw[aaZ]at hq
     split at hq
     ·cases hq;rw[abd];exact pM
     ·exact cq n q hq
    ·rw[ml _ _ _ hbound]
     rw[aaZ]at hq
     split at hq
     ·rename_i e
      subst e
      cases hq
      rw[aaZ]at hz
      by_cases e2:j=m
      ·subst e2
       rw[aaG rfl,aaG hj]at hz
       cases hz
       rw[aaG (by omega)]
       have g1:=gW dB
       refine⟨g1.pB bA,vv.cells.getD 0 undef,?_,g1⟩
       rw[acw]
       simp[show 0<vv.cells.size by omega]
      ·rw[aaF e2]at hz
       rw[aaF (by omega)]
       exact bn r row m z bm hz
     ·rename_i e
      have GP:m<wd:=by
       have:=(aaK.1 hz).1
       rw[cq n q hq]at this;exact this
      rw[aaF]
      ·exact bn n q m z hq hz
      ·rintro ⟨q1,q2⟩
       rcases adA e with h4|h4
       ·have:=abl wd (show r+1≤n from h4)
        rw[aaU,abC]at this
        omega
       ·have:=abl wd (show n+1≤r from h4)
        rw[aaU,abC]at this
        omega
   have:=(vn.later hL (λ_ _ h=>h)).rb (ty:=ty) (fz:=fz) (iG w c _ (aaW.1 hc).1) (by rw[eN _ _ _ hbound];exact ht)
   rw[eN _ _ _ hbound,bM]at this
   exact this)
 exact nq aT ⟨ι,_,Rel.put (st:=⟨st.tmps,setNth st.heap b (.pn wo wd (cells.set i (true,rows.set r (row.set j y))) op)⟩) ⟨hm,jd hL (λ_ _ h=>h) hr.tm,hr.sz,hr.df⟩ hd (.aE _),h⟩
theorem OI(hr:Rel cx ι st a w){o:Oper}{t:TypeId}{x v:Operand}{x' v':aS}{sz:Nat}(ho:o.op=.store t x v)(hx:cOpd x=some x')(hv:cOpd v=some v')
 (hs:bI cx.P t=some sz) (hd:∀t,o.dst=some t→cx.bw t=true) {k:St→Prop} (h:iA cx.E false (.store x' v' sz) o.dst st k)
 {Q:Exit→Act→World→Prop}:o.wp cx.P a w (Kc cx k) Q:=by
 have bN:=bt hr.mem.hr.gl hr.tm hx
 have dp:=bt hr.mem.hr.gl hr.tm hv
 replace h:vstore cx.E st (ev st x') (ev st v') sz (λst=>k (st.put o.dst .undef)):=dh (k:=λv=>vstore cx.E st (ev st x') v sz (λst=>k (st.put o.dst .undef))) (dh (k:=λa=>force (ev st v') λv=>vstore cx.E st a v sz (λst=>k (st.put o.dst .undef))) h)
 generalize ev st x'=ax at h bN
 generalize ev st v'=av at h dp
 unfold vstore at h
 split at h
 ·rename_i b wd i j
  split at h
  ·rename_i wo wi cells op hn
   cases hw:(Nat.beq wd wo&&Nat.beq sz 1)with
   |false=>rw[hw]at h;exact h.elim
   |true=>
    rw[hw]at h
    obtain⟨e1,e2⟩:=by simpa using hw
    subst e1;subst e2
    generalize vo:a.eval x=vx at bN
    cases bN
    rename_i c o' s hb
    exact OE hr hn hb ho vo dp hs hd h
  ·rename_i n arr cells hn
   split at h
   ·have hlen:arr.length=n:=by
     have:=hr.mem.hr.blk b
     rw[hn]at this
     exact this.1
    have aq:b<st.heap.length:=hr.mem.hr.fO (by rw[hn];simp)
    obtain⟨jH,gN,hk,fF,hc,he⟩:=OB hlen h
    have jx:=hr.mem.Oz hn
    let st2:St:=⟨st.tmps,setNth st.heap b (.mx (arr.map AV.p++cells))⟩
    have fh:Rel cx ι st2 a w:=⟨jx,hr.tm,hr.sz,hr.df⟩
    let k2:St→Prop:=λBQ=>∃T,BQ=(⟨st.tmps,T⟩:St).put o.dst .undef∧T=setNth st.heap b (.mx (jH.map AV.p++gN))
    have h2:vstore0 cx.E st2 (.ptr b wd 0 j) av sz (λst'=>k2 (st'.put o.dst .undef)):=by
     unfold vstore0
     simp only[st2,da _ _ _ _ _ aq,abu,hc,cond_true]
     rw[na,BO,he]
     exact⟨_,rfl,rfl⟩
    refine Oper.wp_mono ?_ (GN (k:=k2) fh ho bN dp hs hd h2)
    rintro a' w' ⟨aC,st',aV,T,rfl,rfl⟩
    refine⟨aC,_,?_,hk⟩
    have GS:=aV.mem
    rw[pt]at GS
    refine⟨by rw[pt];exact Mem.OA aq GS fF,λs=>?_,aV.sz,aV.df⟩
    have:=aV.tm s
    cases gk:o.dst with
    |none=>rw[gk]at this;exact this
    |some d=>rw[gk]at this;exact this
   ·exact h.elim
  ·exact GN hr ho bN dp hs hd h
 ·rename_i b wd i r j
  split at h
  ·rename_i wo wi cells op hn
   cases hw:(Nat.beq wd wi&&Nat.beq sz 1)with
   |false=>rw[hw]at h;exact h.elim
   |true=>
    rw[hw]at h
    obtain⟨e1,e2⟩:=by simpa using hw
    subst e1;subst e2
    obtain⟨rows,row,y,⟨h1,h2,h3⟩,h4,hk⟩:=h
    generalize vo:a.eval x=vx at bN
    cases bN
    rename_i c o' s hb
    exact OH hr hn hb ho vo dp hs hd h1 h2 h3 h4 hk
  ·exact h.elim
 ·exact h.elim
end
def jg(w:World)(M:Nat→Prop)(esz:Nat)(rows:List (List PV))(vs:List Value):Prop:=
 vs.length=rows.length*esz∧(∀(i:Nat) row,rows[i]? =some row→row.length=esz)∧
 ∀(i:Nat) row (j:Nat) x,rows[i]? =some row→row[j]? =some x→x.one=true∧∃u,vs[i*esz+j]? =some u∧RP w M x u
theorem qV{esz n i j:Nat}(hi:i<n)(hj:j<esz):i*esz+j<n*esz:=by
 have:=abl esz (show i+1≤n from hi)
 rw[aaU,abC]at this
 omega
theorem BR{esz n m:Nat}(h:m<n*esz):∃i j,i<n∧j<esz∧m=i*esz+j:=by
 have jh:0<esz:=by
  rcases adB esz with h0|h0
  ·subst h0;simp at h
  ·exact h0
 refine⟨m / esz,m%esz,?_,acS _ jh,?_⟩
 ·exact Nat.div_lt_of_lt_mul (by rwa [adC])
 ·rw[adC];exact(Nat.div_add_mod m esz).symm
theorem jg.one{w:World}{M:Nat→Prop}{esz:Nat}{rows:List (List PV)}{vs:List Value}(h:jg w M esz rows vs):∀v∈vs,dP v=true:=by
 intro v hv
 obtain⟨m,hm,rfl⟩:=acv hv
 obtain⟨i,j,hi,hj,rfl⟩:=BR (by rw[←h.1];exact hm)
 have bm:=aaI hi
 have hl:=h.2.1 i _ bm
 have hx:rows[i][j]? =some rows[i][j]:=aaI (by omega)
 obtain⟨h1,u,h2,h3⟩:=h.2.2 i _ j _ bm hx
 rw[aaI hm]at h2
 cases h2
 exact h3.sv h1
theorem jg.append{w:World}{M:Nat→Prop}{esz:Nat}{r1 r2:List (List PV)}{v1 v2:List Value}(h1:jg w M esz r1 v1)(h2:jg w M esz r2 v2):
 jg w M esz (r1++r2) (v1++v2):=by
 refine⟨by simp[h1.1,h2.1,aaU],λi row hi=>?_,λi row j x hi hx=>?_⟩
 ·rw[abw]at hi
  split at hi
  ·exact h1.2.1 _ _ hi
  ·exact h2.2.1 _ _ hi
 ·rw[abw]at hi
  split at hi
  ·rename_i aq
   obtain⟨a,u,b,c⟩:=h1.2.2 i row j x hi hx
   refine⟨a,u,?_,c⟩
   rw[aa9]
   ·exact b
   ·exact(aaK.1 b).1
  ·rename_i dG
   obtain⟨a,u,b,c⟩:=h2.2.2 _ row j x hi hx
   refine⟨a,u,?_,c⟩
   have e:i*esz+j=v1.length+((i - r1.length)*esz+j):=by
    rw[h1.1,←aaX,←aaU]
    congr 2;omega
   rw[e,abe (by omega)]
   rw[←b];congr 1;omega
theorem jg.blk{w:World}{ι:az}{esz:Nat}{rows:List (List PV)}{vs:List Value}(h:jg w ι.M esz rows vs)(rest:List Value):
 fE w ι (vs++rest).toArray 0 (.pr esz rows):=by
 refine⟨by simp[h.1],h.2.1,λi row j x hi hx=>?_⟩
 obtain⟨h1,u,h2,h3⟩:=h.2.2 i row j x hi hx
 refine⟨h1,u,?_,h3⟩
 have:=(aaK.1 h2).1
 simp only[aaL,abW]
 rw[aa9 this];exact h2
section
variable {cx:Cx} {ι bV:az} {st:St} {a:Act} {w:World}
theorem oc.eZ{v:Value}{esz:Nat}{rows:List (List PV)}(h:oc w ι.M v esz rows):∃vs,jg w ι.M esz rows vs∧
 ∀(P:Program) n (w':World),n≤rows.length→Ext w w'→(Builtin.firstCells esz n v).run P w'=.ok (vs.take (n*esz)).toArray w':=by
 obtain⟨oa,cap,rfl,h⟩:=h
 rcases h with rfl|⟨ad,rfl,hs,bm⟩
 ·refine⟨[],⟨by simp,by simp,by simp⟩,λP n w' hn _=>?_⟩
  have:n=0:=by simpa using hn
  subst this
  cases oa<;>simp[Builtin.firstCells,loadCells,loadCellsFrom]
 ·have bn:∀m,m<rows.length*esz→∃v x,w.cell? ⟨ad.block,ad.off+m,none⟩=some v∧RP w ι.M x v∧x.one=true:=by
   intro m hm
   obtain⟨i,j,hi,hj,rfl⟩:=BR hm
   obtain⟨h1,h2⟩:=bm i _ (aaI hi)
   obtain⟨h3,v,h4,h5⟩:=h2 j _ (aaI (by omega))
   exact⟨v,_,by rw[←aaX];exact h4,h5,h3⟩
  refine⟨(List.range (rows.length*esz)).map λm=>(w.cell? ⟨ad.block,ad.off+m,none⟩).getD undef,⟨by simp,λi row hi=>(bm i row hi).1,λi row j x hi hx=>?_⟩,λP n w' hn bP=>?_⟩
  ·obtain⟨h1,h2⟩:=bm i row hi
   obtain⟨h3,v,h4,h5⟩:=h2 j x hx
   have bp:=(aaK.1 hi).1
   have dZ:j<esz:=by rw[←h1];exact(aaK.1 hx).1
   refine⟨h3,v,?_,h5⟩
   rw[aaX]at h4
   simp[qV bp dZ,h4]
  ·have hle:n*esz≤rows.length*esz:=abl _ hn
   simp only[Builtin.firstCells]
   rw[run_loadCells (P:=P) w' ad (n*esz) (λm=>(w.cell? ⟨ad.block,ad.off+m,none⟩).getD undef) (λm hm=>by
    obtain⟨v,x,h1,_⟩:=bn m (by omega)
    rw[xR hs,bP.cell h1,h1];rfl)]
   rw[←ac6,List.take_range,ab6 hle]
theorem vq(hr:Rel cx ι st a w){d:Option Nat}(hd:∀t,d=some t→cx.bw t=true){w':World}{cs:Array Value}{ty:TypeId}{fz:Nat×Nat}{blk:Blk}{av:AV}{v:Value}{k:St→Prop}{q:Bool}
 (bP:w'.heap=w.heap.push (.cells cs ty fz)) (dj:w'.os=w.os∧w'.output=w.output) (ht:kJ cs.size fz)
 (hb:fE w ι cs 0 blk) (hv:∀(aC:az),aC st.heap.length=some (w.heap.size,0,cs.size)→RA w' aC av v) (hk:k (iW st d av blk)):
 g_ cx q w k (a.put d v) w':=by
 have hold:∀(d:Nat) (x:Obj),w.heap[d]? =some x→w'.heap[d]? =some x:=λd x hx=>by
  rw[bP];exact j7 w _ d x hx
 have jf:w'.heap[w.heap.size]? =some (.cells cs ty fz):=by rw[bP];exact nn w _
 obtain⟨hm,hL,bh⟩:=hr.mem.lay (w':=w') (c:=w.heap.size) (o:=0) (s:=cs.size) (blk:=blk) (aaJ _) hold dj
  (λhL bh=>(hb.later hL bh).rb jf ht) (λl r e=>by subst e;exact hb) hb.bare
 refine⟨⟨_,_,⟨?_,sB (st:=⟨st.tmps,st.heap++[blk]⟩) (jd hL bh hr.tm) hr.sz.1 (λt ht=>cx.eI t (hd t ht)) (hv _ (az.oo _ _ _)),Sz.put hr.sz hd _,by rw[Act.sA];exact hr.df⟩,hk⟩,λ_=>hold⟩
 rw[pt];exact hm
theorem OJ{l:List (Nat×Operand)}{n:Nat}{ops:List aS}(h:sE n l=some ops):ops.length=l.length∧cOpds (l.map (·.2))=some ops∧∀(i:Nat) p,l[i]? =some p→p.1=n+i:=by
 induction l generalizing n ops with
 |nil=>simp[sE]at h;subst h;simp[cOpds]
 |cons p r ih=>
  obtain⟨i,x⟩:=p
  simp only[sE]at h
  split at h
  ·rename_i e
   subst e
   split at h
   ·rename_i y l h1 h2
    cases h
    obtain⟨g1,g2,g3⟩:=ih h2
    refine⟨by simp[g1],by simp[cOpds,h1,g2],λi p hp=>?_⟩
    cases i with
    |zero=>simp at hp;subst hp;rfl
    |succ i=>simp at hp;rw[g3 i p hp];omega
   ·cases h
  ·cases h
theorem GU{esz:Nat}:∀(parts:List (Nat×Value)) (n:Nat) (cells:Array Value),(∀(i:Nat) p,parts[i]? =some p→p.1=n+i)→(∀p∈parts,p.2.cells.size=esz)→
 (n+parts.length)*esz≤cells.size→
 ∃gN,Instr.fill (λi=>some (i*esz,esz)) cells parts=some gN∧gN.size=cells.size∧(∀m,m<n*esz→gN[m]? =cells[m]?)∧
  ∀(i:Nat) p (j:Nat),parts[i]? =some p→j<esz→gN[(n+i)*esz+j]? =p.2.cells[j]?
 |[],n,cells,_,_,_=>⟨cells,rfl,rfl,λ_ _=>rfl,by simp⟩
 |(i0,v)::r,n,cells,h1,h2,h3=>by
  have e0:i0=n:=by simpa using h1 0 (i0,v) rfl
  subst e0
  have hv:v.cells.size=esz:=h2 (i0,v) (by simp)
  have hlen:(i0+1+r.length)*esz≤cells.size:=by simp at h3;rw[show i0+1+r.length=i0+(r.length+1) by omega];exact h3
  have Zw:i0*esz+esz≤cells.size:=by
   have:=abl esz (show i0+1≤i0+1+r.length by omega)
   rw[aaU,abC]at this;omega
  obtain⟨gN,g1,g2,g3,g4⟩:=GU r (i0+1) (v.cells.zipIdx.foldl (λcs (c,j)=>cs.setIfInBounds (i0*esz+j) c) cells)
   (λi p hp=>by have:=h1 (i+1) p (by simpa using hp);omega) (λp hp=>h2 p (by simp[hp])) (by rw[sI,Bj];exact hlen)
  refine⟨gN,?_,by rw[g2,sI,Bj],λm hm=>?_,λi p j hp hj=>?_⟩
  ·simp only[Instr.fill]
   rw[aaF]
   ·exact g1
   ·simp only[ack,aa7,not_or]
    exact⟨by simp[hv],by omega⟩
  ·rw[g3 m (by rw[aaU];omega),sI,Bi,aaF (by omega)]
  ·cases i with
   |zero=>
    simp at hp;subst hp
    have e2:(i0+1)*esz=i0*esz+esz:=by rw[aaU,abC]
    rw[Nat.add_zero,g3 _ (by omega),sI,Bi,aaG (by simp[hv];omega)]
    simp
   |succ i=>
    have:=g4 i p j (by simpa using hp) hj
    rw[show i0+(i+1)=i0+1+i by omega];exact this
theorem OK{x:AV}{k:St→List PV→Prop}(h:ph cx.E st (cellsOf x) k):vok x=true:=by
 cases x<;>first|rfl|exact h.elim
theorem GV{val:Nat→Value}:∀(xs:List AV) (n:Nat) {ι:az} {st:St} (hr:Rel cx ι st a w) (hf:jN bV ι st.heap)
 (hx:∀(i:Nat) x,xs[i]? =some x→RA w bV x (val (n+i))) {k:St→List (List PV)→Prop} (h:xA cx.E st xs k),
 ∃aC st' rows,k st' rows∧Rel cx aC st' a w∧rows.length=xs.length∧
  (∀(i:Nat) row,rows[i]? =some row→row.length=(val (n+i)).cells.size∧∀(j:Nat) y,row[j]? =some y→y.one=true∧RP w aC.M y ((val (n+i)).cells.getD j undef))∧
  jN bV aC st'.heap∧bc ι.M w w aC.M
 |[],n,ι,st,hr,hf,hx,k,h=>⟨ι,st,[],h,hr,rfl,by simp,hf,bc.refl _ _⟩
 |x::r,n,ι,st,hr,hf,hx,k,h=>by
  have h:ph cx.E st (cellsOf x) (λst row=>xA cx.E st r λst rows=>k st (row::rows)):=GM h
  have aZ:=OK h
  obtain⟨dA,dX⟩:=pE aZ (hx 0 x rfl)
  obtain⟨b9,st1,row,h1,bG,cd,BK,ox,sQ⟩:=BJ (val:=λj=>(val (n+0)).cells.getD j undef) (cellsOf x) 0 hr hf (λi y hy=>by simpa using (dX i y hy).2) h
  obtain⟨bX,st2,rows,h2,fh,dH,sR,BL,mj⟩:=GV r (n+1) bG ox (λi x hi=>by
   have:=hx (i+1) x (by simpa using hi)
   rw[aaX,acu 1 i];exact this) h1
  refine⟨bX,st2,row::rows,h2,fh,by simp[dH],λi z hz=>?_,BL,⟨λ_ _ _ h=>h,λc hc=>?_,aaJ _⟩⟩
  ·cases i with
   |zero=>
    simp at hz;subst hz
    refine⟨by rw[cd];exact dA.symm,λj y hy=>?_⟩
    have g1:=BK j y hy
    simp only[aaL]at g1
    have aq:j<(cellsOf x).length:=by rw[←cd];exact(aaK.1 hy).1
    have g2:=(dX j _ (aaI aq)).1
    exact⟨g1.pB g2,g1.later mj⟩
   |succ i=>
    have:=sR i z (by simpa using hz)
    rw[aaX,acu 1 i]at this;exact this
  ·rcases mj.new c hc with h3|h3
   ·exact sQ.new c h3
   ·exact .inr h3
theorem OM(hr:Rel cx ι st a w){o:Oper}{t e:TypeId}{len esz:Nat}{parts:Array (Nat×Operand)}{ops:List aS}(ho:o.op=.buildSlice t len parts)
 (hu:cx.P.underlying t=some (.slice e)) (hs:bI cx.P e=some esz) (hp:sE 0 parts.toList=some ops) (hlen:ops.length=len) (Zx:len*esz≤2^24) (jh:0<esz)
 (hz:(zeroT cx.P e).isSome=true) (hd:∀t,o.dst=some t→cx.bw t=true) {q:Bool} {k:St→Prop} (h:iA cx.E q (.xp esz ops) o.dst st k)
 {Q:Exit→Act→World→Prop}:o.wp cx.P a w (g_ cx q w k) Q:=by
 obtain⟨d1,d2,d3⟩:=OJ hp
 obtain⟨e1,e2⟩:=xS hr.mem.hr.gl hr.tm d2
 obtain⟨z,hz⟩:=adW.1 hz
 obtain⟨i0,v0,fQ,nh,_,_,ov⟩:=qK (w:=w) (ι:=ι) hz
 obtain⟨aC,st',rows,⟨cq,hk⟩,aV,fF,sH,hf,hL⟩:=GV (val:=λi=>((parts.toList.map (·.2)).map a.eval).toArray.getD i undef) (evL st ops) 0 hr (jN.refl _ _) (λi x hx=>by simpa using e2 i x hx) h
 have hn:rows.length=len:=by rw[fF,e1];simp at d1 ⊢;omega
 let pv:List (Nat×Value):=parts.toList.map λp=>(p.1,a.eval p.2)
 have kP:pv.length=len:=by simp[pv];simp at d1;omega
 have d_:∀i p,pv[i]? =some p→((parts.toList.map (·.2)).map a.eval).toArray.getD i undef=p.2:=λi p hp=>by
  have h1:((parts.toList.map (·.2)).map a.eval)[i]? =some p.2:=by
   simp only[pv,aaM]at hp ⊢
   obtain⟨x,hx,rfl⟩:=aaO.1 hp
   rw[hx];rfl
  simp only[ab5,abW,h1,Option.getD_some]
 have bM:∀p∈pv,p.2.cells.size=esz:=λp hp=>by
  obtain⟨i,hi,rfl⟩:=acv hp
  have g:=d_ i _ (aaI hi)
  have bp:i<rows.length:=by rw[hn,←kP];exact hi
  have:=(sH i _ (aaI bp)).1
  simp only[aaL]at this
  rw[g]at this
  rw[←this];exact cq _ (abA bp)
 obtain⟨gN,g1,g2,g3,g4⟩:=GU (esz:=esz) pv 0 ((Array.range (len*esz)).map λi=>(if len*esz=0 then(#[]:Array Value)else v0.cells)[i%(if len*esz=0 then(#[]:Array Value)else v0.cells).size]!)
  (λi p hp=>by
   simp only[pv,aaM]at hp
   obtain⟨x,hx,rfl⟩:=aaO.1 hp
   exact d3 i x hx) bM (by simp[kP])
 have aT:(execOp a.eval o).run cx.P w=.ok (.value (.slice (some ⟨w.heap.size,0,none⟩) len len)) (dC w (.cells gN e)):=by
  have yi:Instr.fill (λi=>some (i*esz,esz)) ((Array.range (len*esz)).map λi=>(if len*esz=0 then(#[]:Array Value)else v0.cells)[i%(if len*esz=0 then(#[]:Array Value)else v0.cells).size]!)
   (parts.map λ(i,x)=>(i,a.eval x)).toList=some gN:=by
   rw[←g1];simp[pv]
  by_cases h0:len*esz=0
  ·simp only[h0,abu]at yi
   simp only[execOp,ho,Instr.buildSlice,Sem.run_bind,run_underlying hu,Result.andThen_ok,run_sizeOf hs,h0,abu,Sem.run_pure,yi,newRow,run_newObj,gt_iff_lt,ab_,abm]
   rfl
  ·simp only[h0,abm]at yi
   simp only[execOp,ho,Instr.buildSlice,Sem.run_bind,run_underlying hu,Result.andThen_ok,run_sizeOf hs,aaF (show ¬len*esz>2^24 by omega),h0,abm,Sem.run_pure,od fQ nh,yi,newRow,run_newObj]
   rfl
 have vt:jg w aC.M esz rows gN.toList:=by
  refine⟨by simp[g2,hn],λi row hi=>cq _ (aaY hi),λi row j x hi hx=>?_⟩
  obtain⟨q1,q2⟩:=sH i row hi
  obtain⟨q3,q4⟩:=q2 j x hx
  have bp:i<pv.length:=by rw[kP,←hn];exact(aaK.1 hi).1
  have dZ:j<esz:=by rw[←cq _ (aaY hi)];exact(aaK.1 hx).1
  have g5:=g4 i _ j (aaI bp) dZ
  have g6:=d_ i _ (aaI bp)
  simp only[aaL]at q4 g5
  rw[g6]at q4
  have ON:=bM _ (abA bp)
  refine⟨q3,pv[i].2.cells.getD j undef,?_,q4⟩
  rw[ac2,g5]
  simp[ON,dZ]
 have hb:=vt.blk []
 simp only[abF,Array.toArray_toList]at hb
 obtain⟨OO,jv⟩:=vq (q:=q) aV hd (w':=dC w (.cells gN e)) (fz:=(0,0)) rfl ⟨rfl,rfl⟩ (λo _ h=>by omega) hb
  (av:=.sl st'.heap.length esz 0 rows.length (some rows.length)) (v:=.slice (some ⟨w.heap.size,0,none⟩) len len) (λbX h2=>by
   have:=RA.sl (w:=dC w (.cells gN e)) (ι:=bX) (wd:=esz) (i:=0) (len:=len) (cc:=len) (cap:=some len) h2 (aaJ _) (λk hk=>by cases hk;rfl) (by simp[g2])
   simpa [hn]using this) hk
 exact dN aT ⟨OO,jv⟩
end
section
variable {cx:Cx} {ι bV:az} {st:St} {a:Act} {w:World}
theorem GW{z:List PV}{v:Value}{esz:Nat}(hz:∀(i:Nat) x,z[i]? =some x→x.one=true∧RP w ι.M x (v.cells.getD i undef))(hs:v.cells.size=z.length)(hl:z.length=esz)(m:Nat):
 jg w ι.M esz (List.replicate m z) ((List.range (m*esz)).map λi=>v.cells[i%v.cells.size]!):=by
 refine⟨by simp,λi row hi=>?_,λi row j x hi hx=>?_⟩
 ·rw[ab1]at hi
  split at hi
  ·cases hi;exact hl
  ·cases hi
 ·rw[ab1]at hi
  split at hi
  ·rename_i aq
   cases hi
   obtain⟨h1,h2⟩:=hz j x hx
   have hj:j<esz:=by rw[←hl];exact(aaK.1 hx).1
   refine⟨h1,v.cells.getD j undef,?_,h2⟩
   rw[aaM,abo (qV aq hj)]
   have OP:(i*esz+j)%v.cells.size=j:=by
    rw[hs,hl,adC,Nat.mul_add_mod,adD hj]
   have dZ:j<v.cells.size:=by omega
   simp[OP,dZ]
  ·cases hi
theorem GX{n:Int}(h0:0≤n)(h1:n<9223372036854775808):IntKind.i64.wrap n=n:=by
 unfold IntKind.wrap IntKind.signed IntKind.bits
 simp
 omega
theorem OQ(hr:Rel cx ι st a w){o:Oper}{t e:TypeId}{l c:Operand}{l' c':aS}{z:List PV}{esz bytes:Nat}(ho:o.op=.makeSlice t l c)
 (hu:cx.P.underlying t=some (.slice e)) (hl:cOpd l=some l') (hc:cOpd c=some c') (hz:zeroT cx.P e=some z) (hs:bI cx.P e=some esz) (hb:qH cx.P e=some bytes)
 (nA:z.length=esz) (jh:0<esz) (hd:∀t,o.dst=some t→cx.bw t=true) {q:Bool} {k:St→Prop} (h:iA cx.E q (.xq z esz bytes l' c') o.dst st k)
 {Q:Exit→Act→World→Prop}:o.wp cx.P a w (g_ cx q w k) Q:=by
 have sU:=bt hr.mem.hr.gl hr.tm hl
 have dX:=bt hr.mem.hr.gl hr.tm hc
 obtain⟨i0,v0,fQ,nh,_,qR,ov⟩:=qK (w:=w) (ι:=ι) hz
 have gZ:i0.bytes=bytes:=by unfold qH at hb;rw[fQ]at hb;simpa using hb
 have h:A1 z esz bytes o.dst st (ev st l') (ev st c') k:=h
 generalize ev st l'=al at h sU
 generalize ev st c'=ac at h dX
 unfold A1 at h
 split at h
 ·rename_i k1 n k2 m
  obtain⟨⟨h0,h1,h2,h3⟩,h⟩:=h
  have e1:=jI sU
  have e2:=jI dX
  unfold cK at h2 h3
  have w1:IntKind.i64.wrap n=n:=GX h0 (by omega)
  have w2:IntKind.i64.wrap m=m:=GX (by omega) (by omega)
  have vt:=GW (w:=w) (ι:=ι) qR ov nA n.toNat
  have dA:(m.toNat*esz=0→m.toNat=0):=λh=>by
   rcases Nat.mul_eq_zero.1 h with h|h
   ·exact h
   ·omega
  have Zy:¬((bytes:Int)*m>2^48):=by
   rw[Int.mul_comm];omega
  have aT:(execOp a.eval o).run cx.P w=.ok (.value (.slice (some ⟨w.heap.size,0,none⟩) n.toNat m.toNat))
   (dC w (.cells ((List.range (m.toNat*esz)).map λi=>v0.cells[i%v0.cells.size]!).toArray e)):=by
   have ha:((Array.range (m.toNat*esz)).map λi=>v0.cells[i%v0.cells.size]!)=((List.range (m.toNat*esz)).map λi=>v0.cells[i%v0.cells.size]!).toArray:=by
    apply abt;simp
   have eO:¬(((m<0∨281474976710656<(bytes:Int)*m)∨n<0)∨m<n):=by omega
   by_cases hz:m.toNat*esz=0
   ·have gV:=dA hz
    simp[execOp,ho,Instr.makeSlice,run_underlying hu,e1,e2,asInt,asIntOf,run_typeInfo fQ,gZ,w1,w2,run_sizeOf hs,newRow,gV]
    rw[aaF eO]
    have em:(Array.map (λ_=>(default:Value)) (Array.range 0))= #[]:=by apply abt;simp
    rw[em];rfl
   ·simp[execOp,ho,Instr.makeSlice,run_underlying hu,e1,e2,asInt,asIntOf,run_typeInfo fQ,gZ,w1,w2,run_sizeOf hs,newRow,hz,od fQ nh,ha]
    rw[aaF eO]
    rfl
  have hblk:=vt.blk ((List.range' (n.toNat*esz) (m.toNat*esz - n.toNat*esz)).map λi=>v0.cells[i%v0.cells.size]!)
  have iF:n.toNat*esz≤m.toNat*esz:=abl _ (by omega)
  rw[←abb,acH (n:=n.toNat*esz),show List.range' 0 (n.toNat*esz)++List.range' (n.toNat*esz) (m.toNat*esz - n.toNat*esz)=List.range (m.toNat*esz) by
   have:=List.range'_append_1 (s:=0) (m:=n.toNat*esz) (n:=m.toNat*esz - n.toNat*esz)
   rw[aaL]at this
   rw[this,acH]
   congr 1;omega]at hblk
  refine dN aT (vq (q:=q) hr hd rfl ⟨rfl,rfl⟩ (λo _ h=>by omega) hblk (λbX h4=>?_) h)
  have:=RA.sl (w:=dC w (.cells ((List.range (m.toNat*esz)).map λi=>v0.cells[i%v0.cells.size]!).toArray e)) (ι:=bX) (wd:=esz) (i:=0) (len:=n.toNat) (cc:=m.toNat) (cap:=some m.toNat) h4
   (by omega) (λk hk=>by cases hk;rfl) (by simp)
  simpa using this
 ·exact h.elim
theorem OR(hr:Rel cx ι st a w){o:Oper}{s t e:TypeId}{x:Operand}{x':aS}(ho:o.op=.convert s t x)
 (hs:cx.P.underlying s=some .string) (ht:cx.P.underlying t=some (.slice e)) (he:cx.P.underlying e=some (.int .u8)) (hx:cOpd x=some x')
 (hd:∀t,o.dst=some t→cx.bw t=true) {q:Bool} {k:St→Prop} (h:iA cx.E q (.bytesOf x') o.dst st k)
 {Q:Exit→Act→World→Prop}:o.wp cx.P a w (g_ cx q w k) Q:=by
 have bN:=bt hr.mem.hr.gl hr.tm hx
 have h:A2 o.dst st (ev st x') k:=h
 generalize ev st x'=ax at h bN
 unfold A2 at h
 split at h
 ·rename_i l
  have ex:=pz bN
  obtain⟨cap,aR,jO⟩:∃cap,l.length≤cap∧(choose (.appendCap l.length 0 e)).run cx.P w=.ok cap {w with drawn:=w.drawn+1}:=
   ⟨l.length+w.tape w.drawn (.appendCap l.length 0 e)%(2^63 - l.length),by omega,by simp only[run_choose,Question.forced,abP,abm,Question.cut]⟩
  let cs:Array Value:=(l.map λb=>(Value.int .u8 b.toNat)).toArray++Array.replicate (cap - l.length) (.int .u8 0)
  have dA:cs.size=cap:=by simp[cs];omega
  let w':World:={w with drawn:=w.drawn+1,heap:=w.heap.push (.cells cs e (cap,cap+1))}
  have aT:(execOp a.eval o).run cx.P w=.ok (.value (.slice (some ⟨w.heap.size,0,none⟩) l.length cap)) w':=by
   have e1:(⟨⟨l⟩⟩:ByteArray).size=l.length:=rfl
   have e2:((⟨⟨l⟩⟩:ByteArray).data.map λb=>(Value.int .u8 b.toNat))=(l.map λb=>(Value.int .u8 b.toNat)).toArray:=by
    apply abt;simp
   have e3:({w with drawn:=w.drawn+1,heap:=w.heap.push (.cells cs e)}:World).shape? w.heap.size=some (e,cap):=by
    simp[World.shape?,dA]
   have e4:({w with drawn:=w.drawn+1,heap:=w.heap.push (.cells cs e)}:World).freeze ⟨w.heap.size,cap,none⟩ 1=w':=by
    simp only[World.freeze,w']
    rw[aaF (by omega)]
    congr 1
    apply ady
    intro j
    rw[acg]
    by_cases ej:w.heap.size=j
    ·subst ej;simp
    ·rw[aaF ej]
     by_cases aq:j<w.heap.size
     ·rw[acs aq,acs aq]
     ·rw[abV (by simp;omega),abV (by simp;omega)]
   simp only[execOp,ho,ex,convert,Sem.run_bind,run_underlying hs,run_underlying ht,run_underlying he,Result.andThen_ok,Conv.stringToBytes,e1,jO,e2,newRow,run_newObj,Sem.run_pure,markStringish,run_shape]
   have e5:({w with drawn:=w.drawn+1,heap:=w.heap.push (.cells ((l.map λb=>(Value.int .u8 b.toNat)).toArray++Array.replicate (cap - l.length) (.int .u8 0)) e)}:World).shape? w.heap.size=some (e,cap):=e3
   simp only[e5,run_freeze,Result.andThen_ok]
   exact aaH (Result.ok _) e4
  have vt:jg w ι.M 1 (l.map fY) (l.map λb=>(Value.int .u8 b.toNat)):=by
   refine⟨by simp,λi row hi=>?_,λi row j x hi hx=>?_⟩
   ·simp at hi;obtain⟨b,_,rfl⟩:=hi;rfl
   ·simp at hi
    obtain⟨b,hb,rfl⟩:=hi
    cases j with
    |zero=>simp[fY]at hx;subst hx;exact⟨rfl,.int .u8 b.toNat,by simp[hb],.int _ _⟩
    |succ j=>simp[fY]at hx
  have hblk:=vt.blk (List.replicate (cap - l.length) (Value.int .u8 0))
  have OT:((l.map λb:UInt8=>(Value.int .u8 b.toNat))++List.replicate (cap - l.length) (Value.int .u8 0)).toArray=cs:=by
   apply abt;simp[cs]
  rw[OT]at hblk
  refine dN aT (vq (q:=q) hr hd (fz:=(cap,cap+1)) rfl ⟨rfl,rfl⟩ (λo Zz h=>by omega) hblk (λbX h4=>?_) h)
  have:=RA.sl (w:=w') (ι:=bX) (wd:=1) (i:=0) (len:=l.length) (cc:=cap) (cap:=none) h4 aR (by simp) (by omega)
  simpa using this
 ·exact h.elim
end
structure Src(w:World)(M:Nat→Prop)(v:Value)(esz:Nat)(rows:List (List PV))(vs:List Value):Prop where
 eZ:jg w M esz rows vs
 len:∀(P:Program) (w':World),(Builtin.lenOf v).run P w'=.ok rows.length w'
 first:∀(P:Program) n (w':World),n≤rows.length→Ext w w'→(Builtin.firstCells esz n v).run P w'=.ok (vs.take (n*esz)).toArray w'
section
variable {cx:Cx} {ι bV:az} {st:St} {a:Act} {w:World}
theorem oc.src{v:Value}{esz:Nat}{rows:List (List PV)}(h:oc w ι.M v esz rows):∃vs,Src w ι.M v esz rows vs:=by
 obtain⟨vs,h1,h2⟩:=h.eZ
 obtain⟨oa,cap,rfl,_⟩:=h
 exact⟨vs,h1,λP w'=>rfl,h2⟩
theorem oy{h:List Blk}(hr:bL ι h w){x:AV}{v:Value}(hx:RA w ι x v){esz:Nat}{k:List (List PV)→Prop}(hv:lv h x esz k):
 ∃rows vs,k rows∧Src w ι.M v esz rows vs:=by
 obtain⟨rows,hk,h⟩:=NL hr hx hv
 rcases h with⟨l,rfl,rfl,rfl,rfl⟩|h
 ·refine⟨_,l.map λb=>.int .u8 b.toNat,hk,⟨by simp,λi row hi=>?_,λi row j x hi hx=>?_⟩,λP w'=>?_,λP n w' hn _=>?_⟩
  ·simp at hi;obtain⟨b,_,rfl⟩:=hi;rfl
  ·simp at hi
   obtain⟨b,hb,rfl⟩:=hi
   cases j with
   |zero=>simp[fY]at hx;subst hx;exact⟨rfl,.int .u8 b.toNat,by simp[hb],.int _ _⟩
   |succ j=>simp[fY]at hx
  ·simp[Builtin.lenOf];rfl
  ·simp only[Builtin.firstCells,F6,Sem.run_pure]
   congr 1
   apply abt
   simp[ac6]
 ·obtain⟨vs,hs⟩:=h.src
  exact⟨rows,vs,hk,hs⟩
theorem GY(nB:Nat)(hn:256≤nB):∀(r c:Nat),c≤2*nB→Builtin.growBy nB r c≤2*nB
 |0,c,h=>h
 |r+1,c,h=>by
  simp only[Builtin.growBy]
  split
  ·exact h
  ·exact GY nB hn r _ (by omega)
theorem nextslicecap_le{nB old:Nat}(h:old<nB):Builtin.nextslicecap nB old≤2*nB:=by
 unfold Builtin.nextslicecap
 split
 ·omega
 ·split
  ·omega
  ·exact GY nB (by omega) _ _ (by omega)
theorem BS{P:Program}{sT xT ty e:TypeId}{esz bytes sLen sCap n:Nat}{z:List PV}{base:Option Addr}{x:Value}{old new:List Value}
 (hu:P.underlying sT=some (.slice e)) (kQ:(∃e',P.underlying xT=some (.slice e'))∨P.underlying xT=some .string) (hs:bI P e=some esz) (hb:qH P e=some bytes) (hz:zeroT P e=some z) (nA:z.length=esz) (jh:0<bytes)
 (hlen:∀w',(Builtin.lenOf x).run P w'=.ok n w') (hold:∀w',Ext w w'→(Builtin.firstCells esz sLen (.slice base sLen sCap)).run P w'=.ok old.toArray w') (qW:old.length=sLen*esz)
 (eD:∀w',Ext w w'→(Builtin.firstCells esz n x).run P w'=.ok new.toArray w') (dR:new.length=n*esz)
 (iH:sCap<sLen+n) (gO:(sLen+n)*bytes≤cK):
 ∃(w':World) (cap:Nat) (rest:List Value),sLen+n≤cap∧w'.heap=w.heap.push (.cells (old++new++rest).toArray e (0,0))∧(w'.os=w.os∧w'.output=w.output)∧(old++new++rest).length=cap*esz∧
  (Builtin.append_ #[sT,xT] ty #[.slice base sLen sCap,x]).run P w=.ok (.slice (some ⟨w.heap.size,0,none⟩) (sLen+n) cap) w':=by
 obtain⟨i0,v0,fQ,nh,_,_,ov⟩:=qK (w:=w) (ι:=⟨λ_=>none,λ_=>False,λ_=>False,[],False⟩) hz
 have gZ:i0.bytes=bytes:=by unfold qH at hb;rw[fQ]at hb;simpa using hb
 let w1:World:={w with drawn:=w.drawn+1}
 have jv:Ext w w1:=λc o h=>h
 obtain⟨cap,aR,jO⟩:∃cap,sLen+n≤cap∧(choose (.appendCap (sLen+n) sCap e)).run P w=.ok cap w1:=
  ⟨sLen+n+w.tape w.drawn (.appendCap (sLen+n) sCap e)%(2^63 - (sLen+n)),by omega,by simp only[run_choose,Question.forced,abP,abm,Question.cut];rfl⟩
 let rest:List Value:=((List.range ((cap - (sLen+n))*v0.cells.size)).map λi=>v0.cells[i%v0.cells.size]!)
 have pF:Builtin.zeroCells v0.cells (cap - (sLen+n))=rest.toArray:=by
  apply abt;simp[Builtin.zeroCells,rest]
 have GZ:¬(Builtin.nextslicecap (sLen+n) sCap*bytes>2^48):=by
  have h1:=nextslicecap_le iH
  have h2:=abl bytes h1
  rw[Nat.mul_assoc]at h2
  unfold cK at gO
  omega
 refine⟨{w1 with heap:=w.heap.push (.cells (old++new++rest).toArray e (0,0))},cap,rest,aR,rfl,⟨rfl,rfl⟩,?_,?_⟩
 ·simp only[aaV,qW,dR,rest,aaR,abQ,ov,nA]
  rw[←aaU,←aaU]
  congr 1
  omega
 ·have h2:¬sLen+n≤sCap:=by omega
  have h3:¬bytes=0:=by omega
  have h4:=hold w1 jv
  have h5:=eD w1 jv
  rcases kQ with⟨e',hd⟩|hd
  ·simp only[Builtin.append_,abW,List.getElem?_cons_zero,List.getElem?_cons_succ,Sem.run_bind,run_underlying hu,run_underlying hd,Result.andThen_ok,run_sizeOf hs,Sem.run_pure,
    abP,abm,hlen,aaF h2,run_typeInfo fQ,gZ,h3,or_self,and_false,aaF GZ,jO,run_askRoom,h4,h5,ac_,abu,od fQ nh,pF,newRow,run_newObj]
   congr 1
   simp[w1]
  ·simp only[Builtin.append_,abW,List.getElem?_cons_zero,List.getElem?_cons_succ,Sem.run_bind,run_underlying hu,run_underlying hd,Result.andThen_ok,run_sizeOf hs,Sem.run_pure,
    abP,abm,hlen,aaF h2,run_typeInfo fQ,gZ,h3,or_self,and_false,aaF GZ,jO,run_askRoom,h4,h5,ac_,abu,od fQ nh,pF,newRow,run_newObj]
   congr 1
   simp[w1]
theorem sV{P:Program}{sT xT ty e:TypeId}{esz sLen sCap n:Nat}{base:Option Addr}{x:Value}{new:List Value}
 (hu:P.underlying sT=some (.slice e)) (kQ:(∃e',P.underlying xT=some (.slice e'))∨P.underlying xT=some .string) (hs:bI P e=some esz)
 (hlen:∀w',(Builtin.lenOf x).run P w'=.ok n w') (eD:∀w',Ext w w'→(Builtin.firstCells esz n x).run P w'=.ok new.toArray w') (iH:sLen+n≤sCap):
 (Builtin.append_ #[sT,xT] ty #[.slice base sLen sCap,x]).run P w=
  match base with
  |some a=>((storeCells (a.add (sLen*esz)) new).run P w).andThen λ_ w'=>.ok (.slice base (sLen+n) sCap) w'
  |none=>.ok (.slice base (sLen+n) sCap) w:=by
 have h5:=eD w (Ext.refl w)
 rcases kQ with⟨e',hd⟩|hd
 ·cases base<;>
   simp only[Builtin.append_,abW,List.getElem?_cons_zero,List.getElem?_cons_succ,Sem.run_bind,run_underlying hu,run_underlying hd,Result.andThen_ok,run_sizeOf hs,Sem.run_pure,
    abP,abm,hlen,aaG iH,h5,ac_,abu]
 ·cases base<;>
   simp only[Builtin.append_,abW,List.getElem?_cons_zero,List.getElem?_cons_succ,Sem.run_bind,run_underlying hu,run_underlying hd,Result.andThen_ok,run_sizeOf hs,Sem.run_pure,
    abP,abm,hlen,aaG iH,h5,ac_,abu]
theorem OU{h:List Blk}(hr:bL ι h w){b wd i len:Nat}{cap:Option Nat}{v:Value}(hx:RA w ι (.sl b wd i len cap) v){rows:List (List PV)}(hn:nth .dead h b=.pr wd rows)
 (hlen:i+len≤rows.length):oc w ι.M v wd ((rows.drop i).take len):=by
 have hl:((rows.drop i).take len).length=len:=by simp;omega
 cases hx with
 |sl hb fF aR bS=>
  rename_i c o s cc
  refine⟨_,_,by rw[hl],.inr ⟨_,rfl,rfl,λn row hi=>?_⟩⟩
  have bp:rows[i+n]? =some row:=by
   rw[abT]at hi
   split at hi
   ·rwa [abx]at hi
   ·cases hi
  obtain⟨h1,h2⟩:=hr.row hb hn bp
  exact⟨h1,h2.later (by simp[aaU,aaX])⟩
 |c_ aR=>exact⟨_,_,by rw[hl],.inl (aa1 hl)⟩
theorem RA.G0{b wd i len:Nat}{v:Value}(h:po (ι (.h b i)) wd len v):RA w ι (.b8 b wd i len) v:=by
 rcases h with⟨c,o,s,cc,q,rfl,ql,qs⟩|⟨q,oa,rfl⟩
 ·exact .b8 q ql qs
 ·subst q;exact .iB
theorem Alike.OV{ag:Bool}{ks:List CK}{wd i:Nat}{ents:List (PV×List (List PV))}{x:PV}{r0 rows:List (List PV)}(hi:ents[i]? =some (x,r0)):
 Alike (.bF ag ks wd ents none) (.bF ag ks wd (ents.set i (x,rows)) (some i)) i wd rows false:=by
 have aq:i<ents.length:=(aaK.1 hi).1
 refine⟨λj=>?_,λw ι p h=>?_,λw p j v h=>?_,λl r h=>by cases h⟩
 ·simp only[Blk.inner,aaZ]
  by_cases e:j=i
  ·subst e;simp[aq]
  ·have e':¬i=j:=λh=>e h.symm
   rw[aaF e',aaF e]
   have h1:decide ((some i:Option Nat)=some j)=false:=by simp[e']
   rw[h1]
   simp
 ·obtain⟨c,o,s,h1,es,h2,h3,h4⟩:=h
  refine⟨c,o,s,h1,es,by simpa using h2,by simpa using h3,λj k rs hj=>?_⟩
  rw[aaZ]at hj
  by_cases e:i=j
  ·subst e
   rw[aaG rfl,aaG aq]at hj
   cases hj
   exact h4 i x r0 hi
  ·rw[aaF e]at hj;exact h4 j k rs hj
 ·obtain⟨c,o,s,es,e,h1,h2,h3⟩:=h
  exact⟨c,o,s,es,e,h1,by simpa using h2,h3⟩
theorem G1(hr:Rel cx ι st a w){o:Oper}{s x:Operand}{s' x':aS}{sT xT e:TypeId}{esz bytes:Nat}{z:List PV}{c:Call}(ho:o.op=.call c)(eY:c.callee=.builtin .append)
 (cS:c.args= #[s,x]) (kN:c.argTypes= #[sT,xT])
 (hu:cx.P.underlying sT=some (.slice e)) (kQ:(∃e',cx.P.underlying xT=some (.slice e'))∨cx.P.underlying xT=some .string) (hs:bI cx.P e=some esz) (hb:qH cx.P e=some bytes)
 (hz:zeroT cx.P e=some z) (nA:z.length=esz) (jh:0<bytes) (ZA:0<esz) (dA:cOpd s=some s') (BT:cOpd x=some x') (hd:∀t,o.dst=some t→cx.bw t=true)
 {k:St→Prop} (h:iA cx.E false (.app s' x' esz bytes) o.dst st k) {Q:Exit→Act→World→Prop}:o.wp cx.P a w (Kc cx k) Q:=by
 have fj:=bt hr.mem.hr.gl hr.tm dA
 have bN:=bt hr.mem.hr.gl hr.tm BT
 have h:vapp cx.E st (ev st s') (ev st x') esz bytes o.dst k:=dh (k:=λx=>vapp cx.E st (ev st s') x esz bytes o.dst k) (dh (k:=λs=>force (ev st x') λx=>vapp cx.E st s x esz bytes o.dst k) h)
 generalize ev st s'=as at h fj
 generalize ev st x'=ax at h bN
 have run:∀v w',(Builtin.append_ #[sT,xT] o.type #[a.eval s,a.eval x]).run cx.P w=.ok v w'→(execOp a.eval o).run cx.P w=.ok (.value v) w':=λv w' h1=>by
  simp[execOp,ho,resolve,eY,cS,kN,invoke,builtin,h1]
 generalize G2:a.eval s=vs at fj run
 generalize hex:a.eval x=vx at bN run
 have grow:∀(old:List Value) (yj bz:List (List PV)) (new:List Value) (base:Option Addr) (sLen sCap:Nat),vs=.slice base sLen sCap→
  jg w ι.M esz yj old→yj.length=sLen→(∀w',Ext w w'→(Builtin.firstCells esz sLen (.slice base sLen sCap)).run cx.P w'=.ok old.toArray w')→Src w ι.M vx esz bz new→
  sCap<sLen+bz.length→(sLen+bz.length)*bytes≤cK→
  ∃(w':World) (cs:Array Value) (cap:Nat),w'.heap=w.heap.push (.cells cs e (0,0))∧(w'.os=w.os∧w'.output=w.output)∧fE w ι cs 0 (.pr esz (yj++bz))∧
   sLen+bz.length≤cap∧cap*esz=cs.size∧(execOp a.eval o).run cx.P w=.ok (.value (.slice (some ⟨w.heap.size,0,none⟩) (sLen+bz.length) cap)) w':=by
  intro old yj bz new base sLen sCap cY hold qW OW bY iH gO
  subst cY
  have dR:=bY.eZ.1
  obtain⟨w',cap,rest,h1,h2,h3,h4,h5⟩:=BS (w:=w) (ty:=o.type) (base:=base) hu kQ hs hb hz nA jh (λw'=>bY.len cx.P w') OW (by rw[hold.1,qW])
   (λw' bP=>by have:=bY.first cx.P bz.length w' (aaJ _) bP;rwa [←dR,aa4]at this) dR iH gO
  refine⟨w',_,cap,h2,h3,?_,h1,by rw[ac8];exact h4.symm,run _ _ h5⟩
  exact(hold.append bY.eZ).blk rest
 have place:∀(q:Option (Nat×Nat×Nat)) (len:Nat) (rows bz:List (List PV)) (new:List Value),po q esz len vs→RB w ι q (.pr esz rows)→rows.length=len→Src w ι.M vx esz bz new→(len+bz.length)*bytes≤cK→
  ∃(w':World) (q':Option (Nat×Nat×Nat)) (c:Nat) (pN:Value),(execOp a.eval o).run cx.P w=.ok (.value pN) w'∧((∃o s,q=some (c,o,s))∨w.heap.size≤c)∧(∀c' o s,q'=some (c',o,s)→c'=c)∧
   (∀(d:Nat) (x:Obj),d≠c→w.heap[d]? =some x→w'.heap[d]? =some x)∧w.heap.size≤w'.heap.size∧(w'.os=w.os∧w'.output=w.output)∧
   (∀aC:az,bc ι.M w w' aC.M→RB w' aC q' (.pr esz (rows++bz)))∧po q' esz (len+bz.length) pN:=by
  intro q len rows bz new nv bq hlen bY gO
  have dB:oc w ι.M vs esz rows:=by
   rcases nv with⟨c,o',s,cc,rfl,rfl,hl,bS⟩|⟨h0,oa,rfl⟩
   ·refine⟨_,_,by rw[hlen],.inr ⟨_,rfl,rfl,λn row hi=>?_⟩⟩
    rcases bq with⟨h0,_⟩|⟨c',o2,s',cs,ty,fz,he,h1,hf,h2,h3,h4,h5⟩
    ·cases h0
    cases he
    refine⟨h4 n row hi,λj x hx=>?_⟩
    obtain⟨h6,v,h7,h8⟩:=h5 n row j x hi hx
    exact⟨h6,v,by rw[cell_of h1];simpa [aaX]using h7,h8⟩
   ·exact⟨_,_,by rw[hlen,h0],.inl (aa1 (by omega))⟩
  obtain⟨old,kR⟩:=dB.src
  obtain⟨base,sCap,cY,u9⟩:∃base sCap,vs=.slice base len sCap∧len≤sCap:=by
   rcases nv with⟨c,o',s,cc,_,h1,hl,_⟩|⟨h0,oa,h1⟩
   ·exact⟨_,_,h1,hl⟩
   ·exact⟨_,0,by rw[h1,h0],by omega⟩
  by_cases iH:len+bz.length≤sCap
  ·have aT:=sV (w:=w) (ty:=o.type) (base:=base) (sLen:=len) (sCap:=sCap) hu kQ hs (λw'=>bY.len cx.P w')
    (λw' bP=>by have:=bY.first cx.P bz.length w' (aaJ _) bP;rw[←bY.eZ.1,aa4]at this;exact this) iH
   rcases nv with⟨c,o',s,cc,rfl,h1,hl,bS⟩|⟨h0,oa,h1⟩
   ·rw[h1]at cY;cases cY
    rcases bq with⟨h0,_⟩|⟨c',o2,s',cs,ty,fz,he,hc,ht,bM,qX,cq,bn⟩
    ·cases h0
    cases he
    have hmul:(len+bz.length)*esz≤sCap*esz:=abl _ iH
    have OX:(len+bz.length)*esz=len*esz+bz.length*esz:=aaU ..
    have dR:=bY.eZ.1
    have hbound:o'+len*esz+new.length≤cs.size:=by omega
    have aU:=nr (P:=cx.P) c (o'+len*esz) ty fz new 0 cs w hc (by omega) ht bY.eZ.one
    simp only[Nat.add_zero]at aU
    have fR:(execOp a.eval o).run cx.P w=.ok (.value (.slice (some ⟨c,o',none⟩) (len+bz.length) sCap)) (bB w c (.cells (dD cs (o'+len*esz) new) ty fz)):=by
     apply run
     rw[h1,aT]
     simp only[gK,aU]
     rfl
    refine⟨_,some (c,o',s),c,_,fR,.inl ⟨_,_,rfl⟩,λc' o s h=>by cases h;rfl,λd z gk hz=>by rw[fg _ _ gk];exact hz,by simp[bB],⟨rfl,rfl⟩,λaC hL=>?_,.inl ⟨c,o',s,sCap,rfl,rfl,iH,bS⟩⟩
    refine .inr ⟨c,o',s,_,ty,fz,rfl,iG w c _ (aaW.1 hc).1,by rw[eN _ _ _ hbound];exact ht,by rw[eN _ _ _ hbound];exact bM,?_,λn r aV=>?_,λn r j z aV hz=>?_⟩
    ·rw[aaV,hlen];omega
    ·rw[abw]at aV
     split at aV
     ·exact cq _ _ aV
     ·exact bY.eZ.2.1 _ _ aV
    ·rw[ml _ _ _ hbound]
     rw[abw,hlen]at aV
     split at aV
     ·rename_i aq
      have hj:j<esz:=by rw[←cq _ _ aV];exact(aaK.1 hz).1
      have:=qV aq hj
      rw[aaF (by omega)]
      obtain⟨g1,u,g2,g3⟩:=bn _ _ j z aV hz
      exact⟨g1,u,g2,g3.later hL⟩
     ·rename_i dG
      obtain⟨g1,u,g2,g3⟩:=bY.eZ.2.2 _ _ j z aV hz
      have aq:=(aaK.1 g2).1
      have e3:n*esz=len*esz+(n - len)*esz:=by rw[←aaU];congr 1;omega
      rw[aaG (by omega)]
      exact⟨g1,u,by rw[←g2];congr 1;omega,g3.later hL⟩
   ·rw[h1]at cY
    cases cY
    have hm:bz=[]:=aa1 (by omega)
    subst hm
    have gy:rows=[]:=aa1 hlen
    have BU:new=[]:=aa1 (by rw[bY.eZ.1];simp)
    subst BU
    have fR:(execOp a.eval o).run cx.P w=.ok (.value (.slice base 0 0)) w:=by
     apply run
     rw[h1,aT]
     cases base with
     |none=>rfl
     |some ad=>simp[storeCells]
    exact⟨w,none,w.heap.size,_,fR,.inr (aaJ _),by simp,λ_ _ _ h=>h,aaJ _,⟨rfl,rfl⟩,λaC _=>.inl ⟨rfl,by rw[gy];rfl⟩,.inr ⟨rfl,_,rfl⟩⟩
  ·obtain⟨w',cs,cap,h1,h2,h3,h4,h5,h6⟩:=grow old rows bz new base len sCap cY kR.eZ hlen (λw' bP=>by
    have:=kR.first cx.P len w' (by omega) bP
    rw[←hlen,←kR.eZ.1,aa4,cY]at this
    rw[hlen]at this;exact this) bY (by omega) gO
   have jf:w'.heap[w.heap.size]? =some (.cells cs e (0,0)):=by rw[h1];exact nn w _
   have hold:∀(d:Nat) (x:Obj),w.heap[d]? =some x→w'.heap[d]? =some x:=λd x hx=>by rw[h1];exact j7 w _ d x hx
   exact⟨w',some (w.heap.size,0,cs.size),w.heap.size,_,h6,.inr (aaJ _),λc' o s h=>by cases h;rfl,λd z _ hz=>hold d z hz,Ext.size hold,h2,
    λaC hL=>(h3.kK hL).rb jf (λo _ h=>by omega),.inl ⟨w.heap.size,0,cs.size,cap,rfl,rfl,h4,by omega⟩⟩
 have BV:∀{b wi n len:Nat} {w0:Nat} {vu:Option Nat} {cells:List (Bool×List (List PV))} {new:List Value},esz=1→RA w ι (.sl b 1 0 len vu) vs→nth .dead st.heap b=.pn 1 wi cells none→cx.E.fx b=false→
  len=cells.length→(len+n)*bytes≤cK→Src w ι.M vx 1 (List.replicate n [.au w0 [] (some 0)]) new→
  k ((⟨killT b st.tmps,setNth (killH b st.heap) b (.pn 1 wi (cells++List.replicate n (true,[])) none)⟩:St).put o.dst (.sl b 1 0 (len+n) none))→o.wp cx.P a w (Kc cx k) Q:=by
  intro b wi n len w0 vu cells new OY fj hn gM hlen gO bY hk
  subst OY
  have dR:new.length=n:=by have:=bY.eZ.1;simpa using this
  have eD:∀j,j<n→∃oa,new[j]? =some (.slice oa 0 0):=λj hj=>by
   obtain⟨_,u,g2,g3⟩:=bY.eZ.2.2 j [.au w0 [] (some 0)] 0 (.au w0 [] (some 0)) (by rw[ab1,aaG hj]) rfl
   obtain⟨oa,c0,hv,_,aR,_⟩:=lC g3
   have:c0=0:=aR 0 rfl
   subst this
   refine⟨oa,?_⟩
   have hv:u=.slice oa 0 0:=by simpa using hv
   rw[←hv,←g2];simp
  have ZB:(Builtin.lenOf vx).run cx.P w=.ok n w:=by have:=bY.len cx.P w;simpa using this
  have oz:∀w',(Builtin.lenOf vx).run cx.P w'=.ok n w':=λw'=>by have:=bY.len cx.P w';simpa using this
  have yk:∀w',Ext w w'→(Builtin.firstCells 1 n vx).run cx.P w'=.ok new.toArray w':=λw' bP=>by
   have:=bY.first cx.P n w' (by simp) bP
   rw[abN,←dR,aa4]at this
   rw[←dR];exact this
  have bA:∀v∈new,dP v=true:=λv hv=>by
   obtain⟨j,hj,rfl⟩:=acv hv
   obtain⟨oa,ho⟩:=eD j (by omega)
   rw[aaI hj]at ho
   have:=ada ho
   show dP new[j]=true
   rw[this];rfl
  have cut:∀j fl rows,(cells++List.replicate n (true,([]:List (List PV))))[j]? =some (fl,rows)→(j<len∧cells[j]? =some (fl,rows))∨(len≤j∧j<len+n∧fl=true):=λj fl rows hj=>by
   rw[abw]at hj
   split at hj
   ·exact .inl ⟨by omega,hj⟩
   ·rw[ab1]at hj
    split at hj
    ·cases hj;exact .inr ⟨by omega,by omega,rfl⟩
    ·cases hj
  have BW:=hr.mem.hr.blk b
  rw[hn]at BW
  obtain⟨w',q',c,pN,aT,hc,hp,db,ct,dj,BX,dB⟩:∃(w':World) (q':Option (Nat×Nat×Nat)) (c:Nat) (pN:Value),(execOp a.eval o).run cx.P w=.ok (.value pN) w'∧((∃o s,ι (.v b)=some (c,o,s))∨w.heap.size≤c)∧(∀c' o s,q'=some (c',o,s)→c'=c)∧
   (∀(d:Nat) (x:Obj),d≠c→w.heap[d]? =some x→w'.heap[d]? =some x)∧w.heap.size≤w'.heap.size∧(w'.os=w.os∧w'.output=w.output)∧
   ((q'=none∧len+n=0)∨∃c1 o1 s1 cs ty fz,q'=some (c1,o1,s1)∧w'.heap[c1]? =some (.cells cs ty fz)∧kJ cs.size fz∧cs.size=s1∧o1+(len+n)≤s1∧
     (∀j,j<len→∀c2 o2 s2,ι (.v b)=some (c2,o2,s2)→cs[o1+j]? =w.cell? ⟨c2,o2+j,none⟩)∧∀j,j<n→cs[o1+(len+j)]? =new[j]?)∧
   ∀aC:az,aC (.v b)=q'→RA w' aC (.sl b 1 0 (len+n) none) pN:=by
   cases fj with
   |c_ aR=>
    rename_i oa
    have gP:cells=[]:=aa1 hlen.symm
    by_cases h0:n=0
    ·subst h0
     have oA:new=[]:=aa1 dR
     have aT:=sV (w:=w) (ty:=o.type) (base:=oa) (sLen:=0) (sCap:=0) hu kQ hs oz yk (aaJ _)
     refine⟨w,none,w.heap.size,.slice oa 0 0,run _ _ ?_,.inr (aaJ _),by simp,λ_ _ _ h=>h,aaJ _,⟨rfl,rfl⟩,.inl ⟨rfl,rfl⟩,λaC _=>.c_ (by simp)⟩
     rw[aT,oA]
     cases oa with
     |none=>rfl
     |some ad=>simp[storeCells]
    ·obtain⟨w',cap,rest,g1,g2,g3,g4,g5⟩:=BS (w:=w) (ty:=o.type) (base:=oa) (sLen:=0) (sCap:=0) (old:=[]) hu kQ hs hb hz nA jh oz (λw' _=>by cases oa<;>simp[Builtin.firstCells,loadCells,loadCellsFrom]) (by simp) yk (by omega) (by omega) (by simpa using gO)
     have jf:w'.heap[w.heap.size]? =some (.cells (([]++new++rest).toArray) e (0,0)):=by rw[g2];exact nn w _
     have hold:∀(d:Nat) (x:Obj),w.heap[d]? =some x→w'.heap[d]? =some x:=λd x hx=>by rw[g2];exact j7 w _ d x hx
     refine⟨w',some (w.heap.size,0,cap),w.heap.size,_,run _ _ g5,.inr (aaJ _),λc' o s h=>by cases h;rfl,λd z _ hz=>hold d z hz,Ext.size hold,g3,.inr ⟨_,_,_,_,_,_,rfl,jf,λo _ h=>by omega,by simpa using g4,by omega,λj hj=>by omega,λj hj=>?_⟩,λaC vw=>?_⟩
     ·simp only[aaL,List.nil_append,abW]
      rw[aa9 (by omega)]
     ·have:=RA.sl (w:=w') (wd:=1) (i:=0) (len:=0+n) (cc:=cap) (cap:=none) vw g1 (by simp) (by simp)
      simpa using this
   |sl gZ hl aR bS=>
    rename_i c o' s sCap
    rw[gZ]at BW
    rcases BW with⟨h0,_⟩|⟨c',o2,s2,cs,ty,fz,he,hc,ht,bM,hle,bn⟩
    ·cases h0
    cases he
    by_cases iH:len+n≤sCap
    ·have aT:=sV (w:=w) (ty:=o.type) (base:=some ⟨c,o'+0*1,none⟩) (sLen:=len) (sCap:=sCap) hu kQ hs oz yk iH
     have hbound:o'+len+new.length≤cs.size:=by omega
     have aU:=nr (P:=cx.P) c (o'+len) ty fz new 0 cs w hc (by omega) ht bA
     simp only[Nat.add_zero]at aU
     have ka:=iG w c (.cells (dD cs (o'+len) new) ty fz) (aaW.1 hc).1
     refine⟨bB w c (.cells (dD cs (o'+len) new) ty fz),some (c,o',s),c,.slice (some ⟨c,o'+0*1,none⟩) (len+n) sCap,run _ _ ?_,.inl ⟨_,_,gZ⟩,λc' o s h=>by cases h;rfl,λd z gk hz=>by rw[fg _ _ gk];exact hz,by simp[bB],⟨rfl,rfl⟩,
      .inr ⟨c,o',s,_,ty,fz,rfl,ka,by rw[eN _ _ _ hbound];exact ht,by rw[eN _ _ _ hbound];exact bM,by omega,λj hj c2 o2 s2 h2=>?_,λj hj=>?_⟩,λaC vw=>.sl vw iH (by simp) bS⟩
     ·rw[aT]
      simp only[abN,Nat.add_zero,gK,aU]
      rfl
     ·rw[gZ]at h2;cases h2
      rw[cell_of hc,ml _ _ _ hbound,aaF (by omega)]
     ·rw[ml _ _ _ hbound,aaG (by omega)]
      congr 1;omega
    ·obtain⟨w',cap,rest,g1,g2,g3,g4,g5⟩:=BS (w:=w) (ty:=o.type) (base:=some ⟨c,o'+0*1,none⟩) (sLen:=len) (sCap:=sCap) (old:=(List.range len).map λm=>(w.cell? ⟨c,o'+m,none⟩).getD undef) hu kQ hs hb hz nA jh oz (λw' bP=>by
      simp only[Builtin.firstCells,abN,Nat.add_zero]
      exact run_loadCells (P:=cx.P) w' ⟨c,o',none⟩ len (λm=>(w.cell? ⟨c,o'+m,none⟩).getD undef) (λm hm=>by
       have aq:o'+m<cs.size:=by omega
       have:w.cell? ⟨c,o'+m,none⟩=some cs[o'+m]:=by rw[cell_of hc];exact abh aq
       rw[gK,bP.cell this,this];rfl)) (by simp) yk (by omega) (by omega) gO
     have jf:=nn w (.cells (((List.range len).map λm=>(w.cell? ⟨c,o'+m,none⟩).getD undef)++new++rest).toArray e (0,0))
     have jf:w'.heap[w.heap.size]? =some (.cells (((List.range len).map λm=>(w.cell? ⟨c,o'+m,none⟩).getD undef)++new++rest).toArray e (0,0)):=by rw[g2];exact jf
     have hold:∀(d:Nat) (x:Obj),w.heap[d]? =some x→w'.heap[d]? =some x:=λd x hx=>by rw[g2];exact j7 w _ d x hx
     refine⟨w',some (w.heap.size,0,cap),w.heap.size,_,run _ _ g5,.inr (aaJ _),λc' o s h=>by cases h;rfl,λd z _ hz=>hold d z hz,Ext.size hold,g3,.inr ⟨_,_,_,_,_,_,rfl,jf,λo _ h=>by omega,by simpa using g4,by omega,λj hj c2 o2 s2 h2=>?_,λj hj=>?_⟩,λaC vw=>?_⟩
     ·rw[gZ]at h2;cases h2
      have aq:o'+j<cs.size:=by omega
      have:w.cell? ⟨c,o'+j,none⟩=some cs[o'+j]:=by rw[cell_of hc];exact abh aq
      simp only[aaL,abW]
      rw[abi,aa9 (by simpa using hj),aaM,abo hj]
      simp[this]
     ·simp only[aaL,abW]
      rw[abi,abe (by simp),aa9 (by simp;omega)]
      congr 1;simp
     ·have:=RA.sl (w:=w') (wd:=1) (i:=0) (len:=len+n) (cc:=cap) (cap:=none) vw g1 (by simp) (by simp)
      simpa using this
  have OZ:∀j fl rows,j<len→cells[j]? =some (fl,rows)→∃c2 o2 s2 v,ι (.v b)=some (c2,o2,s2)∧w.cell? ⟨c2,o2+j,none⟩=some v∧dP v=true∧(fl=false→RP w ι.M (.au wi rows (some rows.length)) v):=λj fl rows hj hx=>by
   have h0:=hr.mem.hr.blk b
   rw[hn]at h0
   rcases h0 with⟨_,h0⟩|⟨c2,o2,s2,cs,ty,fz,he,h1,_,_,_,h4⟩
   ·rw[h0]at hx;cases hx
   ·obtain⟨v,v1,v2,v3⟩:=h4 j fl rows hx
    exact⟨c2,o2,s2,v,he,by rw[cell_of h1];exact v1,v2,v3⟩
  have fe:∀i,i<cells.length→∃fl rows,cells[i]? =some (fl,rows):=λi hi=>⟨_,_,aaI hi⟩
  obtain⟨hm,hL⟩:=hr.mem.outer (n:=n) hn gM hc hp db ct dj (λhL=>by
   rcases BX with⟨h1,h2⟩|⟨c1,o1,s1,cs,ty,fz,h1,h2,h3,h4,h5,h6,h7⟩
   ·refine .inl ⟨h1,?_⟩
    have oA:n=0:=by omega
    have gP:cells=[]:=aa1 (by omega)
    rw[oA,gP];rfl
   ·refine .inr ⟨c1,o1,s1,cs,ty,fz,h1,h2,h3,h4,by simp only[aaV,acI];omega,λj fl rows hj=>?_⟩
    rcases cut j fl rows hj with⟨h8,h9⟩|⟨h8,h9,kc⟩
    ·obtain⟨c2,o2,s2,v,v1,v2,v3,v4⟩:=OZ j fl rows h8 h9
     exact⟨v,by rw[h6 j h8 _ _ _ v1];exact v2,v3,λh=>(v4 h).later hL⟩
    ·obtain⟨oa,ho⟩:=eD (j - len) (by omega)
     refine⟨.slice oa 0 0,?_,rfl,λh=>by rw[kc]at h;cases h⟩
     have:=h7 (j - len) (by omega)
     rw[ho,show len+(j - len)=j by omega]at this
     exact this) (λi v hi hv=>by
   rcases BX with⟨h1,h2⟩|⟨c1,o1,s1,cs,ty,fz,h1,h2,h3,h4,h5,h6,h7⟩
   ·omega
   ·obtain⟨c2,o2,s2,v1,v2⟩:=hv
    exact⟨c1,o1,s1,h1,by rw[cell_of h2,h6 i (by omega) _ _ _ v1];exact v2⟩) (λi yh ZC=>by
   rcases BX with⟨h1,h2⟩|⟨c1,o1,s1,cs,ty,fz,h1,h2,h3,h4,h5,h6,h7⟩
   ·omega
   ·obtain⟨oa,ho⟩:=eD (i - len) (by omega)
    have:=h7 (i - len) (by omega)
    rw[ho,show len+(i - len)=i by omega]at this
    exact⟨oa,c1,o1,s1,h1,by rw[cell_of h2];exact this⟩)
  have bh:∀b',(Bn.v b).hit b'=false→∀p,ι b'=some p→(ι.j9 b q') b'=some p:=λb' e p hq=>by
   rw[az.qS _ _ (λe2=>Bn.n9 e (by rw[e2];rfl))];exact hq
  exact dN aT ⟨_,_,Rel.put (st:=⟨killT b st.tmps,setNth (killH b st.heap) b (.pn 1 wi (cells++List.replicate n (true,[])) none)⟩) ⟨hm,ou hL bh hr.tm,hr.sz,hr.df⟩ hd (dB _ (az.yb _ _ _)),hk⟩
 unfold vapp at h
 split at h
 ·
  rename_i wd
  obtain⟨bz,new,⟨gO,hk⟩,bY⟩:=oy hr.mem.hr bN h
  obtain⟨oa,c0,cY,hc,aR,_⟩:=lC (gW fj)
  have gP:c0=0:=aR 0 rfl
  subst gP
  simp only[List.length_nil]at cY
  by_cases hm:bz.length=0
  ·
   have oB:bz=[]:=aa1 hm
   subst oB
   have aT:=sV (w:=w) (ty:=o.type) (base:=oa) (sLen:=0) (sCap:=0) hu kQ hs (λw'=>bY.len cx.P w') (λw' bP=>bY.first cx.P 0 w' (aaJ _) bP) (by simp)
   have fR:(execOp a.eval o).run cx.P w=.ok (.value (.slice oa 0 0)) w:=by
    apply run
    rw[cY,aT]
    cases oa with
    |none=>rfl
    |some ad=>simp[storeCells]
   refine dN fR ⟨ι,iW st o.dst (.sl st.heap.length esz 0 0 none) (.pr esz []),⟨?_,sB (st:=⟨st.tmps,st.heap++[Blk.pr esz []]⟩) hr.tm hr.sz.1 (λt ht=>cx.eI t (hd t ht)) (RA.c_ (b:=st.heap.length) (wd:=esz) (i:=0) (cap:=none) (oa:=oa) (by simp)),Sz.put hr.sz hd _,by rw[Act.sA];exact hr.df⟩,hk⟩
   rw[iW,pt]
   have O1:ι st.heap.length=none:=by
    cases hq:ι st.heap.length with
    |none=>rfl
    |some q=>
     obtain⟨c',o',s'⟩:=q
     obtain⟨ob,_,hd⟩:=hr.mem.hr.size hq
     exact absurd (hr.mem.hr.fO hd) (ab9 _)
   refine hr.mem.step ⟨hr.mem.hr.gl,λb=>?_,hr.mem.hr.inj,hr.mem.hr.cC,GC hr.mem.hr rfl⟩ (λd x _ h=>h) (λc h=>.inl h) (aaJ _) ⟨rfl,rfl⟩ rfl rfl rfl rfl (λ_ _=>rfl)
    (by rw[aaV];exact aa2 hr.mem.kl (adx _ _)) (λl r hl=>?_)
   ·rw[pq]
    by_cases e:b=st.heap.length
    ·rw[aaG e,e,O1];exact .inl ⟨rfl,rfl⟩
    ·rw[aaF e];exact hr.mem.hr.blk b
   ·rw[pq]at hl
    split at hl
    ·cases hl
    ·exact hl
  ·obtain⟨w',cs,cap,h1,h2,h3,h4,h5,h6⟩:=grow [] [] bz new oa 0 0 cY ⟨by simp,by simp,by simp⟩ rfl (λw' _=>by cases oa<;>simp[Builtin.firstCells,loadCells,loadCellsFrom]) bY (by omega) (by simpa using gO)
   simp only[aaL,List.nil_append]at*
   refine dN h6 (vq (q:=false) hr hd h1 h2 (λo _ h=>by omega) h3 (λbX h7=>?_) hk).1
   have:=RA.sl (w:=w') (ι:=bX) (wd:=esz) (i:=0) (len:=bz.length) (cc:=cap) (cap:=none) h7 h4 (by simp) (by simp[h5])
   simpa using this
 ·
  rename_i wd rows c0 bg
  obtain⟨bz,new,⟨⟨iH,gO⟩,hk⟩,bY⟩:=oy hr.mem.hr bN h
  cases hw:Nat.beq wd esz with
  |false=>rw[hw]at hk;exact hk.elim
  |true=>
   rw[hw]at hk
   obtain rfl:=abg hw
   obtain⟨oa,cc,cY,hc,aR,pM⟩:=lC (gW fj)
   have ja:cc=c0:=aR c0 rfl
   subst ja
   have dB:oc w ι.M vs wd rows:=⟨oa,cc,cY,pM.imp id λ⟨ad,h1,h2,h3,h4,h5⟩=>⟨ad,h1,h2,h5⟩⟩
   obtain⟨old,kR⟩:=dB.src
   obtain⟨w',cs,cap,h1,h2,h3,h4,h5,h6⟩:=grow old rows bz new oa rows.length cc cY kR.eZ rfl (λw' bP=>by
    have:=kR.first cx.P rows.length w' (aaJ _) bP
    rw[←kR.eZ.1,aa4,cY]at this;exact this) bY iH gO
   refine dN h6 (vq (q:=false) hr hd h1 h2 (λo _ h=>by omega) h3 (λbX h7=>?_) hk).1
   have:=RA.sl (w:=w') (ι:=bX) (wd:=wd) (i:=0) (len:=rows.length+bz.length) (cc:=cap) (cap:=none) h7 h4 (by simp) (by simp[h5])
   simpa using this
 ·
  rename_i wd rows
  obtain⟨bz,new,⟨oB,hk⟩,bY⟩:=oy hr.mem.hr bN h
  subst oB
  obtain⟨oa,cc,cY,hc,aR,pM⟩:=lC (gW fj)
  have aT:=sV (w:=w) (ty:=o.type) (base:=oa) (sLen:=rows.length) (sCap:=cc) hu kQ hs (λw'=>bY.len cx.P w') (λw' bP=>bY.first cx.P 0 w' (aaJ _) bP) (by simpa using hc)
  have fR:(execOp a.eval o).run cx.P w=.ok (.value vs) w:=by
   apply run
   rw[cY,aT]
   cases oa with
   |none=>rfl
   |some ad=>simp[storeCells]
  exact dN fR ⟨ι,_,hr.put hd fj,hk⟩
 ·rename_i b wd i len vu
  split at h
  ·rename_i b6 rows hn
   cases hw:(Nat.beq wd b6&&Nat.beq wd esz&&!cx.E.fx b)with
   |false=>rw[hw]at h;exact h.elim
   |true=>
    rw[hw]at h
    simp only[cond_true]at h
    obtain⟨⟨e1,e2⟩,gM⟩:=by simpa using hw
    subst e1;subst e2
    obtain⟨bz,new,⟨BY,gO,hk⟩,bY⟩:=oy hr.mem.hr bN h
    rw[na]at hk
    have h_:b<st.heap.length:=hr.mem.hr.fO (by rw[hn];simp)
    have dB:=OU hr.mem.hr fj hn (by omega)
    have O2:(rows.drop i).take len=rows.drop i:=abU (by simp;omega)
    rw[O2]at dB
    have hlen:(rows.drop i).length=len:=by simp;omega
    rw[gJ]at hk
    obtain⟨old,kR⟩:=dB.src
    have O3:∃base sCap,vs=.slice base len sCap∧len≤sCap:=by
     cases fj with
     |sl hb hl aR bS=>exact⟨_,_,rfl,hl⟩
     |c_ aR=>exact⟨_,_,rfl,aaJ _⟩
    obtain⟨base,sCap,cY,u9⟩:=O3
    by_cases iH:len+bz.length≤sCap
    ·
     have aT:=sV (w:=w) (ty:=o.type) (base:=base) (sLen:=len) (sCap:=sCap) hu kQ hs (λw'=>bY.len cx.P w')
      (λw' bP=>by have:=bY.first cx.P bz.length w' (aaJ _) bP;rw[←bY.eZ.1,aa4]at this;exact this) iH
     cases fj with
     |c_ aR=>
      cases cY
      have hm:bz=[]:=aa1 (by omega)
      subst hm
      have G3:rows.drop i=[]:=aa1 hlen
      have BU:new=[]:=aa1 (by rw[bY.eZ.1];simp)
      subst BU
      have fR:(execOp a.eval o).run cx.P w=.ok (.value (.slice base 0 0)) w:=by
       apply run
       rw[aT]
       cases base with
       |none=>rfl
       |some ad=>simp[storeCells]
      obtain⟨hm,hL⟩:=hr.mem.mh (w':=w) h_ gM (p:=none) (blk:=.pr wd (rows.drop i++[])) (c:=w.heap.size) (.inr (aaJ _)) (by simp) (λ_ _ _ h=>h) (aaJ _) ⟨rfl,rfl⟩
       (λ_=>.inl ⟨rfl,by rw[G3];rfl⟩)
      have bh:∀b',(Bn.v b).hit b'=false→∀q,ι b'=some q→(ι.cE b none) b'=some q:=λb' e q hq=>by rw[az.gL _ _ (Bn.n9 e)];exact hq
      exact dN fR ⟨_,_,Rel.put (st:=⟨killT b st.tmps,setNth (killH b st.heap) b (.pr wd (rows.drop i++[]))⟩) ⟨hm,ou hL bh hr.tm,hr.sz,hr.df⟩ hd (.c_ (cap:=none) (by simp)),hk⟩
     |sl hb hl aR bS=>
      rename_i c o' s cc
      cases cY
      have bq:=hr.mem.hr.blk b
      rw[hn,hb]at bq
      obtain⟨cs,ty,fz,hc,ht,bM,qX,cq,bn⟩:=bq.at
      have hmul:(i+(len+bz.length))*wd≤(i+sCap)*wd:=abl _ (by omega)
      have OX:(i+(len+bz.length))*wd=i*wd+len*wd+bz.length*wd:=by rw[aaU,aaU,aaX]
      have dR:=bY.eZ.1
      have hbound:o'+i*wd+len*wd+new.length≤cs.size:=by omega
      have aU:=nr (P:=cx.P) c (o'+i*wd+len*wd) ty fz new 0 cs w hc (by omega) ht bY.eZ.one
      simp only[Nat.add_zero]at aU
      have fR:(execOp a.eval o).run cx.P w=.ok (.value (.slice (some ⟨c,o'+i*wd,none⟩) (len+bz.length) sCap)) (bB w c (.cells (dD cs (o'+i*wd+len*wd) new) ty fz)):=by
       apply run
       rw[aT]
       simp only[gK,aU]
       rfl
      have hblk:fE w ι (dD cs (o'+i*wd+len*wd) new) (o'+i*wd) (.pr wd (rows.drop i++bz)):=by
       refine⟨?_,λn r aV=>?_,λn r j z aV hz=>?_⟩
       ·rw[eN _ _ _ hbound,aaV,hlen,aaU];omega
       ·rw[abw]at aV
        split at aV
        ·rw[abx]at aV;exact cq _ _ aV
        ·exact bY.eZ.2.1 _ _ aV
       ·rw[ml _ _ _ hbound]
        rw[abw,hlen]at aV
        split at aV
        ·rename_i aq
         rw[abx]at aV
         have hj:j<wd:=by rw[←cq _ _ aV];exact(aaK.1 hz).1
         have:=qV aq hj
         rw[aaF (by omega)]
         obtain⟨g1,u,g2,g3⟩:=bn _ _ j z aV hz
         exact⟨g1,u,by rw[←g2];congr 1;rw[aaU];omega,g3⟩
        ·rename_i dG
         obtain⟨g1,u,g2,g3⟩:=bY.eZ.2.2 _ _ j z aV hz
         have aq:=(aaK.1 g2).1
         have e3:n*wd=len*wd+(n - len)*wd:=by rw[←aaU];congr 1;omega
         rw[aaG (by omega)]
         exact⟨g1,u,by rw[←g2];congr 1;omega,g3⟩
      obtain⟨hm,hL⟩:=hr.mem.mh (w':=bB w c (.cells (dD cs (o'+i*wd+len*wd) new) ty fz)) h_ gM (p:=some (c,o'+i*wd,s)) (blk:=.pr wd (rows.drop i++bz)) (c:=c)
       (.inl ⟨o',s,hb⟩) (λc' o2 s2 h=>by cases h;rfl) (λd z gk hz=>by rw[fg _ _ gk];exact hz) (by simp[bB]) ⟨rfl,rfl⟩
       (λhL=>by
        have:=(hblk.kK hL).rb (ty:=ty) (fz:=fz) (iG w c _ (aaW.1 hc).1) (by rw[eN _ _ _ hbound];exact ht)
        rw[eN _ _ _ hbound,bM]at this
        exact this)
      have bh:∀b',(Bn.v b).hit b'=false→∀q,ι b'=some q→(ι.cE b (some (c,o'+i*wd,s))) b'=some q:=λb' e q hq=>by rw[az.gL _ _ (Bn.n9 e)];exact hq
      refine dN fR ⟨_,_,Rel.put (st:=⟨killT b st.tmps,setNth (killH b st.heap) b (.pr wd (rows.drop i++bz))⟩) ⟨hm,ou hL bh hr.tm,hr.sz,hr.df⟩ hd ?_,hk⟩
      have:=RA.sl (w:=bB w c (.cells (dD cs (o'+i*wd+len*wd) new) ty fz)) (ι:=ι.cE b (some (c,o'+i*wd,s))) (wd:=wd) (i:=0) (len:=len+bz.length) (cc:=sCap) (cap:=none)
       (az.oo _ _ _) iH (by simp) (by rw[aaL];rw[aaU]at bS;omega)
      simpa using this
    ·
     obtain⟨w',cs,cap,h1,h2,h3,h4,h5,h6⟩:=grow old (rows.drop i) bz new base len sCap cY kR.eZ hlen (λw' bP=>by
      have:=kR.first cx.P len w' (by omega) bP
      rw[←hlen,←kR.eZ.1,aa4,cY]at this
      rw[hlen]at this;exact this) bY (by omega) gO
     have jf:w'.heap[w.heap.size]? =some (.cells cs e (0,0)):=by rw[h1];exact nn w _
     have hold:∀(d:Nat) (x:Obj),w.heap[d]? =some x→w'.heap[d]? =some x:=λd x hx=>by rw[h1];exact j7 w _ d x hx
     obtain⟨hm,hL⟩:=hr.mem.mh (w':=w') h_ gM (p:=some (w.heap.size,0,cs.size)) (blk:=.pr wd (rows.drop i++bz)) (c:=w.heap.size)
      (.inr (aaJ _)) (λc' o2 s2 h=>by cases h;rfl) (λd z _ hz=>hold d z hz) (Ext.size hold) h2
      (λhL=>(h3.kK hL).rb jf (λo _ h=>by omega))
     have bh:∀b',(Bn.v b).hit b'=false→∀q,ι b'=some q→(ι.cE b (some (w.heap.size,0,cs.size))) b'=some q:=λb' e q hq=>by rw[az.gL _ _ (Bn.n9 e)];exact hq
     refine dN h6 ⟨_,_,Rel.put (st:=⟨killT b st.tmps,setNth (killH b st.heap) b (.pr wd (rows.drop i++bz))⟩) ⟨hm,ou hL bh hr.tm,hr.sz,hr.df⟩ hd ?_,hk⟩
     have:=RA.sl (w:=w') (ι:=ι.cE b (some (w.heap.size,0,cs.size))) (wd:=wd) (i:=0) (len:=len+bz.length) (cc:=cap) (cap:=none)
      (az.oo _ _ _) h4 (by simp) (by simp[h5])
     simpa using this
  ·rename_i wo wi cells op hn
   cases hw:(Nat.beq wd wo&&Nat.beq wo esz&&Nat.beq esz 1&&!cx.E.fx b)with
   |false=>rw[hw]at h;exact h.elim
   |true=>
    rw[hw]at h
    obtain⟨⟨⟨e1,e2⟩,e3⟩,gM⟩:=by simpa using hw
    subst e1;subst e2
    simp only[cond_true]at h
    obtain⟨bz,new,⟨n,w0,rfl,⟨rfl,rfl,hlen,gO⟩,hk⟩,bY⟩:=oy hr.mem.hr bN h
    rw[na]at hk
    subst e3
    exact BV rfl fj hn gM hlen gO bY hk
  ·exact h.elim
 ·rename_i b wd i len
  have nv:=fj.sP.2.2
  split at h
  ·rename_i wo b6 cells op hn
   cases hw:(Nat.beq wd b6&&Nat.beq wd esz)with
   |false=>rw[hw]at h;exact h.elim
   |true=>
    rw[hw]at h
    obtain⟨e1,e2⟩:=by simpa using hw
    subst e1;subst e2
    simp only[cond_true]at h
    obtain⟨bz,new,⟨rows,hi,⟨rfl,hlen,gO⟩,hk⟩,bY⟩:=oy hr.mem.hr bN h
    rw[na]at hk
    have h_:b<st.heap.length:=hr.mem.hr.fO (by rw[hn];simp)
    have aq:i<cells.length:=(aaK.1 hi).1
    have h0:=hr.mem.hr.hid b i
    unfold HB at h0
    rw[hn]at h0
    simp only[Blk.inner,hi]at h0
    obtain⟨w',q',c',pN,aT,hc,hp,db,ct,dj,bq,BZ⟩:=place _ len rows bz new nv h0.1 hlen bY gO
    obtain⟨hm,hL⟩:=hr.mem.inner (b:=b) (i:=i) h_ (rows':=rows++bz) (blk:=.pn wo wd (cells.set i (true,rows++bz)) (some i)) (by rw[hn];exact Alike.pn aq (.inl rfl) rfl) hc hp db ct dj (λhL=>bq _ hL)
    have bh:∀b',(Bn.h b i).hit b'=false→∀p,ι b'=some p→(ι.gw b i q') b'=some p:=λb' e p hq=>by rw[az.oq _ _ (Bn.ya e)];exact hq
    exact dN aT ⟨_,_,Rel.put (st:=⟨killT (.h b i) st.tmps,setNth (killH (.h b i) st.heap) b (.pn wo wd (cells.set i (true,rows++bz)) (some i))⟩) ⟨hm,ou hL bh hr.tm,hr.sz,hr.df⟩ hd (RA.G0 (by rw[az.vi];exact BZ)),hk⟩
  ·rename_i ag ks b6 ents op hn
   cases hw:(Nat.beq wd b6&&Nat.beq wd esz)with
   |false=>rw[hw]at h;exact h.elim
   |true=>
    rw[hw]at h
    obtain⟨e1,e2⟩:=by simpa using hw
    subst e1;subst e2
    simp only[cond_true]at h
    obtain⟨bz,new,⟨y,rows,hi,⟨rfl,hlen,gO⟩,hk⟩,bY⟩:=oy hr.mem.hr bN h
    rw[na]at hk
    have h_:b<st.heap.length:=hr.mem.hr.fO (by rw[hn];simp)
    have h0:=hr.mem.hr.hid b i
    unfold HB at h0
    rw[hn]at h0
    simp only[Blk.inner,hi]at h0
    obtain⟨w',q',c',pN,aT,hc,hp,db,ct,dj,bq,BZ⟩:=place _ len rows bz new nv h0.1 hlen bY gO
    obtain⟨hm,hL⟩:=hr.mem.inner (b:=b) (i:=i) h_ (rows':=rows++bz) (blk:=.bF ag ks wd (ents.set i (y,rows++bz)) (some i)) (by rw[hn];exact Alike.OV hi) hc hp db ct dj (λhL=>bq _ hL)
    have bh:∀b',(Bn.h b i).hit b'=false→∀p,ι b'=some p→(ι.gw b i q') b'=some p:=λb' e p hq=>by rw[az.oq _ _ (Bn.ya e)];exact hq
    exact dN aT ⟨_,_,Rel.put (st:=⟨killT (.h b i) st.tmps,setNth (killH (.h b i) st.heap) b (.bF ag ks wd (ents.set i (y,rows++bz)) (some i))⟩) ⟨hm,ou hL bh hr.tm,hr.sz,hr.df⟩ hd (RA.G0 (by rw[az.vi];exact BZ)),hk⟩
  ·exact h.elim
 ·exact h.elim
end
section
variable {cx:Cx} {ι bV:az} {st:St} {a:Act} {w:World}
theorem jg.take{M:Nat→Prop}{esz:Nat}{rows:List (List PV)}{vs:List Value}(h:jg w M esz rows vs)(n:Nat)(hn:n≤rows.length):
 jg w M esz (rows.take n) (vs.take (n*esz)):=by
 have hle:=abl esz hn
 refine⟨by rw[abB,abB,h.1,ab6 hle,ab6 hn],λi row hi=>?_,λi row j x hi hx=>?_⟩
 ·rw[abT]at hi
  split at hi
  ·exact h.2.1 _ _ hi
  ·cases hi
 ·rw[abT]at hi
  split at hi
  ·rename_i aq
   obtain⟨g1,u,g2,g3⟩:=h.2.2 i row j x hi hx
   have hj:j<esz:=by rw[←h.2.1 _ _ hi];exact(aaK.1 hx).1
   exact⟨g1,u,by rw[acj (qV aq hj)];exact g2,g3⟩
  ·cases hi
theorem ym{P:Program}{dT sT ty e:TypeId}{esz dLen dCap n:Nat}{base:Option Addr}{x:Value}{rows:List (List PV)}{vs:List Value}
 (hu:P.underlying dT=some (.slice e)) (hs:bI P e=some esz) (bY:Src w ι.M x esz rows vs) (hn:n=min rows.length dLen):
 (Builtin.copy_ #[dT,sT] ty #[.slice base dLen dCap,x]).run P w=
  match base with
  |some a=>((storeCells a (vs.take (n*esz))).run P w).andThen λ_ w'=>.ok (goInt n) w'
  |none=>.ok (goInt n) w:=by
 have h5:=bY.first P n w (by omega) (Ext.refl w)
 have gx:Nat.min rows.length dLen=n:=hn.symm
 cases base<;>
  simp only[Builtin.copy_,abW,List.getElem?_cons_zero,List.getElem?_cons_succ,Sem.run_bind,run_underlying hu,Result.andThen_ok,bY.len,gx,run_sizeOf hs,h5,Sem.run_pure]
theorem O4(hr:Rel cx ι st a w){o:Oper}{s x:Operand}{s' x':aS}{dT sT e:TypeId}{esz:Nat}{c:Call}(ho:o.op=.call c)(eY:c.callee=.builtin .copy)
 (cS:c.args= #[s,x]) (kN:c.argTypes= #[dT,sT])
 (hu:cx.P.underlying dT=some (.slice e)) (hs:bI cx.P e=some esz) (dA:cOpd s=some s') (BT:cOpd x=some x') (hd:∀t,o.dst=some t→cx.bw t=true)
 {k:St→Prop} (h:iA cx.E false (.copy s' x' esz) o.dst st k) {Q:Exit→Act→World→Prop}:o.wp cx.P a w (Kc cx k) Q:=by
 have fj:=bt hr.mem.hr.gl hr.tm dA
 have bN:=bt hr.mem.hr.gl hr.tm BT
 have h:vcopy st (ev st s') (ev st x') esz o.dst k:=dh (k:=λx=>vcopy st (ev st s') x esz o.dst k) (dh (k:=λs=>force (ev st x') λx=>vcopy st s x esz o.dst k) h)
 generalize ev st s'=as at h fj
 generalize ev st x'=ax at h bN
 have run:∀v w',(Builtin.copy_ #[dT,sT] o.type #[a.eval s,a.eval x]).run cx.P w=.ok v w'→(execOp a.eval o).run cx.P w=.ok (.value v) w':=λv w' h1=>by
  simp[execOp,ho,resolve,eY,cS,kN,invoke,builtin,h1]
 generalize G2:a.eval s=vs at fj run
 generalize hex:a.eval x=vx at bN run
 unfold vcopy at h
 split at h
 ·rename_i b wd i len vu
  split at h
  ·rename_i b6 rows hn
   cases hw:(Nat.beq wd b6&&Nat.beq wd esz)with
   |false=>rw[hw]at h;exact h.elim
   |true=>
    rw[hw]at h
    simp only[cond_true]at h
    obtain⟨e1,e2⟩:=by simpa using hw
    subst e1;subst e2
    obtain⟨bz,new,⟨BY,hk⟩,bY⟩:=oy hr.mem.hr bN h
    generalize hm:min bz.length len=m at hk
    have eK:(bz.take m).length=m:=by simp;omega
    have d_:=bY.eZ.take m (by omega)
    have mn:=d_.1
    rw[eK]at mn
    cases fj with
    |c_ aR=>
     rename_i oa
     have gV:m=0:=by omega
     subst gV
     have aT:=ym (w:=w) (ι:=ι) (dT:=dT) (sT:=sT) (ty:=o.type) (base:=oa) (dLen:=0) (dCap:=0) (n:=0) hu hs bY (by omega)
     have fR:(execOp a.eval o).run cx.P w=.ok (.value (.int .i64 (0:Nat))) w:=by
      apply run
      rw[aT]
      cases oa with
      |none=>rfl
      |some ad=>simp[storeCells,goInt]
     have db:Mem cx ι (setNth st.heap b (.pr wd (rows.take i++bz.take 0++rows.drop (i+0)))) w:=by
      have:rows.take i++bz.take 0++rows.drop (i+0)=rows:=by simp
      rw[this]
      have:setNth st.heap b (.pr wd rows)=st.heap:=by
       rw[eA]
       apply abj
       intro j
       rw[aaZ]
       split
       ·rename_i e
        subst e
        rw[iC]at hn
        cases hq:st.heap[b]? with
        |none=>rw[hq]at hn;cases hn
        |some q=>
         rw[hq]at hn
         simp at hn
         subst hn
         simp[(aaK.1 hq).1]
       ·rfl
      rw[this];exact hr.mem
     exact dN fR ⟨ι,_,Rel.put (st:=⟨st.tmps,setNth st.heap b (.pr wd (rows.take i++bz.take 0++rows.drop (i+0)))⟩) ⟨db,hr.tm,hr.sz,hr.df⟩ hd (.p (.int _ _)),hk⟩
    |sl hb hl aR bS=>
     rename_i c o' s cc
     have bq:=hr.mem.hr.blk b
     rw[hn,hb]at bq
     obtain⟨cs,ty,fz,hc,ht,bM,qX,cq,bn⟩:=bq.at
     have hmul:(i+m)*wd≤rows.length*wd:=abl _ (by omega)
     rw[aaU]at hmul
     have hbound:o'+i*wd+(new.take (m*wd)).length≤cs.size:=by omega
     have aU:=nr (P:=cx.P) c (o'+i*wd) ty fz (new.take (m*wd)) 0 cs w hc (by omega) ht d_.one
     simp only[Nat.add_zero]at aU
     have aT:=ym (w:=w) (ι:=ι) (dT:=dT) (sT:=sT) (ty:=o.type) (base:=some ⟨c,o'+i*wd,none⟩) (dLen:=len) (dCap:=cc) (n:=m) hu hs bY (by omega)
     have fR:(execOp a.eval o).run cx.P w=.ok (.value (.int .i64 (m:Nat))) (bB w c (.cells (dD cs (o'+i*wd) (new.take (m*wd))) ty fz)):=by
      apply run
      rw[aT]
      simp only[aU]
      rfl
     have hblk:fE w ι (dD cs (o'+i*wd) (new.take (m*wd))) o' (.pr wd (rows.take i++bz.take m++rows.drop (i+m))):=by
      refine⟨?_,λn r aV=>?_,λn r j z aV hz=>?_⟩
      ·rw[eN _ _ _ hbound]
       have:=sS rows i (bz.take m) (by omega)
       rw[eK]at this
       rw[this];exact qX
      ·have hg:=pK rows i (bz.take m) (by omega) n
       rw[eK]at hg
       rw[hg]at aV
       split at aV
       ·exact d_.2.1 _ _ aV
       ·exact cq _ _ aV
      ·rw[ml _ _ _ hbound,mn]
       have hg:=pK rows i (bz.take m) (by omega) n
       rw[eK]at hg
       rw[hg]at aV
       split at aV
       ·rename_i a_
        obtain⟨g1,u,g2,g3⟩:=d_.2.2 _ _ j z aV hz
        have aq:=(aaK.1 g2).1
        have e3:n*wd=i*wd+(n - i)*wd:=by rw[←aaU];congr 1;omega
        rw[aaG (by omega)]
        exact⟨g1,u,by rw[←g2];congr 1;omega,g3⟩
       ·rename_i BV
        have hj:j<wd:=by rw[←cq _ _ aV];exact(aaK.1 hz).1
        rw[aaF]
        ·exact bn n r j z aV hz
        ·rintro ⟨q1,q2⟩
         rcases abz n i with h4|h4
         ·have:=qV h4 hj;omega
         ·have h5:i+m≤n:=by omega
          have:=abl wd h5
          rw[aaU]at this
          omega
     obtain⟨fS,hL⟩:=hr.mem.write hb (w':=bB w c (.cells (dD cs (o'+i*wd) (new.take (m*wd))) ty fz)) (blk:=.pr wd (rows.take i++bz.take m++rows.drop (i+m)))
      (λd z gk hz=>by rw[fg _ _ gk];exact hz) (by simp[bB]) ⟨rfl,rfl⟩
      (λhL=>by
       have:=(hblk.kK hL).rb (ty:=ty) (fz:=fz) (iG w c _ (aaW.1 hc).1) (by rw[eN _ _ _ hbound];exact ht)
       rw[eN _ _ _ hbound,bM]at this
       exact this) (by rw[hn];rfl)
     exact dN fR ⟨ι,_,Rel.put (st:=⟨st.tmps,setNth st.heap b (.pr wd (rows.take i++bz.take m++rows.drop (i+m)))⟩) ⟨fS,jd hL (λ_ _ h=>h) hr.tm,hr.sz,hr.df⟩ hd (.p (.int _ _)),hk⟩
  ·exact h.elim
 ·rename_i b wd i j e' len
  split at h
  ·rename_i b6 rows hn
   cases hw:(Nat.beq wd b6&&Nat.beq e' esz&&Nat.beq e' 1)with
   |false=>rw[hw]at h;exact h.elim
   |true=>
    rw[hw]at h
    simp only[cond_true]at h
    obtain⟨⟨e1,e2⟩,e3⟩:=by simpa using hw
    subst e1;subst e2;subst e3
    obtain⟨bz,new,⟨row,ys,bm,BY,nu,hk⟩,bY⟩:=oy hr.mem.hr bN h
    generalize hm:min bz.length len=m at hk nu
    have eK:(bz.take m).length=m:=by simp;omega
    have nC:ys.length=m:=by have:=aaH List.length nu;rw[eK]at this;simpa using this.symm
    have d_:=bY.eZ.take m (by omega)
    have mn:(new.take (m*1)).length=m:=by have:=d_.1;rw[eK]at this;omega
    cases fj with
    |iZ=>
     rename_i cc oa
     have gV:m=0:=by omega
     subst gV
     have aT:=ym (w:=w) (ι:=ι) (dT:=dT) (sT:=sT) (ty:=o.type) (base:=oa) (dLen:=0) (dCap:=cc) (n:=0) hu hs bY (by omega)
     have fR:(execOp a.eval o).run cx.P w=.ok (.value (.int .i64 (0:Nat))) w:=by
      apply run
      rw[aT]
      cases oa with
      |none=>rfl
      |some ad=>simp[storeCells,goInt]
     have vy:ys=[]:=aa1 nC
     subst vy
     have db:Mem cx ι (setNth st.heap b (.pr wd (rows.set i (row.take j++[]++row.drop (j+0))))) w:=by
      have:row.take j++[]++row.drop (j+0)=row:=by simp
      rw[this]
      have:rows.set i row=rows:=by
       apply abj
       intro n
       rw[aaZ]
       split
       ·rename_i e;subst e;rw[bm];simp[(aaK.1 bm).1]
       ·rfl
      rw[this]
      have:setNth st.heap b (.pr wd rows)=st.heap:=by
       rw[eA]
       apply abj
       intro j
       rw[aaZ]
       split
       ·rename_i e
        subst e
        rw[iC]at hn
        cases hq:st.heap[b]? with
        |none=>rw[hq]at hn;cases hn
        |some q=>
         rw[hq]at hn
         simp at hn
         subst hn
         simp[(aaK.1 hq).1]
       ·rfl
      rw[this];exact hr.mem
     exact dN fR ⟨ι,_,Rel.put (st:=⟨st.tmps,setNth st.heap b (.pr wd (rows.set i (row.take j++[]++row.drop (j+0))))⟩) ⟨db,hr.tm,hr.sz,hr.df⟩ hd (.p (.int _ _)),hk⟩
    |aF hb hl=>
     rename_i c o' s cc
     have bq:=hr.mem.hr.blk b
     rw[hn,hb]at bq
     obtain⟨cs,ty,fz,hc,ht,bM,qX,cq,bn⟩:=bq.at
     have pM:=cq i row bm
     have lH:i<rows.length:=(aaK.1 bm).1
     have GO:i*wd+wd≤rows.length*wd:=by
      have:=abl wd (show i+1≤rows.length from lH)
      rwa [aaU,abC]at this
     have hbound:o'+(i*wd+j)+(new.take (m*1)).length≤cs.size:=by omega
     have aU:=nr (P:=cx.P) c (o'+(i*wd+j)) ty fz (new.take (m*1)) 0 cs w hc (by omega) ht d_.one
     simp only[Nat.add_zero]at aU
     have aT:=ym (w:=w) (ι:=ι) (dT:=dT) (sT:=sT) (ty:=o.type) (base:=some ⟨c,o'+(i*wd+j),none⟩) (dLen:=len) (dCap:=cc) (n:=m) hu hs bY (by omega)
     have fR:(execOp a.eval o).run cx.P w=.ok (.value (.int .i64 (m:Nat))) (bB w c (.cells (dD cs (o'+(i*wd+j)) (new.take (m*1))) ty fz)):=by
      apply run
      rw[aT]
      simp only[aU]
      rfl
     have BN:(row.take j++ys++row.drop (j+m)).length=wd:=by
      rw[←nC,sS _ _ _ (by omega)];exact pM
     have hblk:fE w ι (dD cs (o'+(i*wd+j)) (new.take (m*1))) o' (.pr wd (rows.set i (row.take j++ys++row.drop (j+m)))):=by
      refine⟨by rw[eN _ _ _ hbound,abd];exact qX,λn r hr=>?_,λn r q z hr hz=>?_⟩
      ·rw[aaZ]at hr
       split at hr
       ·cases hr;exact BN
       ·exact cq n r hr
      ·rw[ml _ _ _ hbound,mn]
       rw[aaZ]at hr
       split at hr
       ·rename_i e
        subst e
        cases hr
        rw[←nC,pK _ _ _ (by omega)]at hz
        split at hz
        ·rename_i a_
         rw[aaG (by omega)]
         have O5:(bz.take m)[q - j]? =some [z]:=by rw[nu];simp[hz]
         obtain⟨g1,u,g2,g3⟩:=d_.2.2 _ _ 0 z O5 rfl
         exact⟨g1,u,by rw[←g2];congr 1;omega,g3⟩
        ·rename_i a_
         rw[aaF (by omega)]
         exact bn i row q z bm hz
       ·rename_i e
        have GP:q<wd:=by
         have:=(aaK.1 hz).1
         rw[cq n r hr]at this;exact this
        rw[aaF]
        ·exact bn n r q z hr hz
        ·rintro ⟨q1,q2⟩
         rcases adA e with h4|h4
         ·have:=abl wd (show i+1≤n from h4)
          rw[aaU,abC]at this
          omega
         ·have:=abl wd (show n+1≤i from h4)
          rw[aaU,abC]at this
          omega
     obtain⟨fS,hL⟩:=hr.mem.write hb (w':=bB w c (.cells (dD cs (o'+(i*wd+j)) (new.take (m*1))) ty fz)) (blk:=.pr wd (rows.set i (row.take j++ys++row.drop (j+m))))
      (λd z gk hz=>by rw[fg _ _ gk];exact hz) (by simp[bB]) ⟨rfl,rfl⟩
      (λhL=>by
       have:=(hblk.kK hL).rb (ty:=ty) (fz:=fz) (iG w c _ (aaW.1 hc).1) (by rw[eN _ _ _ hbound];exact ht)
       rw[eN _ _ _ hbound,bM]at this
       exact this) (by rw[hn];rfl)
     exact dN fR ⟨ι,_,Rel.put (st:=⟨st.tmps,setNth st.heap b (.pr wd (rows.set i (row.take j++ys++row.drop (j+m))))⟩) ⟨fS,jd hL (λ_ _ h=>h) hr.tm,hr.sz,hr.df⟩ hd (.p (.int _ _)),hk⟩
  ·exact h.elim
 ·exact h.elim
end
theorem fZ.len:∀{xs ys:List PV},fZ xs ys→xs.length=ys.length
 |_,_,.refl _=>rfl
 |_,_,.cons _ h=>by simp[h.len]
theorem kG.len:∀{xs ys:List (List PV)},kG xs ys→xs.length=ys.length
 |_,_,.refl _=>rfl
 |_,_,.cons _ h=>by simp[h.len]
theorem cP.one{x y:PV}(h:cP x y)(h1:x.one=true):y.one=true:=by
 cases h<;>first|exact h1|rfl
theorem fZ.get:∀{xs ys:List PV},fZ xs ys→∀(i:Nat) y,ys[i]? =some y→∃x,xs[i]? =some x∧cP x y
 |_,_,.refl _,i,y,h=>⟨y,h,.refl y⟩
 |_,_,.cons h0 h1,i,y,h=>by
  cases i with
  |zero=>simp at h;subst h;exact⟨_,rfl,h0⟩
  |succ i=>simp at h;simpa using h1.get i y h
theorem kG.get:∀{xs ys:List (List PV)},kG xs ys→∀(i:Nat) y,ys[i]? =some y→∃x,xs[i]? =some x∧fZ x y
 |_,_,.refl _,i,y,h=>⟨y,h,.refl y⟩
 |_,_,.cons h0 h1,i,y,h=>by
  cases i with
  |zero=>simp at h;subst h;exact⟨_,rfl,h0⟩
  |succ i=>simp at h;simpa using h1.get i y h
section
variable {w:World} {M:Nat→Prop}
theorem cP.sound{x:PV}{v:Value}(h:RP w M x v):∀{y:PV},cP x y→RP w M y v:=by
 induction h with
 |int k n=>intro y h;cases h;exact .int k n
 |b x=>intro y h;cases h;exact .b x
 |str l=>intro y h;cases h;exact .str l
 |lit v h=>intro y h';cases h';exact .lit v h
 |nil h=>
  intro y hle
  cases hle with
  |refl=>exact .nil h
  |au hr hc=>
   have:=hr.len
   rename_i rows' _
   have e:rows'=[]:=aa1 (by simpa using this.symm)
   subst e
   exact .nil λk hk=>h k (by rcases hc with rfl|rfl;cases hk;exact hk)
  |nil hc=>exact .nil λk hk=>h k (by rcases hc with rfl|rfl;cases hk;exact hk)
 |au hs hM hb hc aR bm bA bn dt ih=>
  intro y hle
  cases hle with
  |refl=>exact .au hs hM hb hc aR bm bA bn dt
  |au hr ja=>
   rename_i wd rows cap a c cv rows' gH
   have hlen:=hr.len
   have:=RP.au (rows:=rows') (cap:=gH) (cv:=cv) (wd:=wd) (c:=c) hs hM hb (by omega) (λk hk=>aR k (by rcases ja with rfl|rfl;cases hk;exact hk))
    (λi row hi=>by obtain⟨r0,h0,h1⟩:=hr.get i row hi;rw[←h1.len];exact bm i r0 h0)
    (λi row j x hi hx=>by
     obtain⟨r0,h0,h1⟩:=hr.get i row hi
     obtain⟨x0,g0,g1⟩:=h1.get j x hx
     exact g1.one (bA i r0 j x0 h0 g0))
    (λi row j x hi hx=>by
     obtain⟨r0,h0,h1⟩:=hr.get i row hi
     obtain⟨x0,g0,g1⟩:=h1.get j x hx
     exact bn i r0 j x0 h0 g0)
    (λi row j x hi hx=>by
     obtain⟨r0,h0,h1⟩:=hr.get i row hi
     obtain⟨x0,g0,g1⟩:=h1.get j x hx
     exact ih i r0 j x0 h0 g0 g1)
   rw[hlen];exact this
  |nil ja=>exact .nil λk hk=>aR k (by rcases ja with rfl|rfl;cases hk;exact hk)
 |b5 hs hM hb bA bn dt ih=>intro y h;cases h;exact .b5 hs hM hb bA bn dt
 |agg hl bA h ih=>
  intro y hle
  cases hle with
  |refl=>exact .agg hl bA h
  |agg hL=>
   refine .agg (by rw[hl,hL.len]) (λi y hy=>?_) (λi y hy=>?_)
   all_goals obtain⟨x0,g0,g1⟩:=hL.get i y hy
   ·exact g1.one (bA i x0 g0)
   ·exact ih i x0 g0 g1
 |fn h1 h2 h3 h4 iX iY=>intro y h;cases h;exact .fn h1 h2 h3 h4
 |bK h ih=>intro y h';cases h';exact .bK h
end
theorem ak.get{h:List Blk}{fz kp:Nat→Bool}:∀{xs ys:List AV},ak h fz kp xs ys→xs.length=ys.length∧∀(i:Nat) y,ys[i]? =some y→∃x,xs[i]? =some x∧ah h fz kp x y
 |_,_,.nil=>⟨rfl,by simp⟩
 |_,_,.cons h0 h1=>⟨by simp[h1.get.1],λi y hy=>by
  cases i with
  |zero=>simp at hy;subst hy;exact⟨_,rfl,h0⟩
  |succ i=>simp at hy;simpa using h1.get.2 i y hy⟩
section
variable {w:World} {ι bX:az} {h:List Blk} {fz kp:Nat→Bool}
theorem ah.sound(hr:bL ι h w)(oC:∀x:Bn,fz x.base=true→∀c o s,ι x=some (c,o,s)→¬bX.M c)(sW:∀b:Nat,kp b=true→∀p,ι b=some p→bX b=some p)
 (hM:∀c,bX.M c→ι.M c) {x:AV} {v:Value} (hx:RA w ι x v):∀{y:AV},ah h fz kp x y→RA w bX y v:=by
 have hL:bc ι.M w w bX.M:=⟨λ_ _ _ h=>h,λc hc=>.inl (hM c hc),aaJ _⟩
 induction hx with
 |p hp=>
  intro y hle
  cases hle with
  |p ji=>exact .p (ji.sound (hp.later hL))
  |aE=>exact .aE _
 |aE v=>
  intro y hle
  cases hle with
  |aE=>exact .aE _
 |ptr hb=>
  intro y hle
  cases hle with
  |aE=>exact .aE _
  |ptr hk=>exact .ptr (sW _ hk _ hb)
  |AY hf hn hi=>
   rename_i b wd i j c o s rows row
   obtain⟨h1,h2⟩:=hr.row hb hn hi
   have:=xU (w:=w) (M:=bX.M) (row:=row) (c:=c) (off:=o+i*wd) (λj x hx=>by
    obtain⟨h3,v,h4,h5⟩:=h2 j x hx
    exact⟨h3,v,by rw[←h4],h5.later hL⟩) (oC (.v b) hf _ _ _ hb) (hr.lt ⟨b,o,s,hb⟩) j
   rw[aaX]at this
   exact .p this
  |n3 hf hn=>
   rename_i b wd j c o s row
   have h0:=hr.blk b
   rw[hn,hb]at h0
   obtain⟨c',o',s',cs,ty,O6,he,h1,_,_,_,h4⟩:=h0
   cases he
   have:=xU (w:=w) (M:=bX.M) (row:=row) (c:=c) (off:=o) (λj x hx=>by
    obtain⟨v,v1,v2,v3⟩:=h4 j (.p x) (by rw[aaM,hx];rfl)
    have hp:=gW v3
    refine⟨hp.pB v2,v,?_,hp.later hL⟩
    simp[World.cell?,h1,v1]) (oC (.v b) hf _ _ _ hb) (hr.lt ⟨b,o,s,hb⟩) j
   refine .p ?_
   have e:o+(0*wd+j)=o+j:=by omega
   rw[e]
   exact this
  |sr hf hn=>
   rename_i b wd j c o s n arr row
   have h0:=hr.blk b
   rw[hn,hb]at h0
   obtain⟨_,c',o',s',cs,ty,O6,he,h1,_,_,_,h4⟩:=h0
   cases he
   have:=xU (w:=w) (M:=bX.M) (row:=arr++row) (c:=c) (off:=o) (λj x hx=>by
    obtain⟨v,v1,v2,v3⟩:=h4 j (.p x) (by rw[←abb,aaM,hx];rfl)
    have hp:=gW v3
    refine⟨hp.pB v2,v,?_,hp.later hL⟩
    simp[World.cell?,h1,v1]) (oC (.v b) hf _ _ _ hb) (hr.lt ⟨b,o,s,hb⟩) j
   refine .p ?_
   have e:o+(0*wd+j)=o+j:=by omega
   rw[e]
   exact this
 |sl hb hl aR hs=>
  intro y hle
  rename_i b wd i len c o s cc cap
  cases hle with
  |aE=>exact .aE _
  |sl hk hc=>exact .sl (sW _ hk _ hb) hl (λk hk=>aR k (by rcases hc with rfl|rfl;cases hk;exact hk)) hs
  |dI hf hn eW hlen hp=>
   rename_i rows rs y
   refine .p (hp.sound ?_)
   rw[gJ]at eW
   rw[←hlen]
   refine sF (ad:=⟨c,o+i*wd,none⟩) rfl (oC (.v b) hf _ _ _ hb) (hr.lt ⟨b,o,s,hb⟩) (by omega) (by simp) λn row hi=>?_
   have bp:rows[i+n]? =some row:=by
    have:((rows.drop i).take len)[n]? =some row:=by rw[eW];exact hi
    rw[abT]at this
    split at this
    ·rwa [abx]at this
    ·cases this
   obtain⟨h1,h2⟩:=hr.row hb hn bp
   refine⟨h1,λj x hx=>?_⟩
   obtain⟨h3,v,h4,h5⟩:=h2 j x hx
   exact⟨h3,v,by rw[←h4];congr 2;simp[aaU,aaX],h5.later hL⟩
  |xD hf hn fF hp=>exact .p (hp.sound (BI hr hn fF (λx hx=>oC x (by rw[hx];exact hf)) hL (.sl hb hl aR hs)))
 |c_ aR=>
  intro y hle
  cases hle with
  |aE=>exact .aE _
  |sl hk hc=>exact .c_ (λk hk=>aR k (by rcases hc with rfl|rfl;cases hk;exact hk))
  |dI hf hn eW hlen hp=>
   rename_i rows rs y
   have e:rs=[]:=aa1 hlen
   subst e
   exact .p (hp.sound (.nil (by simp)))
  |xD hf hn fF hp=>exact .p (hp.sound (BI hr hn fF (λx hx=>oC x (by rw[hx];exact hf)) hL (.c_ aR)))
 |b8 hb hl hs=>
  intro y hle
  cases hle with
  |aE=>exact .aE _
 |iB=>
  intro y hle
  cases hle with
  |aE=>exact .aE _
 |ip hb=>
  intro y hle
  cases hle with
  |aE=>exact .aE _
 |aF hb hl=>
  intro y hle
  cases hle with
  |aE=>exact .aE _
  |aF hk=>exact .aF (sW _ hk _ hb) hl
 |iZ=>
  intro y hle
  cases hle with
  |aE=>exact .aE _
  |aF hk=>exact .iZ
 |mpr hb=>
  intro y hle
  cases hle with
  |aE=>exact .aE _
  |mpr hk=>exact .mpr (sW _ hk _ hb)
 |agg hl bA hx ih=>
  intro y hle
  cases hle with
  |aE=>exact .aE _
  |agg hK=>
   obtain⟨e,g⟩:=hK.get
   refine .agg (by rw[hl,e]) (λi y hy=>?_) (λi y hy=>?_)
   all_goals obtain⟨x0,g0,g1⟩:=g i y hy
   ·exact bA i x0 g0
   ·exact ih i x0 g0 g1
  |qA hK=>
   obtain⟨e,g⟩:=hK.get
   rename_i cells cs ys
   have key:∀(i:Nat) y,ys[i]? =some y→dP (cs.getD i undef)=true∧RP w bX.M y (cs.getD i undef):=λi y hy=>by
    obtain⟨x0,g0,g1⟩:=g i (.p y) (by rw[aaM,hy];rfl)
    exact And.intro (bA i x0 g0) (gW (ih i x0 g0 g1))
   exact .p (.agg (by rw[hl,e];simp) (λi y hy=>(key i y hy).2.pB (key i y hy).1) (λi y hy=>(key i y hy).2))
 |aD hl hx ih=>
  intro y hle
  cases hle with
  |aE=>exact .aE _
  |aD hK=>
   obtain⟨e,g⟩:=hK.get
   refine .aD (by rw[hl,e]) (λi y hy=>?_)
   obtain⟨x0,g0,g1⟩:=g i y hy
   exact ih i x0 g0 g1
 |fn h1 h2 h3 h4 iX iY=>
  intro y hle
  cases hle with
  |aE=>exact .aE _
  |fn ha hc=>
   obtain⟨e1,g1⟩:=ha.get
   obtain⟨e2,g2⟩:=hc.get
   refine .fn (by rw[h1,e1]) (by rw[h2,e2]) (λi y hy=>?_) (λi y hy=>?_)
   ·obtain⟨x0,q0,q1⟩:=g1 i y hy;exact iX i x0 q0 q1
   ·obtain⟨x0,q0,q1⟩:=g2 i y hy;exact iY i x0 q0 q1
  |mZ ha hc=>
   obtain⟨e1,g1⟩:=ha.get
   obtain⟨e2,g2⟩:=hc.get
   refine .p (.fn (by rw[h1,e1];simp) (by rw[h2,e2];simp) (λi y hy=>?_) (λi y hy=>?_))
   ·obtain⟨x0,q0,q1⟩:=g1 i (.p y) (by rw[aaM,hy];rfl);exact gW (iX i x0 q0 q1)
   ·obtain⟨x0,q0,q1⟩:=g2 i (.p y) (by rw[aaM,hy];rfl);exact gW (iY i x0 q0 q1)
 |bK hx ih=>
  intro y hle
  cases hle with
  |aE=>exact .aE _
  |bK hK=>exact .bK (ih hK)
  |Nc hK=>exact .p (.bK (gW (ih hK)))
end
def fG(w:World)(ι:az)(args:List AV)(vs:Array Value):Prop:=vs.size=args.length∧∀(i:Nat) x,args[i]? =some x→RA w ι x (vs.getD i undef)
def Fn(P:Program):FC:=λf args H mv cH=>
 (∃fn,P.funcs[f]? =some fn∧fn.name≠ "runtime.NumGoroutine" ∧fn.body.isSome=true)∧
 ∀(w:World) (ι:az) (vs:Array Value),¬ι.G→(∀c,ι.X c→c<w.heap.size)→bL ι H w→fG w ι args vs→
  Calls P f vs w λe w'=>∃r v aC H',e=.returned v∧cH r H'∧H.length≤H'.length∧bL aC H' w'∧RA w' aC r v∧(aC.X=ι.X∧¬aC.G)∧
   (∀c (o:Obj),¬ι.I c→w.heap[c]? =some o→w'.heap[c]? =some o)∧w.heap.size≤w'.heap.size∧(∀c,aC.I c→ι.I c∨w.heap.size≤c)∧
   (w'.os=w.os∧w'.output=w.output)∧∀b,b<H.length→memN mv b=false→aC b=ι b
def B1(w:World)(M:Nat→Prop)(xs:List PV)(vs:Array Value):Prop:=vs.size=xs.length∧∀(i:Nat) x,xs[i]? =some x→RP w M x (vs.getD i undef)
def B2(P:Program)(X0:Nat→Prop)(J:Jn)(l:Nat):Prop:=
 ∀(y:List PV) (r:List (List PV)) (w:World) (T S X:Nat→Prop) (vs:Array Value),J (some (y::r)) w T S→(∀c,X0 c→X c)→(∀c,S c→X c)→B1 w (λc=>T c∨X c) y vs→
  YieldAt Fence.wide 0 P l vs w λe w'=>∃S',qG S w w' S'∧((e=.returned (.bool true)∧J (some r) w' T S')∨(e=.returned (.bool false)∧J none w' T S'))
def dS(P:Program)(g:Nat)(bu:List PV)(en:Bool)(ys:List (List PV)):Prop:=
 (∃fn,P.funcs[g]? =some fn∧fn.name≠ "runtime.NumGoroutine" ∧fn.body.isSome=true)∧
 ∀(l:Nat) (w:World) (X S:Nat→Prop) (J:Jn) (vs:Array Value),(∀c,S c→X c)→(∀c,X c→c<w.heap.size)→J.uX→(en=true→∀w T S,¬J (some []) w T S)→B2 P X J l→ga w X→J (some ys) w (λ_=>False) S→B1 w X bu vs→
  Calls P g (#[.func (.yield l) #[] #[]]++vs) w λe w'=>(∃v,e=.returned v)∧∃S',qG S w w' S'∧(J (some []) w' (λ_=>False) S'∨J none w' (λ_=>False) S')
theorem vz{l:List Nat}{n:Nat}:memN l n=true↔n∈l:=by
 induction l with
 |nil=>simp[memN]
 |cons x r ih=>simp[memN,ih];constructor<;>rintro (h|h)<;>simp_all
theorem B3{l:List Nat}{n:Nat}:memN l n=false↔n∉l:=by
 rw[←vz];simp
theorem O7{l:List Nat}(h:lA l=true):l.Nodup:=by
 induction l with
 |nil=>simp
 |cons x r ih=>
  simp only[lA,aaQ,abJ]at h
  exact ab2.2 ⟨B3.1 h.1,ih h.2⟩
theorem O8{l m:List Nat}(h:m_ l m=true):∀x∈m,x∉l:=by
 induction m with
 |nil=>simp
 |cons y r ih=>
  simp only[m_,aaQ,abJ]at h
  intro x hx
  rcases aa0.1 hx with rfl|hx
  ·exact B3.1 h.1
  ·exact ih h.2 x hx
theorem O9{h:List Blk}{l:List Nat}(hl:liveIds h l=true):∀b∈l,nth .dead h b≠.dead:=by
 induction l with
 |nil=>simp
 |cons y r ih=>
  simp only[liveIds,aaQ]at hl
  intro x hx
  rcases aa0.1 hx with rfl|hx
  ·intro e;rw[e]at hl;simp at hl
  ·exact ih hl.2 x hx
theorem O_{h:List Blk}{l:List Nat}(hl:liveIds h l=true):∀b∈l,∀n r,nth .dead h b≠.gh n r:=by
 induction l with
 |nil=>simp
 |cons y r ih=>
  simp only[liveIds,aaQ]at hl
  intro x hx
  rcases aa0.1 hx with rfl|hx
  ·intro n q e;rw[e]at hl;simp at hl
  ·exact ih hl.2 x hx
theorem Pa{h:List Blk}{l:List Nat}(hl:liveIds h l=true):∀b∈l,∀m n r,nth .dead h b≠.mi m n r:=by
 induction l with
 |nil=>simp
 |cons y r ih=>
  simp only[liveIds,aaQ]at hl
  intro x hx
  rcases aa0.1 hx with rfl|hx
  ·intro m n q e;rw[e]at hl;simp at hl
  ·exact ih hl.2 x hx
theorem B4{h:List Blk}{l:List Nat}(hl:liveIds h l=true):∀b∈l,(nth .dead h b).bare=true:=by
 induction l with
 |nil=>simp
 |cons y r ih=>
  simp only[liveIds,aaQ]at hl
  intro x hx
  rcases aa0.1 hx with rfl|hx
  ·cases hn:nth Blk.dead h x<;>rw[hn]at hl<;>first|rfl|(simp at hl)
  ·exact ih hl.2 x hx
theorem Bn.pO(f:Nat→Nat)(x:Bn):(x.map f).base=f x.base:=by cases x<;>rfl
theorem Bn.map_congr{f g:Nat→Nat}{x:Bn}(h:f x.base=g x.base):x.map f=x.map g:=by cases x<;>simp only[Bn.map,Bn.base]at* <;>rw[h]
theorem Bn.oD{f g:Nat→Nat}{x:Bn}(h:g (f x.base)=x.base):(x.map f).map g=x:=by cases x<;>simp only[Bn.map,Bn.base]at* <;>rw[h]
theorem HB.ren{w:World}{ι:az}{p q:Option (Nat×Nat×Nat)}{i:Nat}{x:Blk}(ids:List Nat)(n:Nat)(h:HB w ι p q i x):HB w ι p q i (x.ren ids n):=by
 cases x<;>exact h
theorem G4{n:Nat}{l:List Nat}(h:n5 n l=true):∀b∈l,b<n:=by
 induction l with
 |nil=>simp
 |cons y r ih=>
  simp only[n5,aaQ,ace]at h
  intro x hx
  rcases aa0.1 hx with rfl|hx
  ·exact h.1
  ·exact ih h.2 x hx
theorem G5{fx:Nat→Bool}{l:List Nat}(h:n4 fx l=true):∀b∈l,fx b=false:=by
 induction l with
 |nil=>simp
 |cons y r ih=>
  simp only[n4,aaQ,abJ]at h
  intro x hx
  rcases aa0.1 hx with rfl|hx
  ·exact h.1
  ·exact ih h.2 x hx
theorem qY{ids:List Nat}{n b:Nat}(h:b<ids.length):renB ids n b=nth 0 ids b:=by
 induction ids generalizing b with
 |nil=>simp at h
 |cons x r ih=>cases b with
  |zero=>rfl
  |succ b=>simp[renB,nth];exact ih (by simpa using h)
theorem sX{ids:List Nat}{n b:Nat}(h:ids.length≤b):renB ids n b=n+(b - ids.length):=by
 induction ids generalizing b with
 |nil=>rfl
 |cons x r ih=>cases b with
  |zero=>simp at h
  |succ b=>simp[renB];exact ih (by simpa using h)
theorem oE{ids:List Nat}{b:Nat}(h:b<ids.length):nth 0 ids b∈ids:=by
 rw[iC,aaI h];exact abA h
def idxN:List Nat→Nat→Nat
 |[],_=>0
 |x::r,n=>if x=n then 0 else idxN r n+1
theorem B5{l:List Nat}{n:Nat}(h:n∈l):idxN l n<l.length∧nth 0 l (idxN l n)=n:=by
 induction l with
 |nil=>cases h
 |cons x r ih=>
  unfold idxN
  by_cases e:x=n
  ·simp[e,nth]
  ·rw[aaF e]
   have:=ih ((aa0.1 h).resolve_left (abk e))
   simp[nth,this]
theorem B6{l:List Nat}(hd:l.Nodup){k:Nat}(h:k<l.length):idxN l (nth 0 l k)=k:=by
 induction l generalizing k with
 |nil=>simp at h
 |cons x r ih=>
  obtain⟨h1,h2⟩:=ab2.1 hd
  cases k with
  |zero=>simp[nth,idxN]
  |succ k=>
   have hk:k<r.length:=by simpa using h
   have e0:nth 0 (x::r) (k+1)=nth 0 r k:=rfl
   rw[e0]
   unfold idxN
   rw[aaF,ih h2 hk]
   intro e
   exact h1 (e▸oE hk)
theorem jy(ids:List Nat)(n:Nat)(l:List AV)(i:Nat):(AV.dW ids n l)[i]? =(l[i]?).map (AV.ren ids n):=by
 induction l generalizing i with
 |nil=>simp[AV.dW]
 |cons x r ih=>cases i<;>simp[AV.dW,ih]
theorem oF(ids:List Nat)(n:Nat):∀l:List PV,AV.dW ids n (l.map .p)=l.map .p
 |[]=>rfl
 |x::r=>by simp[AV.dW,AV.ren,oF ids n r]
theorem B7(ids:List Nat)(n:Nat)(l m:List AV):AV.dW ids n (l++m)=AV.dW ids n l++AV.dW ids n m:=by
 induction l with
 |nil=>rfl
 |cons x r ih=>simp[AV.dW,ih]
theorem jz(ids:List Nat)(n:Nat)(l:List AV):(AV.dW ids n l).length=l.length:=by
 induction l with
 |nil=>rfl
 |cons x r ih=>simp[AV.dW,ih]
theorem qZ(ids:List Nat)(n:Nat)(h:List Blk)(b:Nat):nth .dead (fA ids n h) b=(nth .dead h b).ren ids n:=by
 induction h generalizing b with
 |nil=>rfl
 |cons x r ih=>cases b with
  |zero=>rfl
  |succ b=>simp[fA,nth,ih]
theorem G6(ids:List Nat)(n:Nat)(h:List Blk):(fA ids n h).length=h.length:=by
 induction h with
 |nil=>rfl
 |cons x r ih=>simp[fA,ih]
theorem G7(h:List Blk)(ids:List Nat)(b:Nat)(hb:b<ids.length):nth .dead (getIds h ids) b=nth .dead h (nth 0 ids b):=by
 induction ids generalizing b with
 |nil=>simp at hb
 |cons x r ih=>cases b with
  |zero=>rfl
  |succ b=>simp[getIds,nth];exact ih b (by simpa using hb)
theorem Pb(h:List Blk):∀(ids:List Nat) (new:List Blk),ids.length≤new.length→(backH h ids new).length=h.length+(new.length - ids.length):=by
 intro ids
 induction ids generalizing h with
 |nil=>intro new _;simp[backH]
 |cons i r ih=>
  intro new hl
  cases new with
  |nil=>simp at hl
  |cons x s=>
   simp only[backH]
   rw[ih _ s (by simpa using hl)]
   simp[eA]
theorem Pc(h:List Blk):∀(ids:List Nat) (new:List Blk) (b:Nat),ids.Nodup→(∀i∈ids,i<h.length)→ids.length≤new.length→
 nth .dead (backH h ids new) b=if b∈ids then nth .dead new (idxN ids b)else if h.length≤b then nth .dead new (ids.length+(b - h.length))else nth .dead h b:=by
 intro ids
 induction ids generalizing h with
 |nil=>
  intro new b _ _ _
  simp only[backH,adb,abm,List.length_nil,aaL]
  rw[iC,iC,iC,abw]
  by_cases hb:b<h.length
  ·rw[aaG hb,aaF (by omega)]
  ·rw[aaF hb,aaG (by omega)]
 |cons i r ih=>
  intro new b hd aq hl
  obtain⟨h1,h2⟩:=ab2.1 hd
  cases new with
  |nil=>simp at hl
  |cons x s=>
   have hi:i<h.length:=aq i (by simp)
   simp only[backH]
   rw[ih (setNth h i x) s b h2 (λj hj=>by rw[eA,abd];exact aq j (by simp[hj])) (by simpa using hl)]
   have hlen:(setNth h i x).length=h.length:=by rw[eA,abd]
   rw[hlen]
   by_cases e:b=i
   ·subst e
    rw[aaF h1,aaF (by omega),aaG (by simp),da _ _ _ _ _ hi,aaG rfl]
    simp[idxN,nth]
   ·by_cases hm:b∈r
    ·rw[aaG hm,aaG (by simp[hm])]
     simp[idxN,abk e,nth]
    ·have fS:¬b∈i::r:=by simp[e,hm]
     simp only[aaF hm,aaF fS]
     by_cases dG:h.length≤b
     ·rw[aaG dG,aaG dG]
      simp only[List.length_cons]
      rw[show r.length+1+(b - h.length)=(r.length+(b - h.length))+1 by omega]
      rfl
     ·rw[aaF dG,aaF dG,da _ _ _ _ _ hi,aaF e]
theorem RA.B8{w:World}{ι fT:az}{ids:List Nat}{n:Nat}(hm:∀b p,ι (Bn.map (renB ids n) b)=some p→fT b=some p)(hM:∀c,fT.M c→ι.M c):
 ∀(x:AV) {v:Value},RA w ι (AV.ren ids n x) v→RA w fT x v:=by
 have hL:bc ι.M w w fT.M:=⟨λ_ _ _ h=>h,λc hc=>.inl (hM c hc),aaJ _⟩
 have main:∀(y:AV) {v:Value},RA w ι y v→∀x,y=AV.ren ids n x→RA w fT x v:=by
  intro y v h
  induction h with
  |p hp=>intro x e;cases x<;>simp only[AV.ren]at e<;>first|(cases e;exact .p (hp.later hL))|(cases e)
  |aE v=>intro x e;cases x<;>simp only[AV.ren]at e<;>first|exact .aE _|(cases e)
  |ptr hb=>intro x e;cases x<;>simp only[AV.ren]at e<;>first|(cases e;exact .ptr (hm (.v _) _ hb))|(cases e)
  |sl hb hl aR hs=>intro x e;cases x<;>simp only[AV.ren]at e<;>first|(cases e;exact .sl (hm (.v _) _ hb) hl aR hs)|(cases e)
  |c_ aR=>intro x e;cases x<;>simp only[AV.ren]at e<;>first|(cases e;exact .c_ aR)|(cases e)
  |aF hb hl=>intro x e;cases x<;>simp only[AV.ren]at e<;>first|(cases e;exact .aF (hm (.v _) _ hb) hl)|(cases e)
  |iZ=>intro x e;cases x<;>simp only[AV.ren]at e<;>first|(cases e;exact .iZ)|(cases e)
  |mpr hb=>intro x e;cases x<;>simp only[AV.ren]at e<;>first|(cases e;exact .mpr (hm (.v _) _ hb))|(cases e)
  |b8 hb hl hs=>intro x e;cases x<;>simp only[AV.ren]at e<;>first|(cases e;exact .b8 (hm (.h _ _) _ hb) hl hs)|(cases e)
  |iB=>intro x e;cases x<;>simp only[AV.ren]at e<;>first|(cases e;exact .iB)|(cases e)
  |ip hb=>intro x e;cases x<;>simp only[AV.ren]at e<;>first|(cases e;exact .ip (hm (.h _ _) _ hb))|(cases e)
  |agg hl bA h ih=>
   intro x e
   cases x<;>simp only[AV.ren]at e<;>first|(cases e;done)|skip
   rename_i l
   cases e
   refine .agg (by rw[hl,jz]) (λi y hy=>bA i (AV.ren ids n y) (by rw[jy,hy];rfl)) (λi y hy=>ih i (AV.ren ids n y) (by rw[jy,hy];rfl) y rfl)
  |aD hl h ih=>
   intro x e
   cases x<;>simp only[AV.ren]at e<;>first|(cases e;done)|skip
   rename_i l
   cases e
   refine .aD (by rw[hl,jz]) (λi y hy=>ih i (AV.ren ids n y) (by rw[jy,hy];rfl) y rfl)
  |fn h1 h2 h3 h4 iX iY=>
   intro x e
   cases x<;>simp only[AV.ren]at e<;>first|(cases e;done)|skip
   cases e
   refine .fn (by rw[h1,jz]) (by rw[h2,jz]) (λi y hy=>iX i (AV.ren ids n y) (by rw[jy,hy];rfl) y rfl) (λi y hy=>iY i (AV.ren ids n y) (by rw[jy,hy];rfl) y rfl)
  |bK h ih=>
   intro x e
   cases x<;>simp only[AV.ren]at e<;>first|(cases e;done)|skip
   cases e
   exact .bK (ih _ rfl)
 exact λx v h=>main _ h x rfl
theorem RA.ren{w:World}{ι fT:az}{ids:List Nat}{n:Nat}(hm:∀b p,fT b=some p→ι (Bn.map (renB ids n) b)=some p)(hM:∀c,ι.M c→fT.M c){x:AV}{v:Value}(h:RA w fT x v):
 RA w ι (AV.ren ids n x) v:=by
 have hL:bc fT.M w w ι.M:=⟨λ_ _ _ h=>h,λc hc=>.inl (hM c hc),aaJ _⟩
 induction h with
 |p hp=>exact .p (hp.later hL)
 |aE v=>exact .aE v
 |ptr hb=>exact .ptr (hm (.v _) _ hb)
 |sl hb hl aR hs=>exact .sl (hm (.v _) _ hb) hl aR hs
 |c_ aR=>exact .c_ aR
 |aF hb hl=>exact .aF (hm (.v _) _ hb) hl
 |iZ=>exact .iZ
 |mpr hb=>exact .mpr (hm (.v _) _ hb)
 |b8 hb hl hs=>exact .b8 (hm (.h _ _) _ hb) hl hs
 |iB=>exact .iB
 |ip hb=>exact .ip (hm (.h _ _) _ hb)
 |agg hl bA h ih=>
  refine .agg (by rw[hl,jz]) (λi y hy=>?_) (λi y hy=>?_)
  all_goals
   rw[jy]at hy
   obtain⟨z,hz,rfl⟩:=aaO.1 hy
  ·exact bA i z hz
  ·exact ih i z hz
 |aD hl h ih=>
  refine .aD (by rw[hl,jz]) (λi y hy=>?_)
  rw[jy]at hy
  obtain⟨z,hz,rfl⟩:=aaO.1 hy
  exact ih i z hz
 |fn h1 h2 h3 h4 iX iY=>
  refine .fn (by rw[h1,jz]) (by rw[h2,jz]) (λi y hy=>?_) (λi y hy=>?_)
  all_goals
   rw[jy]at hy
   obtain⟨z,hz,rfl⟩:=aaO.1 hy
  ·exact iX i z hz
  ·exact iY i z hz
 |bK h ih=>exact .bK ih
theorem B9{l:List PV}(h:flatPL l=true):∀x∈l,flatP x=true:=by
 induction l with
 |nil=>simp
 |cons y r ih=>
  simp only[flatPL,aaQ]at h
  intro x hx
  rcases aa0.1 hx with rfl|hx
  ·exact h.1
  ·exact ih h.2 x hx
theorem Pd{l:List AV}(h:xE l=true):∀x∈l,flatV x=true:=by
 induction l with
 |nil=>simp
 |cons y r ih=>
  simp only[xE,aaQ]at h
  intro x hx
  rcases aa0.1 hx with rfl|hx
  ·exact h.1
  ·exact ih h.2 x hx
theorem RP.flat{w w':World}{M M':Nat→Prop}{x:PV}{v:Value}(h:RP w M x v):flatP x=true→RP w' M' x v:=by
 induction h with
 |int k n=>intro _;exact .int k n
 |b x=>intro _;exact .b x
 |str l=>intro _;exact .str l
 |lit v h=>intro _;exact .lit v h
 |nil h=>intro hf;simp[flatP]at hf
 |au=>intro hf;simp[flatP]at hf
 |b5=>intro hf;simp[flatP]at hf
 |agg hl bA h ih=>
  intro hf
  simp only[flatP]at hf
  exact .agg hl bA λi x hx=>ih i x hx (B9 hf _ (aaY hx))
 |fn h1 h2 h3 h4 iX iY=>
  intro hf
  simp only[flatP,aaQ]at hf
  exact .fn h1 h2 (λi x hx=>iX i x hx (B9 hf.1 _ (aaY hx))) (λi x hx=>iY i x hx (B9 hf.2 _ (aaY hx)))
 |bK h ih=>intro hf;simp only[flatP]at hf;exact .bK (ih hf)
theorem RA.flat{w w':World}{ι aC:az}{x:AV}{v:Value}(h:RA w ι x v):flatV x=true→∀ids n,RA w' aC (AV.ren ids n x) v:=by
 induction h with
 |p h=>intro hf ids n;exact .p (h.flat hf)
 |aD hl h ih=>
  intro hf ids n
  simp only[flatV]at hf
  refine .aD (by rw[hl,jz]) (λi y hy=>?_)
  rw[jy]at hy
  obtain⟨z,hz,rfl⟩:=aaO.1 hy
  exact ih i z hz (Pd hf _ (aaY hz)) ids n
 |_=>intro hf;simp[flatV]at hf
def AV.kills:List Nat→AV→AV
 |[],x=>x
 |b::r,x=>AV.kills r (x.kill b)
def AV.killsL:List Nat→List AV→List AV
 |[],x=>x
 |b::r,x=>AV.killsL r (AV.killL b x)
def Blk.kills:List Nat→Blk→Blk
 |[],x=>x
 |b::r,x=>Blk.kills r (x.kill b)
theorem Pe(k1 k2:List Nat)(x:AV):AV.kills (k1++k2) x=AV.kills k2 (AV.kills k1 x):=by
 induction k1 generalizing x with
 |nil=>rfl
 |cons b r ih=>exact ih _
theorem G8(k1 k2:List Nat)(x:Blk):Blk.kills (k1++k2) x=Blk.kills k2 (Blk.kills k1 x):=by
 induction k1 generalizing x with
 |nil=>rfl
 |cons b r ih=>exact ih _
theorem vA(ks:List Nat)(l:List AV)(i:Nat):(AV.killsL ks l)[i]? =(l[i]?).map (AV.kills ks):=by
 induction ks generalizing l with
 |nil=>simp[AV.killsL,AV.kills]
 |cons b r ih=>simp only[AV.killsL,ih,sw,Option.map_map];rfl
theorem sY(ks:List Nat)(l:List AV):(AV.killsL ks l).length=l.length:=by
 induction ks generalizing l with
 |nil=>rfl
 |cons b r ih=>simp[AV.killsL,ih,qC]
theorem q7(ks:List Nat):AV.kills ks .undef=.undef:=by
 induction ks with
 |nil=>rfl
 |cons b r ih=>exact ih
theorem Pf(ks:List Nat)(x:PV):AV.kills ks (.p x)=.p x:=by
 induction ks with
 |nil=>rfl
 |cons b r ih=>exact ih
theorem Pg(ks:List Nat)(l:List AV):AV.kills ks (.agg l)=.agg (AV.killsL ks l):=by
 induction ks generalizing l with
 |nil=>rfl
 |cons b r ih=>exact ih _
theorem Ph(ks:List Nat)(l:List AV):AV.kills ks (.aD l)=.aD (AV.killsL ks l):=by
 induction ks generalizing l with
 |nil=>rfl
 |cons b r ih=>exact ih _
theorem Pj(ks:List Nat)(f:Nat)(x y:List AV):AV.kills ks (.fn f x y)=.fn f (AV.killsL ks x) (AV.killsL ks y):=by
 induction ks generalizing x y with
 |nil=>rfl
 |cons b r ih=>exact ih _ _
theorem Pk(ks:List Nat)(t:TypeId)(x:AV):AV.kills ks (.bK t x)=.bK t (AV.kills ks x):=by
 induction ks generalizing x with
 |nil=>rfl
 |cons b r ih=>exact ih _
theorem Pm(ks:List Nat)(b w i j:Nat):AV.kills ks (.ptr b w i j)=if b∈ks then .undef else .ptr b w i j:=by
 induction ks with
 |nil=>simp[AV.kills]
 |cons c r ih=>
  by_cases e:b=c
  ·subst e;simp[AV.kills,AV.kill,q7,Bn.hitV]
  ·simp[AV.kills,AV.kill,Bn.hitV,f_ e,ih,e]
theorem G9(ks:List Nat)(b w i l:Nat)(c:Option Nat):AV.kills ks (.sl b w i l c)=if b∈ks then .undef else .sl b w i l c:=by
 induction ks with
 |nil=>simp[AV.kills]
 |cons c' r ih=>
  by_cases e:b=c'
  ·subst e;simp[AV.kills,AV.kill,q7,Bn.hitV]
  ·simp[AV.kills,AV.kill,Bn.hitV,f_ e,ih,e]
theorem G_(ks:List Nat)(b w i j e l:Nat):AV.kills ks (.aF b w i j e l)=if b∈ks then .undef else .aF b w i j e l:=by
 induction ks with
 |nil=>simp[AV.kills]
 |cons c' r ih=>
  by_cases e':b=c'
  ·subst e';simp[AV.kills,AV.kill,q7,Bn.hitV]
  ·simp[AV.kills,AV.kill,Bn.hitV,f_ e',ih,e']
theorem Pn(ks:List Nat)(b:Nat):AV.kills ks (.mpr b)=if b∈ks then .undef else .mpr b:=by
 induction ks with
 |nil=>simp[AV.kills]
 |cons c' r ih=>
  by_cases e':b=c'
  ·subst e';simp[AV.kills,AV.kill,q7,Bn.hitV]
  ·simp[AV.kills,AV.kill,Bn.hitV,f_ e',ih,e']
theorem Ha(ks:List Nat)(b w i l:Nat):AV.kills ks (.b8 b w i l)=if b∈ks then .undef else .b8 b w i l:=by
 induction ks with
 |nil=>simp[AV.kills]
 |cons c' r ih=>
  by_cases e':b=c'
  ·subst e';simp[AV.kills,AV.kill,q7,Bn.hitH]
  ·simp[AV.kills,AV.kill,Bn.hitH,f_ e',ih,e']
theorem Po(ks:List Nat)(b w i r j:Nat):AV.kills ks (.ip b w i r j)=if b∈ks then .undef else .ip b w i r j:=by
 induction ks with
 |nil=>simp[AV.kills]
 |cons c' r ih=>
  by_cases e':b=c'
  ·subst e';simp[AV.kills,AV.kill,q7,Bn.hitH]
  ·simp[AV.kills,AV.kill,Bn.hitH,f_ e',ih,e']
theorem RA.kills{w w':World}{ι aC:az}{ks:List Nat}(hL:bc ι.M w w' aC.M)(bh:∀b:Bn,b.base∉ks→∀p,ι b=some p→aC b=some p){x:AV}{v:Value}(h:RA w ι x v):
 RA w' aC (x.kills ks) v:=by
 induction h with
 |p h=>rw[Pf];exact .p (h.later hL)
 |aE v=>rw[q7];exact .aE v
 |ptr h=>rw[Pm];split;exact .aE _;exact .ptr (bh (.v _) (by assumption) _ h)
 |sl h hl aR hs=>rw[G9];split;exact .aE _;exact .sl (bh (.v _) (by assumption) _ h) hl aR hs
 |c_ aR=>rw[G9];split;exact .aE _;exact .c_ aR
 |aF h hl=>rw[G_];split;exact .aE _;exact .aF (bh (.v _) (by assumption) _ h) hl
 |iZ=>rw[G_];split;exact .aE _;exact .iZ
 |mpr h=>rw[Pn];split;exact .aE _;exact .mpr (bh (.v _) (by assumption) _ h)
 |b8 h hl hs=>rw[Ha];split;exact .aE _;exact .b8 (bh (.h _ _) (by assumption) _ h) hl hs
 |iB=>rw[Ha];split;exact .aE _;exact .iB
 |ip h=>rw[Po];split;exact .aE _;exact .ip (bh (.h _ _) (by assumption) _ h)
 |agg hl bA h ih=>
  rw[Pg]
  refine .agg (by rw[hl,sY]) (λi y hy=>?_) (λi y hy=>?_)
  all_goals rw[vA]at hy;obtain⟨z,hz,rfl⟩:=aaO.1 hy
  ·exact bA i z hz
  ·exact ih i z hz
 |aD hl h ih=>
  rw[Ph]
  refine .aD (by rw[hl,sY]) (λi y hy=>?_)
  rw[vA]at hy;obtain⟨z,hz,rfl⟩:=aaO.1 hy
  exact ih i z hz
 |fn h1 h2 h3 h4 iX iY=>
  rw[Pj]
  refine .fn (by rw[h1,sY]) (by rw[h2,sY]) (λi y hy=>?_) (λi y hy=>?_)
  all_goals rw[vA]at hy;obtain⟨z,hz,rfl⟩:=aaO.1 hy
  ·exact iX i z hz
  ·exact iY i z hz
 |bK h ih=>rw[Pk];exact .bK ih
theorem sZ(ks:List Nat):Blk.kills ks .dead=.dead:=by
 induction ks with
 |nil=>rfl
 |cons b r ih=>exact ih
theorem Hb(ks:List Nat)(wd:Nat)(rows:List (List PV)):Blk.kills ks (.pr wd rows)=.pr wd rows:=by
 induction ks with
 |nil=>rfl
 |cons b r ih=>exact ih
theorem Hc(ks:List Nat)(l:List AV):Blk.kills ks (.mx l)=.mx (AV.killsL ks l):=by
 induction ks generalizing l with
 |nil=>rfl
 |cons b r ih=>exact ih _
theorem Hd(ks:List Nat)(ag:Bool)(k:List CK)(e:List (PV×PV)):Blk.kills ks (.mp ag k e)=.mp ag k e:=by
 induction ks with
 |nil=>rfl
 |cons b r ih=>exact ih
theorem He(ks:List Nat)(l:Nat)(r:Option (List (List PV))):Blk.kills ks (.gh l r)=.gh l r:=by
 induction ks with
 |nil=>rfl
 |cons b r ih=>exact ih
theorem Hf(ks:List Nat)(n:Nat)(a:List PV)(l:List AV):Blk.kills ks (.ax n a l)=.ax n a (AV.killsL ks l):=by
 induction ks generalizing l with
 |nil=>rfl
 |cons b r ih=>exact ih _
theorem Hg(ks:List Nat)(wo wd:Nat)(c:List (Bool×List (List PV)))(op:Option Nat):Blk.kills ks (.pn wo wd c op)=.pn wo wd c op:=by
 induction ks with
 |nil=>rfl
 |cons b r ih=>exact ih
theorem Hh(ks:List Nat)(ag:Bool)(k:List CK)(wd:Nat)(e:List (PV×List (List PV)))(op:Option Nat):Blk.kills ks (.bF ag k wd e op)=.bF ag k wd e op:=by
 induction ks with
 |nil=>rfl
 |cons b r ih=>exact ih
theorem Hi(ks:List Nat)(m:Option Nat)(n:Nat)(s:List Nat):Blk.kills ks (.mi m n s)=.mi (match m with|some b=>if b∈ks then none else some b|none=>none) n s:=by
 induction ks generalizing m with
 |nil=>cases m<;>simp[Blk.kills]
 |cons b r ih=>
  cases m with
  |none=>exact ih none
  |some m=>
   by_cases e:m=b
   ·subst e;simp[Blk.kills,Blk.kill,Bn.hitV,ih]
   ·simp[Blk.kills,Blk.kill,Bn.hitV,f_ e,ih,e]
theorem HB.kills{w:World}{ι:az}{p q:Option (Nat×Nat×Nat)}{i:Nat}(ks:List Nat){x:Blk}(h:HB w ι p q i x):HB w ι p q i (x.kills ks):=by
 induction ks generalizing x with
 |nil=>exact h
 |cons b r ih=>exact ih (h.kill _)
theorem Hj(ks:List Nat)(a:List PV)(l:List AV):AV.killsL ks (a.map AV.p++l)=a.map AV.p++AV.killsL ks l:=by
 induction ks generalizing l with
 |nil=>rfl
 |cons b r ih=>
  show AV.killsL r (AV.killL b (a.map AV.p++l))=_
  rw[FP,FO];exact ih _
theorem Hl{ks:List Nat}{x:Blk}{l:Nat}{r:Option (List (List PV))}(h:x.kills ks=.gh l r):x=.gh l r:=by
 cases x with
 |dead=>rw[sZ]at h;cases h
 |mx c=>rw[Hc]at h;cases h
 |pr w r=>rw[Hb]at h;cases h
 |mp _ _ _=>rw[Hd]at h;cases h
 |gh _ _=>rw[He]at h;exact h
 |ax _ _ _=>rw[Hf]at h;cases h
 |pn _ _ _ _=>rw[Hg]at h;cases h
 |bF _ _ _ _ _=>rw[Hh]at h;cases h
 |mi _ _ _=>rw[Hi]at h;cases h
theorem RB.kills{w w':World}{ι aC:az}{ks:List Nat}{p:Option (Nat×Nat×Nat)}(hL:bc ι.M w w' aC.M)(hG:ι.G→aC.G)(bh:∀b:Bn,b.base∉ks→∀p,ι b=some p→aC b=some p)
 (hk:∀c o s,p=some (c,o,s)→w'.heap[c]? =w.heap[c]?) {x:Blk} (h:RB w ι p x):RB w' aC p (x.kills ks):=by
 cases x with
 |dead=>rw[sZ];exact h
 |mx cells=>
  rw[Hc]
  obtain⟨c,o,s,cs,ty,fz,hp,h1,hf,h2,h3,h4⟩:=h
  refine⟨c,o,s,cs,ty,fz,hp,by rw[hk _ _ _ hp,h1],hf,h2,by rw[sY];exact h3,λj x hx=>?_⟩
  rw[vA]at hx;obtain⟨y,hy,rfl⟩:=aaO.1 hx
  obtain⟨v,hv,ho,hr⟩:=h4 j y hy
  exact⟨v,hv,ho,hr.kills hL bh⟩
 |pr wd rows=>
  rw[Hb]
  rcases h with h|⟨c,o,s,cs,ty,fz,hp,h1,hf,h2,h3,h4,h5⟩
  ·exact .inl h
  ·refine .inr ⟨c,o,s,cs,ty,fz,hp,by rw[hk _ _ _ hp,h1],hf,h2,h3,h4,λi row j x hi hx=>?_⟩
   obtain⟨ho,v,hv,hr⟩:=h5 i row j x hi hx
   exact⟨ho,v,hv,hr.later hL⟩
 |mp ag k e=>
  rw[Hd]
  obtain⟨c,o,s,hp,h1⟩:=h
  exact⟨c,o,s,hp,h1.later hL (hk _ _ _ hp)⟩
 |gh l r=>rw[He];exact⟨h.1,hG h.2⟩
 |pn wo wd c op=>rw[Hg];exact RB.sx hL hk h
 |bF ag k wd e op=>rw[Hh];exact RB.sy hL hk h
 |mi m n s=>
  rw[Hi]
  refine RB.qE (λb hb=>?_) hk h
  cases m with
  |none=>cases hb
  |some m=>
   simp only at hb
   split at hb
   ·cases hb
   ·rename_i hn
    have hb:=ada hb
    subst hb
    exact⟨m,rfl,λp hp=>bh (.v m) hn _ hp⟩
 |ax n arr cells=>
  rw[Hf]
  obtain⟨hn,c,o,s,cs,ty,fz,hp,h1,hf,h2,h3,h4⟩:=h
  refine⟨hn,c,o,s,cs,ty,fz,hp,by rw[hk _ _ _ hp,h1],hf,h2,by rw[←Hj,sY];exact h3,λj x hx=>?_⟩
  rw[←Hj,vA]at hx;obtain⟨y,hy,rfl⟩:=aaO.1 hx
  obtain⟨v,hv,ho,hr⟩:=h4 j y hy
  exact⟨v,hv,ho,hr.kills hL bh⟩
theorem Pp(ks:List Nat)(st:St)(s:Nat):lk (killAll ks st).tmps s=(lk st.tmps s).kills ks:=by
 induction ks generalizing st with
 |nil=>rfl
 |cons b r ih=>simp only[killAll,ih,AV.kills];rw[show(st.kill b).tmps=killT b st.tmps from rfl,qF]
theorem B_(ks:List Nat)(st:St)(n:Nat):nth .dead (killAll ks st).heap n=(nth .dead st.heap n).kills ks:=by
 induction ks generalizing st with
 |nil=>rfl
 |cons b r ih=>simp only[killAll,ih,Blk.kills];rw[show(st.kill b).heap=killH b st.heap from rfl,jZ]
theorem Pq(ks:List Nat)(st:St):(killAll ks st).heap.length=st.heap.length:=by
 induction ks generalizing st with
 |nil=>rfl
 |cons b r ih=>simp only[killAll,ih];exact fc _ _
theorem Ps(fr:List Nat)(st:St)(s:Nat):lk (eV fr st).tmps s=(lk st.tmps s).kills fr:=by
 induction fr generalizing st with
 |nil=>rfl
 |cons b r ih=>simp only[eV,ih,AV.kills,qF]
theorem Pt(fr:List Nat)(st:St):(eV fr st).heap.length=st.heap.length:=by
 induction fr generalizing st with
 |nil=>rfl
 |cons b r ih=>simp only[eV,ih,GK]
theorem Ca(fr:List Nat)(st:St)(hb:∀b∈fr,b<st.heap.length)(n:Nat):nth .dead (eV fr st).heap n=if n∈fr then .dead else(nth .dead st.heap n).kills fr:=by
 induction fr generalizing st with
 |nil=>simp[eV,Blk.kills]
 |cons b r ih=>
  simp only[eV]
  rw[ih _ (λc hc=>by simp only[GK];exact hb c (by simp[hc]))]
  have aq:b<(killH b st.heap).length:=by rw[fc];exact hb b (by simp)
  by_cases h1:n∈r
  ·simp[h1]
  ·rw[aaF h1,da _ _ _ _ _ aq]
   by_cases h2:n=b
   ·simp[h2,sZ]
   ·simp[h1,h2,Blk.kills,jZ]
section
variable {cx:Cx} {ι:az} {st:St} {a:Act} {w:World}
theorem Hm{P:Program}{f:Nat}{vs:Array Value}(h:∃fn,P.funcs[f]? =some fn∧fn.name≠ "runtime.NumGoroutine" ∧fn.body.isSome=true)(w:World):
 (callFunc f vs).run P w=.ok (.enter f vs) w:=by
 obtain⟨fn,h1,h2,h3⟩:=h
 have h4:fn.body.isNone=false:=by cases hb:fn.body<;>simp_all
 simp only[callFunc,Sem.run_bind,run_program,Result.andThen_ok,h1]
 rw[aaF (by simpa using h2),h4]
 simp
theorem vB(hF:∀f args H mv cH,cx.E.F f args H mv cH→Fn cx.P f args H mv cH)(hr:Rel cx ι st a w){o:Oper}{f:Nat}{args:List AV}{vs:Array Value}
 (aT:(execOp a.eval o).run cx.P w=(callFunc f vs).run cx.P w) (cS:fG w ι args vs) (hd:∀t,o.dst=some t→cx.bw t=true) {q:Bool} {k:St→Prop}
 (h:iV cx.E q f args o.dst st k) {Q:Exit→Act→World→Prop}:o.wp cx.P a w (g_ cx q w k) Q:=by
 have h:=h.1
 unfold l9 at h
 obtain⟨ids,H,gI,mv,cH,fr,flat,hc,⟨hq,Pu,Cb,Cc,Hn,vC,hlen,Pv,Cd,q8⟩,hH,hK,hk⟩:=h
 obtain⟨Ce,mo⟩:=hF _ _ _ _ _ hc
 have Cb:=G5 Cb
 have Cc:=G5 Cc
 have Hn:=G4 Hn
 have vC:=G4 vC
 have ia:=O7 Pv
 have Cd:=O8 Cd
 have Cf:=q8
 have q8:=O9 q8
 have Cg:∀i∈ids,i<st.heap.length:=λi hi=>hr.mem.hr.fO (q8 i hi)
 have Ho:∀b:Bn,st.heap.length≤b.base→ι b=none:=λb hb=>by
  cases hq:ι b with
  |none=>rfl
  |some p=>
   obtain⟨c',o',s'⟩:=p
   obtain⟨ob,_,yn⟩:=hr.mem.hr.size hq
   have:=hr.mem.hr.fO yn;omega
 have Ch:flat=true→ids=[]∧fr=[]:=λhf=>by
  rw[hf]at Pu
  cases ids<;>cases fr<;>simp_all [isNil]
 let Xc:Nat→Prop:=λc=>ι.X c∨(flat=false∧∃(b:Bn) (o s:Nat),b.base∉ids∧b.base∉fr∧ι b=some (c,o,s))
 let bX:az:=⟨λb=>if b.base∈ids then ι b else none,Xc,λ_=>False,[],False⟩
 have pJ:∀(b:Bn) c o s,bX b=some (c,o,s)→b.base∈ids∧ι b=some (c,o,s):=λb c o s hb=>by
  have hb:(if b.base∈ids then ι b else none)=some (c,o,s):=hb
  split at hb
  ·exact⟨by assumption,hb⟩
  ·cases hb
 have Hp:∀c,bX.M c→ι.M c:=λc hc=>by
  rcases hc with⟨b,o,s,hb⟩|hX|⟨_,b,o,s,_,_,hb⟩
  ·exact .inl ⟨b,o,s,(pJ _ _ _ _ hb).2⟩
  ·exact .inr hX
  ·exact .inl ⟨b,o,s,hb⟩
 have oC:∀b:Bn,(flat||memN fr b.base)=true→∀c o s,ι b=some (c,o,s)→¬bX.M c:=by
  intro b hb c o s kS pP
  rcases pP with⟨b',o',s',a7⟩|hX|⟨hf,b',o',s',h1,h2,a7⟩
  ·obtain⟨a_,a7⟩:=pJ _ _ _ _ a7
   have:=hr.mem.hr.inj _ _ _ _ _ _ _ kS a7
   subst this
   cases ib:flat with
   |true=>obtain⟨e,_⟩:=Ch ib;rw[e]at a_;cases a_
   |false=>
    rw[ib]at hb
    exact Cd b.base (vz.1 (by simpa using hb)) a_
  ·exact hr.mem.hr.cC _ _ _ _ kS hX
  ·have:=hr.mem.hr.inj _ _ _ _ _ _ _ kS a7
   subst this
   rw[hf]at hb
   exact h2 (vz.1 (by simpa using hb))
 have sW:∀b:Nat,memN ids b=true→∀p,ι (.v b)=some p→bX (.v b)=some p:=λb hb p hp=>by
  show(if b∈ids then ι (.v b)else none)=some p
  rw[aaG (vz.1 hb)];exact hp
 let fT:az:=⟨λj=>if j.base<ids.length then ι (j.map (nth 0 ids))else none,Xc,λ_=>False,[],False⟩
 have nD:∀j:Bn,j.base<ids.length→fT j=ι (j.map (nth 0 ids)):=λj hj=>aaG hj
 have s4:∀j:Bn,ids.length≤j.base→fT j=none:=λj hj=>aaF (by omega)
 have fm:∀c,fT.I c→∃(b:Bn) (o s:Nat),b.base∈ids∧ι b=some (c,o,s):=by
  rintro c ⟨j,o,s,hj⟩
  by_cases h1:j.base<ids.length
  ·rw[nD j h1]at hj;exact⟨_,o,s,by rw[Bn.pO];exact oE h1,hj⟩
  ·rw[s4 j (by omega)]at hj;cases hj
 have Hq:∀c,fT.M c→bX.M c:=λc hc=>by
  rcases hc with hc|hc
  ·obtain⟨b,o,s,hb,kS⟩:=fm c hc
   exact .inl ⟨b,o,s,by show(if b.base∈ids then ι b else none)=_;rw[aaG hb];exact kS⟩
  ·exact .inr hc
 have Px:∀(b:Bn) p,bX (b.map (renB ids st.heap.length))=some p→fT b=some p:=λb p hp=>by
  by_cases hb:b.base<ids.length
  ·rw[Bn.map_congr (qY hb)]at hp
   rw[nD b hb]
   obtain⟨c,o,s⟩:=p
   exact(pJ _ _ _ _ hp).2
  ·obtain⟨c,o,s⟩:=p
   obtain⟨a_,_⟩:=pJ _ _ _ _ hp
   rw[Bn.pO,sX (by omega)]at a_
   have:=Cg _ a_;omega
 have vD:∀b,b<ids.length→(nth .dead H b).ren ids st.heap.length=nth .dead st.heap (nth 0 ids b):=λb hb=>by
  rw[←qZ,hH,G7 _ _ _ hb]
 have Hr:∀(b:Bn) p,ι (b.map (renB ids st.heap.length))=some p→fT b=some p:=λb p hp=>by
  by_cases hb:b.base<ids.length
  ·rw[Bn.map_congr (qY hb)]at hp;rw[nD b hb];exact hp
  ·rw[Ho _ (by rw[Bn.pO,sX (by omega)];omega)]at hp;cases hp
 have Hs:∀b∈ids,∀i,ι (.h b i)=none:=λb hb i=>(hr.mem.hr.hid b i).none (B4 Cf b hb)
 have pP:∀c,fT.M c→ι.M c:=λc hc=>Hp c (Hq c hc)
 have Ci:bc ι.M w w fT.M:=⟨λ_ _ _ h=>h,λc hc=>.inl (pP c hc),aaJ _⟩
 have Cj:bL fT H w:=by
  refine⟨hr.mem.hr.gl.later Ci,λb=>?_,λb b' c o s o' s' h1 h2=>?_,λb c o s h1=>?_,λb i=>?_⟩
  ·by_cases hb:b<ids.length
   ·have bq:=hr.mem.hr.blk (nth 0 ids b)
    rw[←vD b hb]at bq
    have jc:=B4 Cf _ (oE hb)
    rw[←vD b hb]at jc
    rw[nD (.v b) hb]
    cases dL:nth .dead H b with
    |pn wo wd c op=>rw[dL]at jc;cases jc
    |bF ag ks wd e op=>rw[dL]at jc;cases jc
    |mi m n s=>
     have:=vD b hb
     rw[dL]at this
     exact absurd this.symm (Pa (by assumption) _ (oE hb) _ _ _)
    |dead=>rw[dL]at bq;exact bq
    |mx cells=>
     rw[dL]at bq
     obtain⟨c,o,s,cs,ty,fz,hp,g1,g2,g3,g4,g5⟩:=bq
     refine⟨c,o,s,cs,ty,fz,hp,g1,g2,g3,by rw[jz]at g4;exact g4,λj x hx=>?_⟩
     obtain⟨v,q1,q2,q3⟩:=g5 j (AV.ren ids st.heap.length x) (by rw[jy,hx];rfl)
     exact⟨v,q1,q2,RA.B8 Hr pP x q3⟩
    |pr wd rows=>
     rw[dL]at bq
     rcases bq with h0|⟨c,o,s,cs,ty,fz,hp,g1,g2,g3,g4,g5,g6⟩
     ·exact .inl h0
     ·refine .inr ⟨c,o,s,cs,ty,fz,hp,g1,g2,g3,g4,g5,λi row j x hi hx=>?_⟩
      obtain⟨q1,v,q2,q3⟩:=g6 i row j x hi hx
      exact⟨q1,v,q2,q3.later Ci⟩
    |mp ag ks ents=>
     rw[dL]at bq
     obtain⟨c,o,s,hp,g1⟩:=bq
     exact⟨c,o,s,hp,g1.later Ci rfl⟩
    |ax n arr cells=>
     rw[dL]at bq
     have er:arr.map AV.p++AV.dW ids st.heap.length cells=AV.dW ids st.heap.length (arr.map AV.p++cells):=by rw[B7,oF]
     obtain⟨hn,c,o,s,cs,ty,fz,hp,g1,g2,g3,g4,g5⟩:=bq
     rw[er,jz]at g4
     refine⟨hn,c,o,s,cs,ty,fz,hp,g1,g2,g3,g4,λj x hx=>?_⟩
     obtain⟨v,q1,q2,q3⟩:=g5 j (AV.ren ids st.heap.length x) (by rw[er,jy,hx];rfl)
     exact⟨v,q1,q2,RA.B8 Hr pP x q3⟩
    |gh l r=>
     have:=vD b hb
     rw[dL]at this
     exact absurd this.symm (O_ (by assumption) _ (oE hb) l r)
   ·rw[s4 (.v b) (by show _≤b;omega),l_ _ _ _ (by omega)];rfl
  ·by_cases hb:b.base<ids.length
   ·by_cases a7:b'.base<ids.length
    ·rw[nD b hb]at h1
     rw[nD b' a7]at h2
     have e:=hr.mem.hr.inj _ _ _ _ _ _ _ h1 h2
     rw[←Bn.oD (x:=b) (B6 ia hb),←Bn.oD (x:=b') (B6 ia a7),e]
    ·rw[s4 b' (by omega)]at h2;cases h2
   ·rw[s4 b (by omega)]at h1;cases h1
  ·by_cases hb:b.base<ids.length
   ·rw[nD b hb]at h1
    rintro (hX|⟨_,b',o',s',g1,_,g2⟩)
    ·exact hr.mem.hr.cC _ _ _ _ h1 hX
    ·have e:=hr.mem.hr.inj _ _ _ _ _ _ _ h1 g2
     exact g1 (by rw[←e,Bn.pO];exact oE hb)
   ·rw[s4 b (by omega)]at h1;cases h1
  ·by_cases hb:b<ids.length
   ·refine HB.bare ?_ ((nD (.h b i) hb).trans (Hs _ (oE hb) i))
    have jc:=B4 Cf _ (oE hb)
    rw[←vD b hb]at jc
    cases hq:nth Blk.dead H b<;>rw[hq]at jc<;>first|rfl|cases jc
   ·rw[l_ _ _ _ (by omega)];exact HB.bare rfl (s4 (.h b i) (by show _≤b;omega))
 have Ck:∀c,fT.X c→c<w.heap.size:=λc hc=>by
  rcases hc with hX|⟨_,b,o,s,_,_,hb⟩
  ·exact hr.mem.xl c hX
  ·exact hr.mem.hr.lt ⟨b,o,s,hb⟩
 obtain⟨Py,Pz⟩:=hK.get
 have PA:fG w fT gI vs:=by
  refine⟨by rw[cS.1,Py,jz],λi x hx=>?_⟩
  obtain⟨x0,g0,g1⟩:=Pz i (AV.ren ids st.heap.length x) (by rw[jy,hx];rfl)
  exact RA.B8 Px Hq x (ah.sound hr.mem.hr oC sW Hp (cS.2 i x0 g0) g1)
 have s5:=mo w fT vs (λh=>h) Ck Cj PA
 unfold Oper.wp
 rw[aT,Hm Ce]
 refine Calls.mono s5 ?_
 rintro e w' ⟨r,v,aC,H',rfl,PC,PD,s6,PE,⟨vE,fo⟩,nE,ct,eD,dj,Ht⟩
 show g_ cx q w k (a.put o.dst v) w'
 obtain⟨ib,ff⟩:=hk r H' PC PD
 have Cl:aC.X=Xc:=vE
 let dc:az:={ι with m:=λb=>if b.base∈ids then aC (b.map (idxN ids))else if st.heap.length≤b.base then aC (b.map λb=>ids.length+(b - st.heap.length))else if b.base∈fr then none else ι b}
 have q9:∀b:Bn,b.base∈ids→dc b=aC (b.map (idxN ids)):=λb hb=>aaG hb
 have vF:∀b:Bn,b.base∉ids→st.heap.length≤b.base→dc b=aC (b.map λb=>ids.length+(b - st.heap.length)):=λb hb h1=>by
  show(if _ then _ else _)=_
  rw[aaF hb,aaG h1]
 have Cm:∀b:Bn,b.base∉ids→b.base<st.heap.length→b.base∈fr→dc b=none:=λb hb h1 h2=>by
  show(if _ then _ else _)=_
  rw[aaF hb,aaF (by omega),aaG h2]
 have s7:∀b:Bn,b.base∉ids→b.base<st.heap.length→b.base∉fr→dc b=ι b:=λb hb h1 h2=>by
  show(if _ then _ else _)=_
  rw[aaF hb,aaF (by omega),aaF h2]
 have q_:∀(b:Bn) p,dc b=some p→(∃j:Bn,aC j=some p∧b=j.map (renB ids st.heap.length))∨(b.base∉ids∧b.base<st.heap.length∧b.base∉fr∧ι b=some p):=by
  intro b p hp
  by_cases h1:b.base∈ids
  ·rw[q9 b h1]at hp
   obtain⟨g1,g2⟩:=B5 h1
   exact .inl ⟨_,hp,(Bn.oD (by rw[qY g1,g2])).symm⟩
  ·by_cases h2:st.heap.length≤b.base
   ·rw[vF b h1 h2]at hp
    exact .inl ⟨_,hp,(Bn.oD (by rw[sX (by omega)];omega)).symm⟩
   ·by_cases h4:b.base∈fr
    ·rw[Cm b h1 (by omega) h4]at hp;cases hp
    ·rw[s7 b h1 (by omega) h4]at hp
     exact .inr ⟨h1,by omega,h4,hp⟩
 have Hu:∀(j:Bn) p,aC j=some p→dc (j.map (renB ids st.heap.length))=some p:=λj p hp=>by
  by_cases hj:j.base<ids.length
  ·rw[q9 _ (by rw[Bn.pO,qY hj];exact oE hj),Bn.oD (by rw[qY hj];exact B6 ia hj)];exact hp
  ·rw[vF _ (λa_=>by rw[Bn.pO,sX (by omega)]at a_;have:=Cg _ a_;omega) (by rw[Bn.pO,sX (by omega)];omega),Bn.oD (by rw[sX (by omega)];omega)]
   exact hp
 have Cn:∀c,aC.I c→(∃(b:Bn) (o s:Nat),b.base∈ids∧ι b=some (c,o,s))∨w.heap.size≤c:=λc hc=>(eD c hc).imp (fm c) id
 have Co:flat=true→∀j,aC j=none:=λhf j=>by
  obtain⟨_,e⟩:=ib hf
  cases hq:aC j with
  |none=>rfl
  |some p=>
   obtain⟨c,o,s⟩:=p
   obtain⟨ob,_,yn⟩:=s6.size hq
   rw[e]at yn
   exact absurd rfl yn
 have Cp:∀c,dc.M c→(flat=false→aC.M c):=by
  intro c hc hf
  rcases hc with⟨b,o,s,hb⟩|hX
  ·rcases q_ b _ hb with⟨j,hj,_⟩|⟨g1,g2,g3,g4⟩
   ·exact .inl ⟨j,o,s,hj⟩
   ·right;rw[Cl];exact .inr ⟨hf,b,o,s,g1,g3,g4⟩
  ·right;rw[Cl];exact .inl hX
 have yp:bc ι.M w w' dc.M:=by
  refine⟨λc x hc hx=>nE c x (λrh=>?_) hx,λc hc=>?_,ct⟩
  ·obtain⟨b,o,s,_,hb⟩:=fm c rh
   exact hc (.inl ⟨b,o,s,hb⟩)
  ·rcases hc with⟨b,o,s,hb⟩|hX
   ·rcases q_ b _ hb with⟨j,hj,_⟩|⟨g1,g2,g3,g4⟩
    ·rcases Cn c ⟨j,o,s,hj⟩with⟨b',o',s',_,a7⟩|dG
     ·exact .inl (.inl ⟨b',o',s',a7⟩)
     ·exact .inr dG
    ·exact .inl (.inl ⟨b,o,s,g4⟩)
   ·exact .inl (.inr hX)
 have Hv:∀j,j<ids.length→nth 0 ids j∉eU ids mv→memN mv j=false:=by
  intro j hj hn
  rw[B3]
  intro a_
  apply hn
  have:∀l:List Nat,j∈l→nth 0 ids j∈eU ids l:=by
   intro l
   induction l with
   |nil=>intro h;cases h
   |cons x r ih=>
    intro h
    rcases aa0.1 h with e|h
    ·subst e;simp[eU]
    ·simp[eU,ih h]
  exact this mv a_
 have Hw:∀b:Bn,b.base∉fr++eU ids mv→∀p,ι b=some p→dc b=some p:=by
  intro b hb p hp
  simp only[abf,not_or]at hb
  have aq:b.base<st.heap.length:=by
   rcases abz b.base st.heap.length with h1|h1
   ·exact h1
   ·rw[Ho b h1]at hp;cases hp
  by_cases h1:b.base∈ids
  ·cases b with
   |h b i=>rw[Hs b h1 i]at hp;cases hp
   |v b=>
    have h1:b∈ids:=h1
    obtain⟨g1,g2⟩:=B5 h1
    rw[q9 (.v b) h1]
    show aC (.v (idxN ids b))=_
    rw[Ht _ (by omega) (Hv _ g1 (by rw[g2];exact hb.2)),nD (.v _) g1]
    show ι (.v (nth 0 ids (idxN ids b)))=_
    rw[g2]
    exact hp
  ·rw[s7 b h1 aq hb.1];exact hp
 have vG:(killAll (eU ids mv) (eV fr st)).heap.length=st.heap.length:=by rw[Pq,Pt]
 have Cq:=λb=>Pc (killAll (eU ids mv) (eV fr st)).heap ids (fA ids st.heap.length H') b ia (λi hi=>by rw[vG];exact Cg i hi) (by rw[G6];omega)
 have jw:∀(b:Bn) c o s,b.base∉ids→ι b=some (c,o,s)→∀o' s' j,aC j=some (c,o',s')→False:=by
  intro b c o s hb kS o' s' j hj
  rcases Cn c ⟨j,o',s',hj⟩with⟨b',o2,s2,g1,g2⟩|dG
  ·have:=hr.mem.hr.inj _ _ _ _ _ _ _ kS g2
   exact hb (this▸g1)
  ·have:=hr.mem.hr.lt ⟨b,o,s,kS⟩;omega
 have Cr:∀x u,RA w' aC x u→(flat=false∨flatV x=true)→RA w' dc (AV.ren ids st.heap.length x) u:=by
  intro x u hx pQ
  cases Hx:flat with
  |true=>exact hx.flat (pQ.resolve_left (by simp[Hx])) _ _
  |false=>exact RA.ren Hu (λc hc=>Cp c hc Hx) hx
 have PG:Mem cx dc (backH (killAll (eU ids mv) (eV fr st)).heap ids (fA ids st.heap.length H')) w':=by
  have Hy:∀j l r,nth .dead H' j≠.gh l r:=λj l r e=>by
   have:=s6.blk j
   rw[e]at this
   exact fo this.2
  have Hz:∀j l r,nth .dead (fA ids st.heap.length H') j≠.gh l r:=λj l r e=>by
   rw[qZ]at e
   refine Hy j l r ?_
   cases hq:nth .dead H' j<;>rw[hq]at e<;>simp[Blk.ren]at e ⊢
   exact e
  have hold:∀(b:Bn) c o s,b.base∉ids→ι b=some (c,o,s)→w'.heap[c]? =w.heap[c]?:=λb c o s h1 hb=>by
   obtain⟨ob,q1,_⟩:=hr.mem.hr.size hb
   rw[q1]
   refine nE c _ (λrh=>?_) q1
   obtain⟨b',o',s',g1,g2⟩:=fm c rh
   have:=hr.mem.hr.inj _ _ _ _ _ _ _ hb g2
   exact h1 (this▸g1)
  refine hr.mem.step ⟨hr.mem.hr.gl.later yp,λb=>?_,λb1 b2 c o1 s1 o2 s2 g1 g2=>?_,λb c o s g1=>?_,λb i=>?_⟩ (λc x hc hx=>?_) (λc hc=>?_) ct dj rfl rfl rfl rfl
   (λb hb=>?_) ?_ (λl r hl=>?_)
  ·rw[Cq b,vG]
   have callee:∀j:Nat,(flat=true→False)→RB w' dc (aC (.v j)) ((nth .dead H' j).ren ids st.heap.length):=by
    intro j hf
    have vH:flat=false:=by cases hq:flat;rfl;exact absurd hq hf
    have bq:=s6.blk j
    have pL:bc aC.M w' w' dc.M:=⟨λ_ _ _ h=>h,λc hc=>.inl (Cp c hc vH),aaJ _⟩
    cases dL:nth .dead H' j with
    |dead=>rw[dL]at bq;exact bq
    |mx cells=>
     rw[dL]at bq
     obtain⟨c,o,s,cs,ty,fz,hp,q1,q2,q3,q4,q5⟩:=bq
     refine⟨c,o,s,cs,ty,fz,hp,q1,q2,q3,by rw[jz];exact q4,λi x hx=>?_⟩
     rw[jy]at hx
     obtain⟨z,hz,rfl⟩:=aaO.1 hx
     obtain⟨u,p1,p2,p3⟩:=q5 i z hz
     exact⟨u,p1,p2,Cr z u p3 (.inl vH)⟩
    |pr wd rows=>
     rw[dL]at bq
     rcases bq with h0|⟨c,o,s,cs,ty,fz,hp,q1,q2,q3,q4,q5,q6⟩
     ·exact .inl h0
     ·refine .inr ⟨c,o,s,cs,ty,fz,hp,q1,q2,q3,q4,q5,λi row j x hi hx=>?_⟩
      obtain⟨p1,u,p2,p3⟩:=q6 i row j x hi hx
      exact⟨p1,u,p2,p3.later pL⟩
    |mp ag ks ents=>
     rw[dL]at bq
     obtain⟨c,o,s,hp,g1⟩:=bq
     exact⟨c,o,s,hp,g1.later pL rfl⟩
    |ax n arr cells=>
     rw[dL]at bq
     have er:arr.map AV.p++AV.dW ids st.heap.length cells=AV.dW ids st.heap.length (arr.map AV.p++cells):=by rw[B7,oF]
     obtain⟨hn,c,o,s,cs,ty,fz,hp,q1,q2,q3,q4,q5⟩:=bq
     refine⟨hn,c,o,s,cs,ty,fz,hp,q1,q2,q3,by rw[er,jz];exact q4,λi x hx=>?_⟩
     rw[er,jy]at hx
     obtain⟨z,hz,rfl⟩:=aaO.1 hx
     obtain⟨u,p1,p2,p3⟩:=q5 i z hz
     exact⟨u,p1,p2,Cr z u p3 (.inl vH)⟩
    |pn wo wd c op=>rw[dL]at bq;exact RB.sx pL (λ_ _ _ _=>rfl) bq
    |bF ag ks wd e op=>rw[dL]at bq;exact RB.sy pL (λ_ _ _ _=>rfl) bq
    |mi m n s=>
     rw[dL]at bq
     refine RB.qE (λb hb=>?_) (λ_ _ _ _=>rfl) bq
     obtain⟨b',a7,rfl⟩:=aaO.1 hb
     exact⟨b',a7,λp hp=>Hu (.v b') p hp⟩
    |gh l r=>exact absurd dL (Hy j l r)
   by_cases h1:b∈ids
   ·rw[aaG h1,q9 (.v b) h1,qZ]
    exact callee _ λhf=>by rw[(Ch hf).1]at h1;cases h1
   ·rw[aaF h1]
    by_cases h2:st.heap.length≤b
    ·rw[aaG h2,vF (.v b) h1 h2,qZ]
     cases nF:flat with
     |true=>rw[Co nF,(ib nF).2];rfl
     |false=>exact callee _ (by simp[nF])
    ·rw[aaF h2,B_,Ca fr st vC]
     by_cases h4:b∈fr
     ·rw[aaG h4,sZ,Cm (.v b) h1 (by show b<_;omega) h4];rfl
     ·rw[aaF h4,←G8,s7 (.v b) h1 (by show b<_;omega) h4]
      exact(hr.mem.hr.blk b).kills yp (λh=>h) Hw λc o s hb=>hold (.v b) c o s h1 hb
  ·rcases q_ b1 _ g1 with⟨j1,q1,e1⟩|⟨q1,q2,q3,q4⟩
   ·rcases q_ b2 _ g2 with⟨j2,p1,e2⟩|⟨p1,p2,p3,p4⟩
    ·have:=s6.inj _ _ _ _ _ _ _ q1 p1
     rw[e1,e2,this]
    ·exact(jw _ _ _ _ p1 p4 _ _ _ q1).elim
   ·rcases q_ b2 _ g2 with⟨j2,p1,e2⟩|⟨p1,p2,p3,p4⟩
    ·exact(jw _ _ _ _ q1 q4 _ _ _ p1).elim
    ·exact hr.mem.hr.inj _ _ _ _ _ _ _ q4 p4
  ·rcases q_ b _ g1 with⟨j1,q1,e1⟩|⟨q1,q2,q3,q4⟩
   ·intro hX
    have:=s6.cC _ _ _ _ q1
    rw[Cl]at this
    exact this (.inl hX)
   ·exact hr.mem.hr.cC _ _ _ _ q4
  ·rw[Cq b,vG]
   have callee:∀j:Nat,(flat=true→False)→HB w' dc (aC (.v j)) (aC (.h j i)) i ((nth .dead H' j).ren ids st.heap.length):=by
    intro j hf
    have vH:flat=false:=by cases hq:flat;rfl;exact absurd hq hf
    have pL:bc aC.M w' w' dc.M:=⟨λ_ _ _ h=>h,λc hc=>.inl (Cp c hc vH),aaJ _⟩
    exact((s6.hid j i).later pL (λ_ _ _ _=>rfl) (λ_ _ _ _=>rfl)).ren _ _
   by_cases h1:b∈ids
   ·rw[aaG h1,q9 (.v b) h1,q9 (.h b i) h1,qZ]
    exact callee _ λhf=>by rw[(Ch hf).1]at h1;cases h1
   ·rw[aaF h1]
    by_cases h2:st.heap.length≤b
    ·rw[aaG h2,vF (.v b) h1 h2,vF (.h b i) h1 h2,qZ]
     cases nF:flat with
     |true=>rw[Co nF,Co nF,(ib nF).2];rfl
     |false=>exact callee _ (by simp[nF])
    ·rw[aaF h2,B_,Ca fr st vC]
     by_cases h4:b∈fr
     ·rw[aaG h4,sZ];exact HB.bare rfl (Cm (.h b i) h1 (by show b<_;omega) h4)
     ·rw[aaF h4,←G8,s7 (.v b) h1 (by show b<_;omega) h4,s7 (.h b i) h1 (by show b<_;omega) h4]
      exact((hr.mem.hr.hid b i).later yp (λc o s hb=>hold (.v b) c o s h1 hb) (λc o s hb=>hold (.h b i) c o s h1 hb)).kills _
  ·refine nE c x (λrh=>?_) hx
   obtain⟨b',o',s',_,g2⟩:=fm c rh
   exact hc ⟨b',o',s',g2⟩
  ·obtain⟨b,o,s,hb⟩:=hc
   rcases q_ b _ hb with⟨j1,q1,e1⟩|⟨q1,q2,q3,q4⟩
   ·rcases Cn c ⟨j1,o,s,q1⟩with⟨b',o',s',_,g2⟩|dG
    ·exact .inl ⟨b',o',s',g2⟩
    ·exact .inr dG
   ·exact .inl ⟨b,o,s,q4⟩
  ·have h_:b<st.heap.length:=abL (cx.fk b hb) hr.mem.kl
   by_cases h1:b∈ids
   ·obtain⟨g1,g2⟩:=B5 h1
    rw[q9 (.v b) h1]
    show aC (.v (idxN ids b))=_
    rw[Ht _ (by omega) (Hv _ g1 (by rw[g2];intro a_;have:=Cb _ a_;rw[hb]at this;cases this)),nD (.v _) g1]
    show ι (.v (nth 0 ids (idxN ids b)))=_
    rw[g2]
   ·rw[s7 (.v b) h1 h_ (λa_=>by have this:cx.E.fx b=false:=Cc _ a_;rw[hb]at this;cases this)]
  ·rw[Pb _ _ _ (by rw[G6];omega),vG]
   exact aa2 hr.mem.kl (adx _ _)
  ·rw[Cq 0,vG]at hl
   split at hl
   ·exact absurd hl (Hz _ l r)
   ·split at hl
    ·exact absurd hl (Hz _ l r)
    ·rw[B_,Ca fr st vC]at hl
     split at hl
     ·rw[sZ]at hl;cases hl
     ·exact Hl (Hl hl)
 have nG:∀s,RA w' dc (lk (killAll (eU ids mv) (eV fr st)).tmps s) (a.tmps.getD s undef):=λs=>by
  rw[Pp,Ps,←Pe]
  exact(hr.tm s).kills yp Hw
 have nH:RA w' dc (AV.ren ids st.heap.length r) v:=Cr r v PE (by
  cases nF:flat with
  |true=>exact .inr (ib nF).1
  |false=>exact .inl rfl)
 refine⟨⟨dc,_,Rel.put (st:=⟨(killAll (eU ids mv) (eV fr st)).tmps,backH (killAll (eU ids mv) (eV fr st)).heap ids (fA ids st.heap.length H')⟩) ⟨PG,nG,hr.sz,hr.df⟩ hd nH,ff⟩,λPH=>?_⟩
 intro c x hx
 refine nE c x (λrh=>?_) hx
 obtain⟨b',o',s',g1,_⟩:=fm c rh
 rw[PH]at hq
 cases ids with
 |nil=>cases g1
 |cons y r=>simp[isNil]at hq
end
theorem PI{k:CK}{x y:PV}(hx:xB k x)(hy:xB k y)(h:cellEq x y=true):x=y:=by
 cases k<;>cases x<;>first|exact hx.elim|skip
 all_goals cases y<;>first|exact hy.elim|skip
 ·obtain⟨rfl,_⟩:=eC hx
  obtain⟨rfl,_⟩:=eC hy
  simp[cellEq]at h;rw[h]
 ·simp[cellEq]at h;rw[h]
 ·simp[cellEq]at h;rw[h]
theorem HA:∀{ks:List CK} {xs ys:List PV},cellsK ks xs→cellsK ks ys→cellsEq xs ys=true→xs=ys
 |[],[],[],_,_,_=>rfl
 |[],_::_,_,h,_,_=>h.elim
 |[],[],_::_,_,h,_=>h.elim
 |_::_,[],_,h,_,_=>h.elim
 |_::_,_::_,[],_,h,_=>h.elim
 |k::ks,x::r,y::s,h,g,e=>by
  simp only[cellsEq,aaQ]at e
  rw[PI h.1 g.1 e.1,HA h.2 g.2 e.2]
theorem Cs{ag:Bool}{ks:List CK}{x y:PV}(hx:dQ ag ks x)(hy:dQ ag ks y)(h:keyEq x y=true):x=y:=by
 rw[Gj hx hy]at h
 have:=HA (me hx) (me hy) h
 cases ag
 ·simpa [keyCells]using this
 ·cases x<;>first|exact hx.elim|skip
  cases y<;>first|exact hy.elim|skip
  simpa [keyCells]using this
theorem HC{n:Nat}{x:PV}(h:j5 x=true):Instr.sameBits n (valOf x) (valOf x)=true:=by
 cases x<;>first|(cases h;done)|skip
 all_goals cases n<;>simp[valOf,Instr.sameBits,beq_toListBytes]
theorem Ct{P:Program}{t:TypeId}{ag:Bool}{ks:List CK}(hk:keyK P t=some (ag,ks)){x:PV}(hx:dQ ag ks x):Instr.sameBits 10000 (dJ P t (keyCells ag x)) (dJ P t (keyCells ag x))=true:=by
 obtain⟨h1,h2,h3⟩:=ni hk
 obtain⟨_,hp⟩:=oe (me hx)
 unfold dJ
 rw[h2]
 cases ag
 ·simp only[keyCells,List.headD_cons]
  exact HC (hp x (by simp[keyCells]))
 ·simp only[Instr.sameBits,beq_self_eq_true,abM,aa8]
  intro p gA
  have:p.1=p.2∧p.1∈(keyCells true x).map valOf:=by
   have:=List.of_mem_zip (a:=p.1) (b:=p.2) gA
   have h4:∀(l:List Value),∀q∈l.zip l,q.1=q.2:=by
    intro l
    induction l with
    |nil=>simp
    |cons v r ih=>intro q hq;simp at hq;rcases hq with rfl|hq;rfl;exact ih q hq
   exact⟨h4 _ p gA,by simpa using this.1⟩
  obtain⟨e,hm⟩:=this
  obtain⟨y,hy,PJ⟩:=aa3.1 hm
  rw[←e,←PJ]
  exact HC (hp y hy)
theorem Cu{ents:List (PV×PV)}{x:PV}{i0 i:Nat}{v:PV}(h:mfind ents x i0=some (i,v)):∃j kk,i=i0+j∧ents[j]? =some (kk,v)∧keyEq x kk=true:=by
 induction ents generalizing i0 with
 |nil=>cases h
 |cons e r ih=>
  obtain⟨k,u⟩:=e
  unfold mfind at h
  cases hc:keyEq x k with
  |true=>rw[hc]at h;cases h;exact⟨0,k,rfl,rfl,hc⟩
  |false=>
   rw[hc]at h
   obtain⟨j,kk,h1,h2,h3⟩:=ih h
   exact⟨j+1,kk,by omega,by simpa using h2,h3⟩
theorem HD{ents:List (PV×PV)}{x v:PV}{i0:Nat}(h:mfind ents x i0=none):mput ents x v=ents++[(x,v)]:=by
 induction ents generalizing i0 with
 |nil=>rfl
 |cons e r ih=>
  obtain⟨k,u⟩:=e
  unfold mfind at h
  unfold mput
  cases hc:keyEq x k with
  |true=>rw[hc]at h;cases h
  |false=>rw[hc]at h;simp only[cond_false];rw[ih h];rfl
theorem PK{ents:List (PV×PV)}{x v u:PV}{i0 j:Nat}(h:mfind ents x i0=some (i0+j,u)):mput ents x v=ents.set j (x,v):=by
 induction ents generalizing i0 j with
 |nil=>cases h
 |cons e r ih=>
  obtain⟨k,w⟩:=e
  unfold mfind at h
  unfold mput
  cases hc:keyEq x k with
  |true=>
   rw[hc]at h
   simp only[cond_true,ade,acJ]at h
   have:j=0:=by omega
   subst this
   rfl
  |false=>
   rw[hc]at h
   simp only[cond_false]at h ⊢
   obtain⟨j',_,h1,_,_⟩:=Cu h
   have e:j=j'+1:=by omega
   subst e
   rw[ih (j:=j') (by rw[h];congr 2;try omega)]
   rfl
theorem PM{ents:List (PV×PV)}{n:Nat}{v:PV}:∀(i:Nat),(setVal ents n v)[i]? =if i=n then(ents[i]?).map (λe=>(e.1,v))else ents[i]?:=by
 induction ents generalizing n with
 |nil=>intro i;simp[setVal]
 |cons e r ih=>
  intro i
  obtain⟨k,u⟩:=e
  cases n with
  |zero=>cases i<;>simp[setVal]
  |succ n=>cases i<;>simp[setVal,ih]
theorem HE{ents:List (PV×PV)}{n:Nat}{v:PV}:(setVal ents n v).length=ents.length:=by
 induction ents generalizing n with
 |nil=>rfl
 |cons e r ih=>obtain⟨k,u⟩:=e;cases n<;>simp[setVal,ih]
theorem HF{α:Type}(d:α){l:List α}{n:Nat}{x:α}(h:nth d l n=x)(hl:n<l.length):setNth l n x=l:=by
 rw[eA]
 apply abj
 intro i
 rw[aaZ]
 by_cases e:n=i
 ·subst e
  rw[iC,aaI hl]at h
  simp at h
  simp[hl,h]
 ·simp[e]
section
variable {cx:Cx} {ι:az} {st:St} {a:Act} {w:World}
theorem PN(hr:Rel cx ι st a w){o:Oper}{t:TypeId}{ag:Bool}{ks:List CK}(ho:o.op=.makeMap t none)(hd:∀t,o.dst=some t→cx.bw t=true)
 {q:Bool} {k:St→Prop} (h:k (iW st o.dst (.mpr st.heap.length) (.mp ag ks []))) {Q:Exit→Act→World→Prop}:o.wp cx.P a w (g_ cx q w k) Q:=by
 have aT:(execOp a.eval o).run cx.P w=.ok (.value (.map (some w.heap.size))) (dC w (.map #[] 0)):=by
  simp[execOp,ho,Instr.makeMap,newObj]
  rfl
 refine dN aT ?_
 have jf:(dC w (.map #[] 0)).heap[w.heap.size]? =some (.map #[] 0):=nn _ _
 obtain⟨hm,hL,bh⟩:=hr.mem.lay (w':=dC w (.map #[] 0)) (c:=w.heap.size) (o:=0) (s:=0) (blk:=.mp ag ks []) (aaJ _) (j7 w _) ⟨rfl,rfl⟩
  (λhL bh=>⟨_,_,_,rfl,#[],jf,rfl,by simp⟩)
 refine⟨⟨_,_,⟨?_,sB (st:=⟨st.tmps,st.heap++[Blk.mp ag ks []]⟩) (jd hL bh hr.tm) hr.sz.1 (λt ht=>cx.eI t (hd t ht)) (RA.mpr (az.oo _ _ _)),Sz.put hr.sz hd _,by rw[Act.sA];exact hr.df⟩,h⟩,λ_=>j7 w _⟩
 rw[pt];exact hm
theorem vI(hr:Rel cx ι st a w){b c o s:Nat}(hb:ι b=some (c,o,s))(lG:(nth .dead st.heap b).bare=true){ag:Bool}{ks:List CK}{ents:List (PV×PV)}{es:Array MapEntry}{ob:Obj}(hc:w.heap[c]? =some ob)(h2:es.size=ents.length)
 (h3:∀(i:Nat) k v,ents[i]? =some (k,v)→dQ ag ks k∧∃e,es[i]? =some e∧e.born=i∧RP w ι.M k e.key∧RP w ι.M v e.val):
 Rel cx ι ⟨st.tmps,setNth st.heap b (.mp ag ks ents)⟩ a (bB w c (.map es ents.length)):=by
 have aq:c<w.heap.size:=(aaW.1 hc).1
 obtain⟨hm,hL⟩:=hr.mem.write hb (w':=bB w c (.map es ents.length)) (blk:=.mp ag ks ents) (λd x hd hx=>by rw[fg w _ hd];exact hx) (by simp[bB]) ⟨rfl,rfl⟩
  (λhL=>⟨c,o,s,rfl,es,iG w c _ aq,h2,λi k v hi=>by
   obtain⟨g0,e,g1,g2,g3,g4⟩:=h3 i k v hi
   exact⟨g0,e,g1,g2,g3.later hL,g4.later hL⟩⟩) lG
 exact⟨hm,jd hL (λ_ _ h=>h) hr.tm,hr.sz,hr.df⟩
theorem s8(es:Array MapEntry)(i j:Nat)(f:MapEntry→MapEntry):(es.modify i f)[j]? =if i=j then(es[j]?).map f else es[j]?:=acg
theorem Cv{P:Program}{v:Value}(h:Instr.sameBits 10000 v v=true)(w:World):(Instr.keyThatStays v v).run P w=.ok v w:=by
 simp[Instr.keyThatStays,h]
theorem HG(hr:Rel cx ι st a w){b c o s wd:Nat}(hb:ι b=some (c,o,s)){ag:Bool}{ks:List CK}{ents:List (PV×List (List PV))}{op:Option Nat}{es:Array MapEntry}{ob:Obj}(hc:w.heap[c]? =some ob)(h2:es.size=ents.length)
 (h3:∀(i:Nat) k rows,ents[i]? =some (k,rows)→dQ ag ks k∧∃e,es[i]? =some e∧e.born=i∧RP w ι.M k e.key)
 (h4:bc ι.M w (bB w c (.map es ents.length)) ι.M→(∀i c' o s,ι (.h b i)=some (c',o,s)→(bB w c (.map es ents.length)).heap[c']? =w.heap[c']?)→(bB w c (.map es ents.length)).heap[c]? =some (.map es ents.length)→∀i,HB (bB w c (.map es ents.length)) ι (some (c,o,s)) (ι (.h b i)) i (.bF ag ks wd ents op)):
 Rel cx ι ⟨st.tmps,setNth st.heap b (.bF ag ks wd ents op)⟩ a (bB w c (.map es ents.length)):=by
 have aq:c<w.heap.size:=(aaW.1 hc).1
 obtain⟨hm,hL⟩:=hr.mem.BC hb (w':=bB w c (.map es ents.length)) (blk:=.bF ag ks wd ents op) (λd x hd hx=>by rw[fg w _ hd];exact hx) (by simp[bB]) ⟨rfl,rfl⟩
  (λhL=>⟨c,o,s,rfl,es,iG w c _ aq,h2,λi k rows hi=>by
   obtain⟨g0,e,g1,g2,g3⟩:=h3 i k rows hi
   exact⟨g0,e,g1,g2,g3.later hL⟩⟩) (λhL aU=>h4 hL aU (iG w c _ aq))
 exact⟨hm,jd hL (λ_ _ h=>h) hr.tm,hr.sz,hr.df⟩
theorem HH{x:PV}:∀{ents:List (PV×List (List PV))} {i0 i:Nat} {rows:List (List PV)},mfindN ents x i0=some (i,rows)→∃j k,i=i0+j∧ents[j]? =some (k,rows)∧keyEq x k=true
 |[],_,_,_,h=>by cases h
 |(k,v)::r,i0,i,rows,h=>by
  simp only[mfindN]at h
  cases hk:keyEq x k with
  |true=>rw[hk]at h;cases h;exact⟨0,k,rfl,rfl,hk⟩
  |false=>
   rw[hk]at h
   obtain⟨j,k',h1,h2,h3⟩:=HH (h:mfindN r x (i0+1)=some (i,rows))
   exact⟨j+1,k',by omega,h2,h3⟩
theorem Alike.bF{ag:Bool}{ks:List CK}{wd:Nat}{ents:List (PV×List (List PV))}{x:PV}{r0 rows:List (List PV)}{t:Bool}(ht:t=true):
 Alike (.bF ag ks wd (ents++[(x,r0)]) (some ents.length)) (.bF ag ks wd (ents++[(x,rows)]) none) ents.length wd rows t:=by
 subst ht
 refine⟨λj=>?_,λw ι p h=>?_,λw p j v h=>?_,λl r h=>by cases h⟩
 ·simp only[Blk.inner]
  by_cases e:j=ents.length
  ·subst e;simp
  ·have e':¬ents.length=j:=λh=>e h.symm
   rw[aaF e]
   have h1:decide ((some ents.length:Option Nat)=some j)=false:=by simp[e']
   have h3:∀r:List (List PV),(ents++[(x,r)])[j]? =ents[j]?:=λr=>by
    rw[abw]
    split
    ·rfl
    ·rename_i dG
     rw[aaS (by simp;omega),aaS (by omega)]
   rw[h3,h3]
   cases ents[j]?<;>simp[e']
 ·obtain⟨c,o,s,h1,es,h2,h3,h4⟩:=h
  have hl:(ents++[(x,rows)]).length=(ents++[(x,r0)]).length:=by simp
  refine⟨c,o,s,h1,es,by rw[hl];exact h2,by rw[hl];exact h3,λi k rs hi=>?_⟩
  rw[abw]at hi
  by_cases aq:i<ents.length
  ·rw[aaG aq]at hi
   exact h4 i k rs (by rw[aa9 aq];exact hi)
  ·rw[aaF aq]at hi
   have br:i=ents.length:=by
    have:=(aaK.1 hi).1
    simp at this;omega
   subst br
   simp at hi
   obtain⟨rfl,rfl⟩:=hi
   exact h4 ents.length x r0 (by simp)
 ·obtain⟨c,o,s,es,e,h1,h2,h3⟩:=h
  have hl:(ents++[(x,rows)]).length=(ents++[(x,r0)]).length:=by simp
  exact⟨c,o,s,es,e,h1,by rw[hl];exact h2,h3⟩
theorem PO(hr:Rel cx ι st a w){o:Oper}{t kt et:TypeId}{m x v:Operand}(ho:o.op=.mapUpdate t m x v∨o.op=.insert t m x v)(hu:cx.P.underlying t=some (.map kt et)){ag:Bool}{ks:List CK}
 (hk:keyK cx.P kt=some (ag,ks)) {y:PV} (cD:dQ ag ks y) (bN:RP w ι.M y (a.eval x)) {b wd:Nat} {ents:List (PV×List (List PV))} {op:Option Nat} (ic:RA w ι (.mpr b) (a.eval m)) (hn:nth .dead st.heap b=.bF ag ks wd ents op)
 {av:AV} (dp:RA w ι av (a.eval v)) (hd:∀t,o.dst=some t→cx.bw t=true)
 {k:St→Prop} (h:A3 cx.E st ag ks b wd ents op y av λst=>k (st.put o.dst .undef)) {Q:Exit→Act→World→Prop}:o.wp cx.P a w (Kc cx k) Q:=by
 obtain⟨c,of,s,e8,hb,es,h1,h2,h3⟩:=Gs hr.mem.hr ic hn
 have eL:=nj hk cD bN
 obtain⟨q,hq,aT⟩:=vd hk cD (Gr (wd:=wd) hk h2 h3)
 rw[Bu]at hq
 have j6:=vb 20 kt ks (ni hk).1 10000 (by omega) false _ (me cD)
 have du:∀w',(Instr.mapUpdate t (a.eval m) (a.eval x) (a.eval v)).run cx.P w=.ok () w'→(execOp a.eval o).run cx.P w=.ok .skip w':=λw' h=>by
  rcases ho with ho|ho<;>simp[execOp,ho,h]
 have h_:b<st.heap.length:=hr.mem.hr.fO (by rw[hn];simp)
 unfold A3 at h
 split at h
 ·rename_i b' w' i len
  cases hw:(Nat.beq b' b&&Nat.beq w' wd)with
  |false=>rw[hw]at h;exact h.elim
  |true=>
   rw[hw]at h
   obtain⟨e1,e2⟩:=by simpa using hw
   subst e1;subst e2
   obtain⟨rows,hf,⟨rfl,PQ⟩,ff⟩:=h
   rw[hf]at hq
   obtain⟨j,e,kk,e1,e2,e3,rfl⟩:=hq
   have e1:i=j:=by simpa using e1
   subst e1
   obtain⟨j',yq,e5,e6,e7⟩:=HH hf
   have e5:i=j':=by omega
   subst e5
   have kT:es[i]? =some e:=by simpa using e2
   obtain⟨g0,e',g1,g2,g3⟩:=h3 i yq rows e6
   rw[kT]at g1;cases g1
   have vJ:y=yq:=Cs cD g0 e7
   subst vJ
   have hold:e.key=a.eval x:=by rw[eL];exact nj hk cD g3
   have lH:i<ents.length:=(aaK.1 e6).1
   obtain⟨_,_,nv⟩:=dp.sP
   have fp:=HG (ag:=ag) (ks:=ks) (wd:=w') (op:=none) (ents:=ents) (es:=es.modify i λe=>{e with key:=a.eval x,val:=a.eval v}) hr hb h1 (by simp[h2]) (λn k rs hi=>by
    rw[s8]
    obtain⟨p0,e1,p1,p2,p3⟩:=h3 n k rs hi
    by_cases aq:i=n
    ·subst aq
     rw[e6]at hi;cases hi
     exact⟨cD,{e with key:=a.eval x,val:=a.eval v},by rw[aaG rfl,kT];rfl,g2,bN⟩
    ·exact⟨p0,e1,by rw[aaF aq];exact p1,p2,p3⟩) (λhL aU ka n=>by
     have h0:=hr.mem.hr.hid b' n
     unfold HB at h0 ⊢
     rw[hn]at h0
     simp only[Blk.inner]at h0 ⊢
     cases hj:ents[n]? with
     |none=>rw[hj]at h0;exact h0
     |some z=>
      obtain⟨k',rs⟩:=z
      rw[hj]at h0
      refine⟨h0.1.kK hL λc' o s hd=>aU n c' o s hd,λ_=>?_⟩
      by_cases e9:n=i
      ·subst e9
       rw[e6]at hj;cases hj
       exact⟨_,⟨c,of,s,_,{e with key:=a.eval x,val:=a.eval v},rfl,ka,by rw[s8,aaG rfl,kT];rfl,rfl⟩,nv⟩
      ·have:(!decide (op=some n))=true:=by rcases PQ with rfl|rfl<;>simp[abk e9]
       obtain⟨u,⟨c2,o2,s2,Bv,ee,q1,q2,q3,q4⟩,u2⟩:=h0.2 this
       rw[hb]at q1;cases q1
       rw[h1]at q2;cases q2
       exact⟨u,⟨c,of,s,_,ee,rfl,ka,by rw[s8,aaF (abk e9)];exact q3,q4⟩,u2⟩)
   refine nq (du _ ?_) ⟨ι,_,Rel.put fp hd (.aE _),ff⟩
   have oG:=Cv (P:=cx.P) (v:=a.eval x) (by rw[eL];exact Ct hk cD) w
   rw[eL]at oG
   simp only[Instr.mapUpdate,e8,Sem.run_bind,run_underlying hu,Result.andThen_ok,jK h1,eL,j6,aT,kT,Option.map_some,Option.getD_some,hold,oG,qO _ h1]
   rfl
 ·rename_i m2 w' i0 len cap
  split at h
  ·rename_i w2 rows iF
   cases hw:(Nat.beq w' wd&&Nat.beq w2 wd&&!cx.E.fx m2&&!Nat.beq m2 b)with
   |false=>rw[hw]at h;exact h.elim
   |true=>
    rw[hw]at h
    obtain⟨⟨⟨e1,e2⟩,vj⟩,jM⟩:=by simpa using hw
    subst e1;subst e2
    simp only[cond_true,na]at h
    obtain⟨⟨hl,rfl,hf⟩,ff⟩:=h
    rw[hf]at hq
    have hq:q=none:=hq
    subst hq
    rw[gJ]at ff
    have fp:=HG (ag:=ag) (ks:=ks) (wd:=w2) (op:=some ents.length) (ents:=ents++[(y,[])]) (es:=es.push {key:=a.eval x,val:=a.eval v,born:=ents.length}) hr hb h1 (by simp[h2]) (λi k rs hi=>by
     rw[abw]at hi
     by_cases aq:i<ents.length
     ·rw[aaG aq]at hi
      obtain⟨g0,e,g1,g2,g3⟩:=h3 i k rs hi
      refine⟨g0,e,?_,g2,g3⟩
      rw[acs (by omega)]
      rw[abh (by omega)]at g1
      exact g1
     ·rw[aaF aq]at hi
      have br:i=ents.length:=by
       have:=(aaK.1 hi).1
       simp at this;omega
      subst br
      simp at hi
      obtain⟨rfl,rfl⟩:=hi
      exact⟨cD,{key:=a.eval x,val:=a.eval v,born:=ents.length},by rw[←h2];simp,rfl,bN⟩) (λhL aU ka n=>by
     have h0:=hr.mem.hr.hid b n
     unfold HB at h0 ⊢
     rw[hn]at h0
     simp only[Blk.inner]at h0 ⊢
     by_cases e9:n=ents.length
     ·subst e9
      rw[aaS (aaJ _)]at h0
      simp only[abe (aaJ _),acw,List.getElem?_cons_zero]
      exact⟨.inl ⟨h0,rfl⟩,λh=>by simp at h⟩
     ·have dG:(ents++[(y,([]:List (List PV)))])[n]? =ents[n]?:=by
       rw[abw]
       split
       ·rfl
       ·rename_i dG
        rw[aaS (by simp;omega),aaS (by omega)]
      rw[dG]
      cases hj:ents[n]? with
      |none=>rw[hj]at h0;exact h0
      |some z=>
       obtain⟨k',rs⟩:=z
       rw[hj]at h0
       have ZD:n<ents.length:=(aaK.1 hj).1
       refine⟨h0.1.kK hL λc' o s hd=>aU n c' o s hd,λ_=>?_⟩
       obtain⟨u,⟨c2,o2,s2,Bv,ee,q1,q2,q3,q4⟩,u2⟩:=h0.2 (by simp)
       rw[hb]at q1;cases q1
       rw[h1]at q2;cases q2
       refine⟨u,⟨c,of,s,_,ee,rfl,ka,?_,q4⟩,u2⟩
       rw[acs (by omega)]
       rw[abh (by omega)]at q3
       exact q3)
    have hlen:(ents++[(y,([]:List (List PV)))]).length=ents.length+1:=by simp
    have HI:m2≠b:=λe=>by subst e;simp at jM
    have mq:nth .dead (setNth st.heap b (.bF ag ks w2 (ents++[(y,[])]) (some ents.length))) m2=.pr w2 rows:=by rw[da _ _ _ _ _ h_,aaF HI];exact iF
    have PR:nth .dead (setNth st.heap b (.bF ag ks w2 (ents++[(y,[])]) (some ents.length))) b=.bF ag ks w2 (ents++[(y,[])]) (some ents.length):=by rw[da _ _ _ _ _ h_,aaG rfl]
    have ka:(bB w c (.map (es.push {key:=a.eval x,val:=a.eval v,born:=ents.length}) (ents++[(y,([]:List (List PV)))]).length)).heap[c]? =some (.map (es.push {key:=a.eval x,val:=a.eval v,born:=ents.length}) (ents++[(y,([]:List (List PV)))]).length):=iG w c _ (aaW.1 h1).1
    have PT:RA (bB w c (.map (es.push {key:=a.eval x,val:=a.eval v,born:=ents.length}) (ents++[(y,([]:List (List PV)))]).length)) ι (.sl m2 w2 i0 len cap) (a.eval v):=dp.back λ_ h=>h
    obtain⟨aC,fS,pL,HJ,⟨a7,hD⟩,BP⟩:=fp.mem.GG (b:=b) HI mq vj (by rw[eA,abd];exact h_) PT hl (blk:=.bF ag ks w2 (ents++[(y,rows.drop i0)]) none) (t:=true)
     (by rw[PR];exact Alike.bF rfl) (λ_=>⟨c,of,s,es.push {key:=a.eval x,val:=a.eval v,born:=ents.length},{key:=a.eval x,val:=a.eval v,born:=ents.length},hb,by rw[ka];simp,by rw[←h2];simp,rfl⟩)
    have PU:setNth (setNth (killH m2 (killH (.h b ents.length) (setNth st.heap b (.bF ag ks w2 (ents++[(y,[])]) (some ents.length))))) m2 .dead) b (.bF ag ks w2 (ents++[(y,rows.drop i0)]) none)=
     setNth (setNth (killH m2 (killH (.h b ents.length) st.heap)) m2 .dead) b (.bF ag ks w2 (ents++[(y,rows.drop i0)]) none):=by
     apply abj
     intro n
     simp only[eA,Nn,abR,aaZ,abd,aaR,aaM]
     by_cases e1:b=n
     ·subst e1;simp
     ·simp[e1]
    rw[PU]at fS
    refine nq (du _ ?_) ⟨aC,_,Rel.put (st:=⟨killT m2 (killT (.h b ents.length) st.tmps),setNth (setNth (killH m2 (killH (.h b ents.length) st.heap)) m2 .dead) b (.bF ag ks w2 (ents++[(y,rows.drop i0)]) none)⟩)
     ⟨fS,λs=>by rw[qF,qF];exact BP _ _ (fp.tm s),fp.sz,by rw[hD];exact fp.df⟩ hd (.aE _),ff⟩
    simp only[Instr.mapUpdate,e8,Sem.run_bind,run_underlying hu,Result.andThen_ok,jK h1,eL,j6,aT,qO _ h1]
    rw[hlen]
    rfl
  ·exact h.elim
 ·exact h.elim
theorem HK(hr:Rel cx ι st a w){o:Oper}{t kt et:TypeId}{m x v:Operand}{m' x' v':aS}(ho:o.op=.mapUpdate t m x v∨o.op=.insert t m x v)(hu:cx.P.underlying t=some (.map kt et)){ag:Bool}{ks:List CK}
 (hk:keyK cx.P kt=some (ag,ks)) (hm:cOpd m=some m') (hx:cOpd x=some x') (hv:cOpd v=some v') (hd:∀t,o.dst=some t→cx.bw t=true)
 {k:St→Prop} (h:iA cx.E false (.uK ag ks m' x' v') o.dst st k) {Q:Exit→Act→World→Prop}:o.wp cx.P a w (Kc cx k) Q:=by
 have h:xI cx.E ag ks (ev st m') (ev st x') (ev st v') o.dst st k:=dh (k:=λv=>xI cx.E ag ks (ev st m') (ev st x') v o.dst st k) (dh (k:=λx=>force (ev st v') λv=>xI cx.E ag ks (ev st m') x v o.dst st k) h)
 obtain⟨y,hy,cD,h⟩:=ve h
 rcases Gq h with⟨b,ents,jM,hn,h⟩|⟨b,wd,ents,op,jM,hn,h⟩
 rotate_left
 ·have ic:=bt hr.mem.hr.gl hr.tm hm
  have bN:=bt hr.mem.hr.gl hr.tm hx
  rw[jM]at ic
  rw[hy]at bN
  exact PO hr ho hu hk cD (lF bN) ic hn (bt hr.mem.hr.gl hr.tm hv) hd h
 obtain⟨u,vK,ff⟩:=ve h
 have ic:=bt hr.mem.hr.gl hr.tm hm
 have bN:=bt hr.mem.hr.gl hr.tm hx
 have dp:=bt hr.mem.hr.gl hr.tm hv
 rw[jM]at ic
 rw[hy]at bN
 rw[vK]at dp
 obtain⟨c,of,s,e8,hb,es,h1,h2,h3⟩:=sM hr.mem.hr ic hn
 have eL:=nj hk cD (lF bN)
 obtain⟨q,hq,aT⟩:=vd hk cD (n_.ents hk h2 h3)
 have j6:=vb 20 kt ks (ni hk).1 10000 (by omega) false _ (me cD)
 have du:∀w',(Instr.mapUpdate t (a.eval m) (a.eval x) (a.eval v)).run cx.P w=.ok () w'→(execOp a.eval o).run cx.P w=.ok .skip w':=λw' h=>by
  rcases ho with ho|ho<;>simp[execOp,ho,h]
 cases hf:mfind ents y 0 with
 |none=>
  rw[hf]at hq
  have hq:q=none:=hq
  subst hq
  have eX:=HD (v:=u) hf
  have fp:=vI (ag:=ag) (ks:=ks) (ents:=ents++[(y,u)]) (es:=es.push {key:=a.eval x,val:=a.eval v,born:=ents.length}) hr hb (by rw[hn];rfl) h1 (by simp[h2]) (λi k v hi=>by
   rw[abw]at hi
   by_cases aq:i<ents.length
   ·rw[aaG aq]at hi
    obtain⟨g0,e,g1,g2,g3,g4⟩:=h3 i k v hi
    refine⟨g0,e,?_,g2,g3,g4⟩
    rw[acs (by omega)]
    rw[abh (by omega)]at g1
    exact g1
   ·rw[aaF aq]at hi
    have br:i=ents.length:=by
     have:=(aaK.1 hi).1
     simp at this;omega
    subst br
    simp at hi
    obtain⟨rfl,rfl⟩:=hi
    exact⟨cD,{key:=a.eval x,val:=a.eval _,born:=ents.length},by rw[←h2];simp,rfl,lF bN,lF dp⟩)
  rw[←eX]at fp
  refine nq (du _ ?_) ⟨ι,_,Rel.put fp hd (.aE _),ff⟩
  simp only[Instr.mapUpdate,e8,Sem.run_bind,run_underlying hu,Result.andThen_ok,jK h1,eL,j6,aT,qO _ h1]
  have:(ents++[(y,u)]).length=ents.length+1:=by simp
  rw[eX,this]
  rfl
 |some iv=>
  obtain⟨i,v0⟩:=iv
  rw[hf]at hq
  obtain⟨j,e,kk,e1,e2,e3,rfl⟩:=hq
  have e1:i=j:=by omega
  subst e1
  obtain⟨j',yq,e5,e6,e7⟩:=Cu hf
  have e5:i=j':=by omega
  subst e5
  rw[e3]at e6;cases e6
  have eX:=PK (x:=y) (v:=u) (u:=v0) (i0:=0) (j:=i) (by rw[hf];simp)
  have kT:es[i]? =some e:=by simpa using e2
  obtain⟨g0,e',g1,g2,g3,g4⟩:=h3 i kk v0 e3
  rw[kT]at g1;cases g1
  have vJ:y=kk:=Cs cD g0 e7
  subst vJ
  have hold:e.key=a.eval x:=by rw[eL];exact nj hk cD g3
  have lH:i<ents.length:=(aaK.1 e3).1
  have fp:=vI (ag:=ag) (ks:=ks) (ents:=ents.set i (y,u)) (es:=es.modify i λe=>{e with key:=a.eval x,val:=a.eval v}) hr hb (by rw[hn];rfl) h1 (by simp[h2]) (λn k v hi=>by
   rw[aaZ]at hi
   rw[s8]
   by_cases aq:i=n
   ·subst aq
    rw[aaG rfl,aaG lH]at hi
    cases hi
    exact⟨cD,{e with key:=a.eval x,val:=a.eval v},by rw[aaG rfl,kT];rfl,g2,lF bN,lF dp⟩
   ·rw[aaF aq]at hi
    rw[aaF aq]
    exact h3 n k v hi)
  rw[←eX]at fp
  refine nq (du _ ?_) ⟨ι,_,Rel.put fp hd (.aE _),ff⟩
  have oG:=Cv (P:=cx.P) (v:=a.eval x) (by rw[eL];exact Ct hk cD) w
  rw[eL]at oG
  simp only[Instr.mapUpdate,e8,Sem.run_bind,run_underlying hu,Result.andThen_ok,jK h1,eL,j6,aT,kT,Option.map_some,Option.getD_some,hold,oG,qO _ h1]
  have:(mput ents y u).length=ents.length:=by rw[eX];simp
  rw[this]
  rfl
theorem PW(hr:Rel cx ι st a w){o:Oper}{t kt et:TypeId}{m x:Operand}{m' x':aS}(ho:o.op=.mapEntry t m x)(hu:cx.P.underlying t=some (.map kt et)){ag:Bool}{ks:List CK}
 (hk:keyK cx.P kt=some (ag,ks)) {z:PV} (hz:zeroV cx.P et=some z) (hm:cOpd m=some m') (hx:cOpd x=some x') (hd:∀t,o.dst=some t→cx.bw t=true)
 {k:St→Prop} (h:iA cx.E false (.uL ag ks z m' x') o.dst st k) {Q:Exit→Act→World→Prop}:o.wp cx.P a w (Kc cx k) Q:=by
 have h:A4 ag ks z (ev st m') (ev st x') o.dst st k:=dh (k:=λx=>A4 ag ks z (ev st m') x o.dst st k) h
 obtain⟨y,hy,cD,h⟩:=ve h
 obtain⟨b,ents,jM,hn,q0,yr,ff⟩:=NY h
 have ic:=bt hr.mem.hr.gl hr.tm hm
 have bN:=bt hr.mem.hr.gl hr.tm hx
 rw[jM]at ic
 rw[hy]at bN
 obtain⟨c,of,s,e8,hb,es,h1,h2,h3⟩:=sM hr.mem.hr ic hn
 have eL:=nj hk cD (lF bN)
 obtain⟨q,hq,aT⟩:=vd hk cD (n_.ents hk h2 h3)
 have j6:=vb 20 kt ks (ni hk).1 10000 (by omega) false _ (me cD)
 have du:∀v w',(Instr.mapEntry t (a.eval m) (a.eval x)).run cx.P w=.ok v w'→(execOp a.eval o).run cx.P w=.ok (.value v) w':=λv w' h=>by
  simp[execOp,ho,h]
 have aD:∀(aC:az) (w':World) (u:PV) (uv:Value) (n:Nat),RP w' aC.M u uv→RA w' aC (.aD [.p u,.p (.int .i64 (n:Nat))]) (.tuple #[uv,goInt n]):=λaC w' u uv n h=>by
  refine .aD rfl λi x hi=>?_
  cases i with
  |zero=>simp at hi;subst hi;exact .p h
  |succ i=>cases i with
   |zero=>simp at hi;subst hi;exact .p (.int _ _)
   |succ i=>simp at hi
 cases hf:mfind ents y 0 with
 |none=>
  rw[hf]at hq
  have hq:q=none:=hq
  subst hq
  rw[hf]at yr
  subst yr
  obtain⟨zv,kM,og⟩:=xZ (w:=w) (M:=ι.M) hz
  have fp:=vI (ag:=ag) (ks:=ks) (ents:=ents++[(y,z)]) (es:=es.push {key:=a.eval x,val:=zv,born:=ents.length}) hr hb (by rw[hn];rfl) h1 (by simp[h2]) (λi k v hi=>by
   rw[abw]at hi
   by_cases aq:i<ents.length
   ·rw[aaG aq]at hi
    obtain⟨g0,e,g1,g2,g3,g4⟩:=h3 i k v hi
    refine⟨g0,e,?_,g2,g3,g4⟩
    rw[acs (by omega)]
    rw[abh (by omega)]at g1
    exact g1
   ·rw[aaF aq]at hi
    have br:i=ents.length:=by
     have:=(aaK.1 hi).1
     simp at this;omega
    subst br
    simp at hi
    obtain⟨rfl,rfl⟩:=hi
    exact⟨cD,{key:=a.eval x,val:=zv,born:=ents.length},by rw[←h2];simp,rfl,lF bN,kM⟩)
  have hlen:(ents++[(y,z)]).length=ents.length+1:=by simp
  refine dN (du (.tuple #[zv,goInt ents.length]) _ ?_) ⟨ι,_,Rel.put fp hd (aD _ _ _ _ _ (kM.later ⟨λd ob Cw hx=>?_,λc hc=>.inl hc,by simp[bB]⟩)),ff⟩
  ·simp only[Instr.mapEntry,e8,Sem.run_bind,run_underlying hu,Result.andThen_ok,jK h1,eL,j6,aT,og,qO _ h1]
   rw[hlen]
   rfl
  ·have bg:d≠c:=λe=>by subst e;exact Cw (.inl ⟨b,of,s,hb⟩)
   rw[fg w _ bg];exact hx
 |some iv=>
  obtain⟨i,v0⟩:=iv
  rw[hf]at hq
  rw[hf]at yr
  subst yr
  obtain⟨j,e,kk,e1,e2,e3,rfl⟩:=hq
  have e1:i=j:=by omega
  subst e1
  obtain⟨j',yq,e5,e6,e7⟩:=Cu hf
  have e5:i=j':=by omega
  subst e5
  rw[e3]at e6;cases e6
  have kT:es[i]? =some e:=by simpa using e2
  obtain⟨g0,e',g1,g2,g3,g4⟩:=h3 i kk v0 e3
  rw[kT]at g1;cases g1
  have vJ:y=kk:=Cs cD g0 e7
  subst vJ
  have hold:e.key=a.eval x:=by rw[eL];exact nj hk cD g3
  have lH:i<ents.length:=(aaK.1 e3).1
  have fp:=vI (ag:=ag) (ks:=ks) (ents:=ents) (es:=es.modify i λe=>{e with key:=a.eval x}) hr hb (by rw[hn];rfl) h1 (by simp[h2]) (λn k v hi=>by
   rw[s8]
   obtain⟨q0,e2,q1,q2,q3,q4⟩:=h3 n k v hi
   by_cases aq:i=n
   ·subst aq
    rw[kT]at q1;cases q1
    rw[e3]at hi;cases hi
    exact⟨cD,{e with key:=a.eval x},by rw[aaG rfl,kT];rfl,g2,lF bN,g4⟩
   ·rw[aaF aq]
    exact⟨q0,e2,q1,q2,q3,q4⟩)
  have h_:b<st.heap.length:=hr.mem.hr.fO (by rw[hn];simp)
  rw[HF Blk.dead hn h_]at fp
  refine dN (du (.tuple #[e.val,goInt i]) _ ?_) ⟨ι,_,Rel.put fp hd (aD _ _ _ _ _ (g4.later ⟨λd ob Cw hx=>?_,λc hc=>.inl hc,by simp[bB]⟩)),ff⟩
  ·have oG:=Cv (P:=cx.P) (v:=a.eval x) (by rw[eL];exact Ct hk cD) w
   rw[eL]at oG
   simp only[Instr.mapEntry,e8,Sem.run_bind,run_underlying hu,Result.andThen_ok,jK h1,eL,j6,aT,kT,Option.map_some,Option.getD_some,hold,oG,qO _ h1,g2]
   rfl
  ·have bg:d≠c:=λe=>by subst e;exact Cw (.inl ⟨b,of,s,hb⟩)
   rw[fg w _ bg];exact hx
theorem find_born{es:Array MapEntry}{n:Nat}(hn:n<es.size)(h:∀(i:Nat) e,es[i]? =some e→e.born=i):es.findIdx? (λe=>(e.born:Int)==(n:Int))=some n:=by
 rw[Array.findIdx?_eq_some_iff_getElem]
 refine⟨hn,?_,λj hj=>?_⟩
 ·have:=h n _ (abh hn)
  simp[this]
 ·have:=h j _ (abh (by omega))
  simp only[this,adE,beq_eq_false_iff_ne]
  omega
theorem PX(hr:Rel cx ι st a w){o:Oper}{t:TypeId}{m s v:Operand}{m' s' v':aS}(ho:o.op=.entryStore t m s v)
 (hm:cOpd m=some m') (hs:cOpd s=some s') (hv:cOpd v=some v') (hd:∀t,o.dst=some t→cx.bw t=true)
 {k:St→Prop} (h:iA cx.E false (.xw m' s' v') o.dst st k) {Q:Exit→Act→World→Prop}:o.wp cx.P a w (Kc cx k) Q:=by
 have h:vestore (ev st m') (ev st s') (ev st v') o.dst st k:=dh (k:=λv=>vestore (ev st m') (ev st s') v o.dst st k) h
 obtain⟨u,hu,h⟩:=ve h
 have ic:=bt hr.mem.hr.gl hr.tm hm
 have fj:=bt hr.mem.hr.gl hr.tm hs
 have dp:=bt hr.mem.hr.gl hr.tm hv
 rw[hu]at dp
 generalize ZE:ev st m'=ma at h ic
 generalize PY:ev st s'=sa at h fj
 split at h
 ·rename_i b kk n
  split at h
  ·rename_i ag ks ents hn
   obtain⟨⟨oA,nw⟩,ff⟩:=h
   obtain⟨c,of,sz,e8,hb,es,h1,h2,h3⟩:=sM hr.mem.hr ic hn
   have Cy:=jI fj
   have om:∀(i:Nat) e,es[i]? =some e→e.born=i:=λi e he=>by
    have aq:i<ents.length:=by have:=(aaW.1 he).1;omega
    obtain⟨_,e',g1,g2,_⟩:=h3 i ents[i].1 ents[i].2 (by rw[aaI aq])
    rw[he]at g1;cases g1;exact g2
   have fp:=vI (ag:=ag) (ks:=ks) (ents:=setVal ents n.toNat u) (es:=es.modify n.toNat λe=>{e with val:=a.eval v}) hr hb (by rw[hn];rfl) h1 (by simp[HE,h2]) (λi k w0 hi=>by
    rw[PM]at hi
    rw[s8]
    by_cases e:i=n.toNat
    ·subst e
     rw[aaG rfl]at hi
     obtain⟨⟨k0,v0⟩,lE,dY⟩:=aaO.1 hi
     cases dY
     obtain⟨g0,e,g1,g2,g3,g4⟩:=h3 _ _ _ lE
     exact⟨g0,{e with val:=a.eval v},by rw[aaG rfl,g1];rfl,g2,g3,lF dp⟩
    ·rw[aaF e]at hi
     rw[aaF (abk e)]
     exact h3 i k w0 hi)
   refine nq (w':=bB w c (.map (es.modify n.toNat λe=>{e with val:=a.eval v}) (setVal ents n.toNat u).length)) ?_ ⟨ι,_,Rel.put fp hd (.aE _),ff⟩
   have jL:=find_born (es:=es) (n:=n.toNat) (by omega) om
   have yu:((n.toNat:Nat):Int)=n:=acE oA
   rw[yu]at jL
   have aT:(Instr.entryStore t (a.eval m) (a.eval s) (a.eval v)).run cx.P w=.ok () (bB w c (.map (es.modify n.toNat λe=>{e with val:=a.eval v}) (setVal ents n.toNat u).length)):=by
    simp only[Instr.entryStore,e8,Cy,Sem.run_bind,jK h1,Result.andThen_ok,asInt,asIntOf,Sem.run_pure,jL,qO _ h1,HE]
    rfl
   simp[execOp,ho,aT]
  ·exact h.elim
 ·exact h.elim
end
section
variable {cx:Cx} {ι:az} {st:St} {a:Act} {w:World}
theorem PZ(hr:Rel cx ι st a w){o:Oper}{s:Operand}{s':aS}{dT e:TypeId}{esz:Nat}{z:List PV}{c:Call}(ho:o.op=.call c)(eY:c.callee=.builtin .clear)
 (cS:c.args= #[s]) (kN:c.argTypes= #[dT]) (hu:cx.P.underlying dT=some (.slice e)) (hs:bI cx.P e=some esz) (hz:zeroT cx.P e=some z) (nA:z.length=esz) (jh:0<esz)
 (dA:cOpd s=some s') (hd:∀t,o.dst=some t→cx.bw t=true)
 {k:St→Prop} (h:iA cx.E false (.xr s' z esz) o.dst st k) {Q:Exit→Act→World→Prop}:o.wp cx.P a w (Kc cx k) Q:=by
 have fj:=bt hr.mem.hr.gl hr.tm dA
 replace h:xG st (ev st s') z esz o.dst k:=dh (k:=λs=>xG st s z esz o.dst k) h
 generalize ev st s'=as at h fj
 have run:∀v w',(Builtin.clear_ #[dT] o.type #[a.eval s]).run cx.P w=.ok v w'→(execOp a.eval o).run cx.P w=.ok (.value v) w':=λv w' h1=>by
  simp[execOp,ho,resolve,eY,cS,kN,invoke,builtin,h1]
 generalize G2:a.eval s=vs at fj run
 obtain⟨i0,v0,fQ,nh,_,qR,ov⟩:=qK (w:=w) (ι:=ι) hz
 unfold xG at h
 split at h
 ·rename_i b wd i len vu
  split at h
  ·rename_i b6 rows hn
   cases hw:(Nat.beq wd b6&&Nat.beq wd esz)with
   |false=>rw[hw]at h;exact h.elim
   |true=>
    rw[hw]at h
    simp only[cond_true]at h
    obtain⟨e1,e2⟩:=by simpa using hw
    subst e1;subst e2
    obtain⟨BY,hk⟩:=h
    have d_:=GW (w:=w) (ι:=ι) qR ov nA len
    generalize eD:(List.range (len*wd)).map (λi=>v0.cells[i%v0.cells.size]!)=new at d_
    have mn:=d_.1
    simp only[acI]at mn
    have eK:(List.replicate len z).length=len:=by simp
    have P1:(Builtin.zeroCells v0.cells len).toList=new:=by
     rw[←eD,←nA,←ov]
     unfold Builtin.zeroCells
     simp
    cases fj with
    |c_ aR=>
     rename_i oa
     have db:Mem cx ι (setNth st.heap b (.pr wd (rows.take i++List.replicate 0 z++rows.drop (i+0)))) w:=by
      have:rows.take i++List.replicate 0 z++rows.drop (i+0)=rows:=by simp
      rw[this]
      rw[HF .dead hn (hr.mem.hr.fO (by rw[hn];simp))]
      exact hr.mem
     have fR:(execOp a.eval o).run cx.P w=.ok (.value (.tuple #[])) w:=by
      apply run
      cases oa<;>simp[Builtin.clear_,run_underlying hu]
     exact dN fR ⟨ι,_,Rel.put (st:=⟨st.tmps,setNth st.heap b (.pr wd (rows.take i++List.replicate 0 z++rows.drop (i+0)))⟩) ⟨db,hr.tm,hr.sz,hr.df⟩ hd (.aD rfl (λi x h=>by simp at h)),hk⟩
    |sl hb hl aR bS=>
     rename_i c o' s cc
     have bq:=hr.mem.hr.blk b
     rw[hn,hb]at bq
     obtain⟨cs,ty,fz,hc,ht,bM,qX,cq,bn⟩:=bq.at
     have hmul:(i+len)*wd≤rows.length*wd:=abl _ (by omega)
     rw[aaU]at hmul
     have hbound:o'+i*wd+new.length≤cs.size:=by omega
     have aU:=nr (P:=cx.P) c (o'+i*wd) ty fz new 0 cs w hc (by omega) ht d_.one
     simp only[Nat.add_zero]at aU
     have fR:(execOp a.eval o).run cx.P w=.ok (.value (.tuple #[])) (bB w c (.cells (dD cs (o'+i*wd) new) ty fz)):=by
      apply run
      have hzero:(zeroValue e).run cx.P w=.ok v0 w:=od fQ nh w
      have e5:(Builtin.clear_ #[dT] o.type #[.slice (some ⟨c,o'+i*wd,none⟩) len cc]).run cx.P w=((storeCells ⟨c,o'+i*wd,none⟩ new).run cx.P w).andThen λ_ w'=>.ok (.tuple #[]) w':=by
       by_cases lI:len=0
       ·subst lI
        have:new=[]:=aa1 (by rw[mn];simp)
        subst this
        simp[Builtin.clear_,run_underlying hu,storeCells]
       ·obtain⟨ZF,rfl⟩:∃m,len=m+1:=⟨len - 1,by omega⟩
        simp[Builtin.clear_,run_underlying hu,hzero,P1]
      rw[e5,aU]
      rfl
     have hblk:fE w ι (dD cs (o'+i*wd) new) o' (.pr wd (rows.take i++List.replicate len z++rows.drop (i+len))):=by
      refine⟨?_,λn r aV=>?_,λn r j y aV hy=>?_⟩
      ·rw[eN _ _ _ hbound]
       have:=sS rows i (List.replicate len z) (by omega)
       rw[eK]at this
       rw[this];exact qX
      ·have hg:=pK rows i (List.replicate len z) (by omega) n
       rw[eK]at hg
       rw[hg]at aV
       split at aV
       ·exact d_.2.1 _ _ aV
       ·exact cq _ _ aV
      ·rw[ml _ _ _ hbound,mn]
       have hg:=pK rows i (List.replicate len z) (by omega) n
       rw[eK]at hg
       rw[hg]at aV
       split at aV
       ·rename_i a_
        obtain⟨g1,u,g2,g3⟩:=d_.2.2 _ _ j y aV hy
        have aq:=(aaK.1 g2).1
        have e3:n*wd=i*wd+(n - i)*wd:=by rw[←aaU];congr 1;omega
        rw[aaG (by omega)]
        exact⟨g1,u,by rw[←g2];congr 1;omega,g3⟩
       ·rename_i BV
        have hj:j<wd:=by rw[←cq _ _ aV];exact(aaK.1 hy).1
        rw[aaF]
        ·exact bn n r j y aV hy
        ·rintro ⟨q1,q2⟩
         rcases abz n i with h4|h4
         ·have:=qV h4 hj;omega
         ·have h5:i+len≤n:=by omega
          have:=abl wd h5
          rw[aaU]at this
          omega
     obtain⟨fS,hL⟩:=hr.mem.write hb (w':=bB w c (.cells (dD cs (o'+i*wd) new) ty fz)) (blk:=.pr wd (rows.take i++List.replicate len z++rows.drop (i+len)))
      (λd z gk hz=>by rw[fg _ _ gk];exact hz) (by simp[bB]) ⟨rfl,rfl⟩
      (λhL=>by
       have:=(hblk.kK hL).rb (ty:=ty) (fz:=fz) (iG w c _ (aaW.1 hc).1) (by rw[eN _ _ _ hbound];exact ht)
       rw[eN _ _ _ hbound,bM]at this
       exact this) (by rw[hn];rfl)
     exact dN fR ⟨ι,_,Rel.put (st:=⟨st.tmps,setNth st.heap b (.pr wd (rows.take i++List.replicate len z++rows.drop (i+len)))⟩) ⟨fS,jd hL (λ_ _ h=>h) hr.tm,hr.sz,hr.df⟩ hd (.aD rfl (λi x h=>by simp at h)),hk⟩
  ·exact h.elim
 ·exact h.elim
end
section
variable {cx:Cx} {ι:az} {st:St} {a:Act} {w:World}
theorem P2(hr:Rel cx ι st a w){o:Oper}{t kt et:TypeId}{x:Operand}{x':aS}(ho:o.op=.range t x)(hu:cx.P.underlying t=some (.map kt et))(hx:cOpd x=some x')(hd:∀t,o.dst=some t→cx.bw t=true)
 {q:Bool} {k:St→Prop} (h:A5 o.dst st (ev st x') k) {Q:Exit→Act→World→Prop}:o.wp cx.P a w (g_ cx q w k) Q:=by
 have bN:=bt hr.mem.hr.gl hr.tm hx
 generalize ev st x'=ax at h bN
 unfold A5 at h
 split at h
 ·rename_i b
  split at h
  ·rename_i ag ks ents hn
   obtain⟨c,of,s,hv,hb,es,h1,h2,h3⟩:=sM hr.mem.hr bN hn
   have aT:(execOp a.eval o).run cx.P w=.ok (.value (.pointer (some ⟨w.heap.size,0,none⟩))) (dC w (.mapIter (some c) ents.length #[] ents.length)):=by
    simp only[execOp,ho,Instr.range,Sem.run_bind,run_underlying hu,Result.andThen_ok,hv,jK h1,Sem.run_pure,run_newObj]
    rfl
   refine dN aT ?_
   have jf:=nn w (.mapIter (some c) ents.length #[] ents.length)
   obtain⟨hm,hL,bh⟩:=hr.mem.lay (w':=dC w (.mapIter (some c) ents.length #[] ents.length)) (c:=w.heap.size) (o:=0) (s:=0) (blk:=.mi (some b) ents.length []) (aaJ _) (j7 w _) ⟨rfl,rfl⟩
    (λhL bh=>⟨_,0,c,#[],rfl,jf,rfl,λb' a7=>by cases a7;exact⟨_,_,bh _ _ hb⟩⟩)
   have dB:=RA.ptr (w:=dC w (.mapIter (some c) ents.length #[] ents.length)) (ι:=ι.cE st.heap.length (some (w.heap.size,0,0))) (wd:=1) (i:=0) (j:=0) (az.oo _ _ _)
   refine⟨⟨_,_,⟨?_,sB (st:=⟨st.tmps,st.heap++[Blk.mi (some b) ents.length []]⟩) (jd hL bh hr.tm) hr.sz.1 (λt ht=>cx.eI t (hd t ht)) dB,Sz.put hr.sz hd _,by rw[Act.sA];exact hr.df⟩,h⟩,λ_=>j7 w _⟩
   rw[pt];exact hm
  ·exact h.elim
 ·exact h.elim
theorem RA.P3{b:Bool}:RA w ι (.aD [.p (.b b)]) (.tuple #[.bool b]):=by
 refine .aD rfl λi x hi=>?_
 cases i with
 |zero=>simp at hi;subst hi;exact .p (.b _)
 |succ i=>simp at hi
theorem P4(hr:Rel cx ι st a w){o:Oper}{x:Operand}{x':aS}(ho:o.op=.next x false)(hx:cOpd x=some x')(hd:∀t,o.dst=some t→cx.bw t=true)
 {k:St→Prop} (h:vmnext st (ev st x') o.dst k) {Q:Exit→Act→World→Prop}:o.wp cx.P a w (Kc cx k) Q:=by
 have bN:=bt hr.mem.hr.gl hr.tm hx
 generalize ev st x'=ax at h bN
 unfold vmnext at h
 split at h
 ·rename_i b wd
  split at h
  ·rename_i m n seen hn
   split at h
   ·rename_i ag ks ents iF
    obtain⟨rfl,dY,vL⟩:=h
    generalize vo:a.eval x=vx at bN
    cases bN
    rename_i c o' s hb
    have bq:=hr.mem.hr.blk b
    rw[hn,hb]at bq
    obtain⟨c',s',cm,sn,he,hc,HL,hm⟩:=bq
    cases he
    have x6:∀i,i∈sn.toList↔i∈seen:=λi=>by rw[←HL];simp
    obtain⟨o2,s2,oh⟩:=hm m rfl
    have vf:=hr.mem.hr.blk m
    rw[iF,oh]at vf
    obtain⟨c3,o3,s3,he,es,h1,h2,h3⟩:=vf
    cases he
    have h_:b<st.heap.length:=hr.mem.hr.fO (by rw[hn];simp)
    have om:∀(i:Nat) e,es[i]? =some e→e.born=i:=λi e he=>by
     have aq:i<ents.length:=by have:=(aaW.1 he).1;omega
     obtain⟨_,e',g1,g2,_⟩:=h3 i ents[i].1 ents[i].2 (by rw[aaI aq])
     rw[he]at g1;cases g1;exact g2
    have cn:(!sn.isEmpty&&!es.isEmpty&&es.all λe=>decide (e.born≥ents.length))=false:=by
     rcases adB es.size with h0|h0
     ·have:es= #[]:=acT h0
      subst this;simp
     ·have e_:(es.all λe=>decide (e.born≥ents.length))=false:=by
       rw[adw]
       intro cn
       rw[Array.all_eq_true]at cn
       have:=cn 0 h0
       have gZ:=om 0 es[0] (abh h0)
       rw[aa7,gZ]at this
       omega
      rw[e_,Bool.and_false]
    let left:=es.filter λe=>!sn.contains e.born
    have kU:∀e∈left,∃i,es[i]? =some e∧i∉seen:=λe he=>by
     obtain⟨h4,h5⟩:=Array.mem_filter.1 he
     obtain⟨i,hi⟩:=adY h4
     refine⟨i,hi,λhs=>?_⟩
     have:=om i e hi
     rw[this]at h5
     have h6:i∈sn:=by simpa using (x6 i).2 hs
     simp[h6]at h5
    have hold:(left.filter λe=>decide (e.born<ents.length))=left:=by
     rw[Array.filter_eq_self]
     intro e he
     obtain⟨i,hi,_⟩:=kU e he
     have aq:i<ents.length:=by have:=(aaW.1 hi).1;omega
     simp[om i e hi,aq]
    have eD:(left.filter λe=>decide (e.born≥ents.length))= #[]:=by
     rw[Array.filter_eq_empty_iff]
     intro e he
     obtain⟨i,hi,_⟩:=kU e he
     have aq:i<ents.length:=by have:=(aaW.1 hi).1;omega
     simp[om i e hi,aq]
    let lJ:Array (Option MapEntry):=(if left.isEmpty then #[none]else #[])++(left++ #[]).map some
    have P5:∀j y,lJ[j]? =some y→(y=none∧left= #[])∨∃e,y=some e∧e∈left:=λj y hy=>by
     have cT:=adv hy
     simp only[lJ,Array.mem_append,Array.mem_map]at cT
     rcases cT with cT|⟨e,he,rfl⟩
     ·split at cT
      ·rename_i h0;simp at cT;exact .inl ⟨cT,by simpa using h0⟩
      ·simp at cT
     ·exact .inr ⟨e,rfl,by simpa using he⟩
    have jh:0<lJ.size:=by
     simp only[lJ,Array.size_append,Array.size_map]
     by_cases h0:left.isEmpty
     ·rw[aaG h0];show 0<1+_;omega
     ·rw[aaF h0]
      have:left.size≠0:=λe=>h0 (by simp[acT e])
      simp;omega
    obtain⟨j,w1,hj,jO,pC,HM⟩:∃j w1,j<lJ.size∧(choose (.mapNext lJ.size)).run cx.P w=.ok j w1∧w1.heap=w.heap∧(w1.os=w.os∧w1.output=w.output):=by
     by_cases hf:lJ.size≤1
     ·exact⟨0,w,jh,by rw[run_choose];simp[Question.forced,hf],rfl,rfl,rfl⟩
     ·exact⟨w.tape w.drawn (.mapNext lJ.size)%lJ.size,{w with drawn:=w.drawn+1},acS _ jh,by rw[run_choose];simp[Question.forced,hf,Question.cut],rfl,rfl,rfl⟩
    obtain⟨y,hy⟩:∃y,lJ[j]? =some y:=⟨_,abh hj⟩
    have BM:a.eval x=.pointer (some ⟨c,0,none⟩):=by
     have e0:0+(0*wd+0)=0:=by omega
     rw[vo,e0]
    have gX:∀P:Program,(getObj c).run P w=.ok (.mapIter (some cm) ents.length sn ents.length) w:=λP=>by simp[getObj,Sem.run,hc]
    have By:(getObj cm).run cx.P w=.ok (.map es ents.length) w:=jK h1
    have run:∀v w2,((match y with
     |some e=>do
      setObj c (.mapIter (some cm) ents.length (sn.push e.born) ents.length)
      pure (.tuple #[.bool true,e.key,e.val])
     |none=>pure (.tuple #[.bool false]):Sem Value)).run cx.P w1=.ok v w2→(execOp a.eval o).run cx.P w=.ok (.value v) w2:=λv w2 h5=>by
     simp only[execOp,ho,Instr.next,BM,Sem.run_bind,gX,By,Result.andThen_ok,cn,abP,abm]
     show(((choose (.mapNext ((if(left.filter λ(e:MapEntry)=>decide (e.born<ents.length)).isEmpty then #[none]else #[])++((left.filter λ(e:MapEntry)=>decide (e.born<ents.length))++(left.filter λ(e:MapEntry)=>decide (e.born≥ents.length))).map some).size)).run cx.P w).andThen _).andThen _=_
     rw[hold,eD]
     show(((choose (.mapNext lJ.size)).run cx.P w).andThen _).andThen _=_
     rw[jO,Result.andThen_ok]
     show Result.andThen (Sem.run cx.P (match lJ[j]? with|some (some e)=>_|some none=>_|none=>_) w1) _=_
     rw[hy]
     cases y with
     |none=>simp only at h5 ⊢;rw[h5];rfl
     |some e=>simp only at h5 ⊢;rw[h5];rfl
    rcases P5 j y hy with⟨rfl,h0⟩|⟨e,rfl,he⟩
    ·have P6:∀i,i<ents.length→i∈seen:=λi hi=>by
      have aq:i<es.size:=by omega
      have P7:es[i]? =some es[i]:=abh aq
      by_cases hs:i∈seen
      ·exact hs
      ·exfalso
       have cT:es[i]∈left:=by
        refine Array.mem_filter.2 ⟨Array.getElem_mem aq,?_⟩
        rw[om i _ P7]
        have:i∉sn:=λh=>hs ((x6 i).1 (by simpa using h))
        simp[this]
       rw[h0]at cT;simp at cT
     have gg:Mem cx ι st.heap w1:=hr.mem.same pC HM
     have hL:bc ι.M w w1 ι.M:=⟨λc o _ hc=>by rw[pC];exact hc,λc hc=>.inl hc,by rw[pC];exact aaJ _⟩
     exact dN (run _ w1 rfl) ⟨ι,_,Rel.put (st:=st) ⟨gg,jd hL (λ_ _ h=>h) hr.tm,hr.sz,hr.df⟩ hd RA.P3,vL P6⟩
    ·obtain⟨i,hi,nI⟩:=kU e he
     have lH:i<ents.length:=by have:=(aaW.1 hi).1;omega
     obtain⟨_,e',g1,g2,g3,g4⟩:=h3 i ents[i].1 ents[i].2 (by rw[aaI lH])
     rw[hi]at g1;cases g1
     have fH:c<w.heap.size:=(aaW.1 hc).1
     let w2:World:=bB w1 c (.mapIter (some cm) ents.length (sn.push e.born) ents.length)
     have P8:(setObj c (.mapIter (some cm) ents.length (sn.push e.born) ents.length)).run cx.P w1=.ok () w2:=by
      have yv:w1.heap[c]? =some (.mapIter (some cm) ents.length sn ents.length):=by rw[pC];exact hc
      simp[setObj,Sem.run,yv];rfl
     have ka:w2.heap[c]? =some (.mapIter (some cm) ents.length (sn.push e.born) ents.length):=iG w1 c _ (by rw[pC];exact fH)
     obtain⟨jx,hL⟩:=hr.mem.write hb (w':=w2) (blk:=.mi (some m) ents.length (i::seen)) (λd z gk hz=>by rw[fg _ _ gk,pC];exact hz) (by simp[w2,bB,pC]) HM
      (λhL=>⟨c,s,cm,_,rfl,ka,by rw[g2];simp[HL],λb' a7=>by cases a7;exact⟨_,_,oh⟩⟩) (by rw[hn];rfl)
     refine dN (run (.tuple #[.bool true,e.key,e.val]) w2 ?_) ⟨ι,_,Rel.put (st:=⟨st.tmps,setNth st.heap b (.mi (some m) ents.length (i::seen))⟩) ⟨jx,jd hL (λ_ _ h=>h) hr.tm,hr.sz,hr.df⟩ hd ?_,
      dY i ents[i].1 ents[i].2 (by rw[aaI lH]) nI⟩
     ·simp only[Sem.run_bind,P8,Result.andThen_ok,Sem.run_pure]
     ·refine .aD rfl λi x hi=>?_
      cases i with
      |zero=>simp at hi;subst hi;exact .p (.b _)
      |succ i=>cases i with
       |zero=>simp at hi;subst hi;exact .p (g3.later hL)
       |succ i=>cases i with
        |zero=>simp at hi;subst hi;exact .p (g4.later hL)
        |succ i=>simp at hi
   ·exact h.elim
  ·exact h.elim
 ·exact h.elim
theorem HN{P:Program}{name:String}{t:TypeId}{r:Nat×Option (Nat×Bool)}(h:findTab (u0 P name) t=some r):invT P name t=some (t,r):=by
 have main:∀l:List Nat,findTab (l.filterMap (invT P name)) t=some r→invT P name t=some (t,r):=by
  intro l
  induction l with
  |nil=>intro h;cases h
  |cons x l ih=>
   intro h
   rw[List.filterMap_cons]at h
   cases hx:invT P name x with
   |none=>rw[hx]at h;exact ih h
   |some y=>
    rw[hx]at h
    obtain⟨t',r'⟩:=y
    simp only[findTab]at h
    have e:t'=x:=by
     unfold invT at hx
     revert hx
     repeat' split
     all_goals intro hx
     all_goals first|(cases hx;done)|(cases hx;rfl)
    cases hb:Nat.beq t' t with
    |true=>
     rw[hb]at h
     have e2:=abg hb
     subst e;subst e2
     cases h;exact hx
    |false=>rw[hb]at h;exact ih h
 exact main _ h
theorem P9{P:Program}{w:World}{ts:Array TypeId}{ty:TypeId}{ad:Addr}{x y:String}:(Builtin.ssaWrapNilChk_ ts ty #[.pointer (some ad),strVal x,strVal y]).run P w=.ok (.pointer (some ad)) w:=rfl
theorem fG.cons{y:AV}{v:Value}{l:List AV}{vs:Array Value}(h1:RA w ι y v)(h2:fG w ι l vs):fG w ι (y::l) (#[v]++vs):=by
 refine⟨by simp[h2.1];omega,λi z hz=>?_⟩
 cases i with
 |zero=>simp at hz;subst hz;simpa [ach]using h1
 |succ i=>
  have:=h2.2 i z (by simpa using hz)
  simpa [ach]using this
theorem P_(hF:∀f args H mv cH,cx.E.F f args H mv cH→Fn cx.P f args H mv cH)(hr:Rel cx ι st a w){o:Oper}{c:Call}{r:Operand}{name:String}{x':aS}{l:List AV}(ho:o.op=.call c)(eY:c.callee=.invoke r name)(hx:cOpd r=some x')
 (e_:fG w ι l (c.args.map a.eval)) (hd:∀t,o.dst=some t→cx.bw t=true) {q:Bool} {k:St→Prop} (h:xJ cx.E q (u0 cx.P name) (ev st x') l o.dst st k) {Q:Exit→Act→World→Prop}:o.wp cx.P a w (g_ cx q w k) Q:=by
 have bN:=bt hr.mem.hr.gl hr.tm hx
 generalize ev st x'=ax at h bN
 have one:∀(t:TypeId) (y:AV) (v:Value),a.eval r=.iface t v→RA w ι y v→vinv1 cx.E q (findTab (u0 cx.P name) t) y l o.dst st k→o.wp cx.P a w (g_ cx q w k) Q:=by
  intro t y v hv hy h
  have aT:∀f u,(method (cx.P.types.size+Made.depth) t v name).run cx.P w=.ok (f,u) w→(execOp a.eval o).run cx.P w=(callFunc f (#[u]++c.args.map a.eval)).run cx.P w:=λf u hm=>by
   have e1:((#[Value.iface t v]++c.args.map a.eval).extract 1 (#[Value.iface t v]++c.args.map a.eval).size)=c.args.map a.eval:=by
    apply abt;simp;rw[abU (by simp)]
   simp only[execOp,ho,resolve,eY,Sem.run_bind,Sem.run_pure,Result.andThen_ok,invoke,hv]
   simp only[ach,ac8,List.length_singleton,Nat.zero_lt_one,abu,abW,List.getElem?_cons_zero]
   simp only[callMethod,Sem.run_bind,run_program,Result.andThen_ok,e1,hm]
  unfold vinv1 at h
  split at h
  ·rename_i f hf
   have ht:=HN hf
   unfold invT at ht
   split at ht
   ·rename_i i hi
    split at ht
    ·rename_i m hm
     split at ht
     ·rename_i hp
      have Cz:m.path= #[]:=by simpa using hp
      split at ht
      ·rename_i f' e CA hu
       cases ht
       have vM:(method (cx.P.types.size+Made.depth) t v name).run cx.P w=.ok (f,v) w:=by
        show(method (cx.P.types.size+99+1) t v name).run cx.P w=_
        rw[method]
        simp only[Sem.run_bind,run_typeInfo hi,Result.andThen_ok,hm,Cz,CA,follow,Sem.run_pure,receiverAt,run_underlying hu,Place.get]
       exact vB hF hr (aT _ _ vM) (fG.cons hy e_) hd h
      ·split at ht<;>cases ht
      ·cases ht
     ·cases ht
    ·cases ht
   ·cases ht
  ·rename_i f sz ag hf
   have ht:=HN hf
   unfold invT at ht
   split at ht
   ·rename_i i hi
    split at ht
    ·rename_i m hm
     split at ht
     ·rename_i hp
      have Cz:m.path= #[]:=by simpa using hp
      split at ht
      ·cases ht
      ·rename_i f' e CA hu
       split at ht
       ·rename_i s g hs hg
        cases ht
        obtain⟨ad,vN⟩:∃ad,v=.pointer (some ad):=by
         unfold vload at h
         split at h
         ·cases hy;exact⟨_,rfl⟩
         ·cases hy;rename_i hy;cases hy;exact⟨_,rfl⟩
         ·cases hy;exact⟨_,rfl⟩
         ·exact h.elim
        obtain⟨av,u,h1,h2,h3⟩:=Bf hr.mem.hr hy h hs hg
        have h4:=h3 w (Ext.refl w)
        rw[vN]at h4
        have h5:(loadVar e ad).run cx.P w=.ok u w:=by simpa [Instr.loadAt,Instr.sureAddr]using h4
        have vM:(method (cx.P.types.size+Made.depth) t v name).run cx.P w=.ok (f,u) w:=by
         show(method (cx.P.types.size+99+1) t v name).run cx.P w=_
         rw[method]
         simp only[Sem.run_bind,run_typeInfo hi,Result.andThen_ok,hm,Cz,CA,follow,Sem.run_pure]
         rw[receiverAt]
         simp only[Sem.run_bind,run_underlying hu,Result.andThen_ok,Sem.run_pure,Place.get,vN]
         simp[P9,asAddr,h5]
        exact vB hF hr (aT _ _ vM) (fG.cons h2 e_) hd h1
       ·cases ht
      ·cases ht
     ·cases ht
    ·cases ht
   ·cases ht
  ·exact h.elim
 unfold xJ at h
 split at h
 ·rename_i t y
  have hp:=gW bN
  generalize hv:a.eval r=vr at hp
  cases hp
  rename_i v hy
  exact one t (.p y) v hv (.p hy) h
 ·rename_i t y
  generalize hv:a.eval r=vr at bN
  cases bN
  rename_i v hy
  exact one t y v hv hy h
 ·exact h.elim
end
def Wd(F:Fence):Prop:=F=Fence.wide∨∃l,F=Fence.wide.inRound l
def kd(P:Program)(o:Oper)(a:Act)(w:World)(K:Act→World→Prop)(Q:Exit→Act→World→Prop):Prop:=
 o.uponIn Fence.wide 0 P a K Q ((execOp a.eval o).run P w)
section
variable {P:Program} {o:Oper} {a:Act} {w:World} {K:Act→World→Prop} {Q:Exit→Act→World→Prop}
theorem Qa{row:String}{args:Array Value}{R:Value→World→Prop}(h:Rows P row args w R):RowsIn Fence.wide 0 P row args w R:=
 λc cs _=>let ⟨v,w',r,s⟩:=h c cs;⟨v,w',r,stepsIn_wide.2 s⟩
theorem fI(h:o.wp P a w K Q):kd P o a w K Q:=by
 unfold Oper.wp at h
 unfold kd
 generalize (execOp a.eval o).run P w=r at*
 cases r with
 |ok x w'=>
  cases x<;>simp only[Oper.upon]at h<;>simp only[Oper.uponIn]<;>first
   |exact h
   |exact⟨λh=>absurd h (by simp[Fence.wide]),CallsIn.mono (callsIn_wide.2 h) (λe w he=>by cases e<;>exact he)⟩
   |exact⟨λh=>absurd h (by simp[Fence.wide]),Qa h⟩
   |exact h.elim
 |halt x w'=>cases x<;>simp only[Oper.upon]at h<;>simp only[Oper.uponIn]<;>first|exact h|exact h.elim
theorem yw{K':Act→World→Prop}(hk:∀a w,K a w→K' a w)(h:kd P o a w K Q):kd P o a w K' Q:=by
 unfold kd at*
 generalize (execOp a.eval o).run P w=r at*
 cases r with
 |ok x w'=>
  cases x<;>simp only[Oper.uponIn]at h ⊢<;>
   first
    |exact hk _ _ h
    |exact⟨h.1,CallsIn.mono h.2 (λe j0 he=>by cases e<;>first|exact hk _ _ he|exact he)⟩
    |exact⟨h.1,RowsIn.mono h.2 (λ_ _ he=>hk _ _ he)⟩
    |exact⟨h.1,RoundIn.mono h.2 (λe j0 he=>by cases e<;>first|exact hk _ _ he|exact he)⟩
 |halt x w'=>cases x<;>simp only[Oper.uponIn]at h ⊢<;>exact h
theorem HO{F:Fence}(hF:Wd F)(ia:∀c,o.op≠.defer c)(h:kd P o a w K Q):o.wpIn F 0 P a w K Q:=by
 have e:Oper.semAt F.round a.eval o=execOp a.eval o:=Oper.semAt_eq _ _ _ ia
 unfold Oper.wpIn
 rw[e]
 rcases hF with rfl|⟨l,rfl⟩
 ·exact⟨λ_ _=>trivial,h⟩
 ·refine⟨λ_ _=>trivial,?_⟩
  unfold kd at h
  generalize (execOp a.eval o).run P w=r at*
  cases r with
  |ok x w'=>
   cases x<;>simp only[Oper.uponIn]at h ⊢<;>exact h
  |halt x w'=>cases x<;>simp only[Oper.uponIn]at h ⊢<;>exact h
variable {ops:Array Oper}
def wpListW(P:Program)(ops:Array Oper)(Q:Exit→Act→World→Prop):List Oper→Act→World→Prop
 |[],a,w=>Q .normal a w
 |o::rest,a,w=>if Region.wanted o (yielded ops a.tmps)then kd P o a w (wpListW P ops Q rest) Q else wpListW P ops Q rest (a.put o.dst undef) w
theorem CB{F:Fence}(hF:Wd F):∀(l:List Oper),(∀o∈l,∀c,o.op≠.defer c)→∀{a w},wpListW P ops Q l a w→wpListIn F 0 P ops Q l a w
 |[],_,a,w,h=>h
 |o::r,hd,a,w,h=>by
  unfold wpListW at h
  unfold wpListIn
  split
  ·rename_i hw
   rw[aaG hw]at h
   exact HO hF (hd o (by simp)) (yw (λa w=>CB hF r (λo ho=>hd o (by simp[ho]))) h)
  ·rename_i hw
   rw[aaF hw]at h
   exact⟨λf _=>by rcases hF with rfl|⟨l,rfl⟩<;>trivial,CB hF r (λo ho=>hd o (by simp[ho])) h⟩
def wpOpW(P:Program)(ops:Array Oper)(Q:Exit→Act→World→Prop)(i:Nat)(K:Act→World→Prop)(a:Act)(w:World):Prop:=
 match ops[i]? with
 |none=>K a w
 |some o=>if Region.wanted o (yielded ops a.tmps)then kd P o a w K Q else K (a.put o.dst undef) w
theorem HP{i:Nat}{K':Act→World→Prop}(hk:∀a w,K a w→K' a w)(h:wpOpW P ops Q i K a w):wpOpW P ops Q i K' a w:=by
 unfold wpOpW at*
 split
 ·exact hk _ _ (by simpa [*]using h)
 ·rename_i o ho
  simp only[ho]at h
  split
  ·rename_i hw;simp only[hw,abu]at h;exact yw hk h
  ·rename_i hw;simp only[hw]at h;exact hk _ _ h
theorem Qb{F:Fence}(hF:Wd F)(hd:∀(i:Nat) o,ops[i]? =some o→∀c,o.op≠.defer c){i:Nat}(h:wpOpW P ops Q i K a w):wpOpIn F 0 P ops Q i K a w:=by
 unfold wpOpW at h
 unfold wpOpIn
 cases ho:ops[i]? with
 |none=>simpa [ho]using h
 |some o=>
  simp only[ho]at h ⊢
  split
  ·rename_i hw
   rw[aaG hw]at h
   exact HO hF (hd i o ho) h
  ·rename_i hw
   rw[aaF hw]at h
   exact⟨λf _=>by rcases hF with rfl|⟨l,rfl⟩<;>trivial,h⟩
variable {S:World→Prop}
theorem HQ{i:Nat}{v:Value}(hi:ops[i]? =some o)(hy:YieldsIf P ops S o v a)(hS:S w)(h:K (a.put o.dst v) w):wpOpW P ops Q i K a w:=by
 unfold wpOpW
 simp only[hi]
 rcases hy with⟨hw,hv⟩|⟨hw,rfl⟩
 ·simp only[hw,abu,kd,hv w hS,Oper.uponIn];exact h
 ·simp only[hw,abP,abm];exact h
theorem Qc{j:Nat}{oi oj:Oper}{v:Value}(hj:ops[j]? =some oj)(oH:oi.apart ops oj=true)
 (Qd:∀cs b,oi.op≠.select cs b) (Qe:∀cs b,oj.op≠.select cs b)
 (hQ:∀c a w,Q (.panic c) (a.put oi.dst v) w→Q (.panic c) a w)
 (hy:YieldsIf P ops S oi v a) (h:wpOpW P ops Q j K (a.put oi.dst v) w):
 wpOpW P ops Q j (λa' w'=>YieldsIf P ops S oi v a'∧K (a'.put oi.dst v) w') a w:=by
 obtain⟨h1,h2,h3⟩:=Oper.apart_spec oH
 have keep:∀(a:Act),YieldsIf P ops S oi v a→∀u,YieldsIf P ops S oi v (a.put oj.dst u):=λa hy u=>
  hy.of_same (execOp_put oi Qd a oj.dst u h3) (wanted_put oi a oj.dst u h3)
 have Qg:∀d,YieldsIf P ops S oi v {a with defers:=d::a.defers}:=λd=>hy.of_same rfl rfl
 unfold wpOpW at*
 simp only[hj]at*
 rw[wanted_put oj a oi.dst v h1]at h
 split
 ·rename_i hw
  simp only[hw,abu]at h
  unfold kd at*
  rw[execOp_put oj Qe a oi.dst v h1]at h
  generalize (execOp a.eval oj).run P w=r at*
  cases r with
  |ok x w'=>
   cases x<;>simp only[Oper.uponIn]at h ⊢
   case value u=>exact⟨keep a hy u,by rw[←Act.put_comm a v u h2];exact h⟩
   case skip=>exact⟨keep a hy _,by rw[←Act.put_comm a v undef h2];exact h⟩
   case defer d=>
    refine⟨keep _ (Qg d) _,?_⟩
    rw[←Act.put_comm _ v undef h2,←Act.put_defers]
    exact h
   case enter f args=>
    refine⟨h.1,CallsIn.mono h.2 λe j0 he=>?_⟩
    cases e with
    |returned u=>exact⟨keep a hy u,by rw[←Act.put_comm a v u h2];exact he⟩
    |panicked c=>exact hQ _ _ _ he
    |outgrown=>exact he
   case row row args=>exact⟨h.1,RowsIn.mono h.2 λu j0 he=>⟨keep a hy u,by rw[←Act.put_comm a v u h2];exact he⟩⟩
   case round l f tmps assign body=>
    refine⟨h.1,RoundIn.mono h.2 λe j0 he=>?_⟩
    cases e with
    |returned u=>exact⟨keep a hy u,by rw[←Act.put_comm a v u h2];exact he⟩
    |panicked c=>exact hQ _ _ _ he
    |outgrown=>exact he
  |halt x w'=>
   cases x<;>simp only[Oper.uponIn]at h ⊢
   case panic u=>exact hQ _ _ _ h
 ·rename_i hw
  simp only[hw]at h
  exact⟨keep a hy _,by rw[←Act.put_comm a v undef h2];exact h⟩
end
section
variable {cx:Cx} {ι:az} {st:St} {a:Act} {w:World}
structure pR(cx:Cx):Prop where
 fn:∀f args H mv cH,cx.E.F f args H mv cH→Fn cx.P f args H mv cH
 it:∀g bu en ys,cx.E.G g bu en ys→dS cx.P g bu en ys
 yl:cx.bV.G→B2 cx.P cx.bV.X cx.J cx.yl
theorem Mem.HR{h:List Blk}{l:Nat}{y:List PV}{r r':Option (List (List PV))}(hm:Mem cx ι (.gh l r::h) w){w':World}{S':Nat→Prop}(hc:qG ι.S w w' S')(hj:cx.J r' w' ι.I S'):
 Mem cx {ι with X:=λc=>ι.X c∨S' c,S:=S'} (.gh l r'::h) w'∧bc ι.M w w' ({ι with X:=λc=>ι.X c∨S' c,S:=S'}:az).M:=by
 have Qh:∀c,ι.I c→c<w.heap.size:=λc hc=>hm.hr.lt hc
 have CC:∀c,ι.I c→¬ι.X c:=λc ⟨b,o,s,hb⟩=>hm.hr.cC _ _ _ _ hb
 have hL:bc ι.M w w' ({ι with X:=λc=>ι.X c∨S' c,S:=S'}:az).M:=by
  refine⟨λc o hM hx=>hc.keep c o (λhS=>hM (.inr (hm.xs c hS))) hx,λc hM=>?_,hc.grow⟩
  rcases hM with hM|hM|hM
  ·exact .inl (.inl hM)
  ·exact .inl (.inr hM)
  ·rcases hc.new c hM with h1|h1
   ·exact .inl (.inr (hm.xs c h1))
   ·exact .inr h1
 have pH:=hm.hr.blk 0
 have pH:ι (.v 0)=none∧ι.G:=pH
 obtain⟨nC,_⟩:=hm.jt l r rfl
 have aU:∀(b:Bn) c o s,ι b=some (c,o,s)→w'.heap[c]? =w.heap[c]?:=λb c o s hb=>by
  have fm:ι.I c:=⟨b,o,s,hb⟩
  obtain⟨ob,h1,_⟩:=hm.hr.size hb
  rw[h1]
  exact hc.keep c _ (λhS=>CC c fm (hm.xs c hS)) h1
 refine⟨⟨⟨hm.hr.gl.later hL,λb=>?_,hm.hr.inj,λb c o s hb=>?_,λb i=>?_⟩,?_,?_,?_,?_,hm.ge,hm.ow,?_,aa2 hm.gr hc.grow,⟨hc.os.1.trans hm.os.1,hc.os.2.trans hm.os.2⟩,hm.fx,hm.kl,?_,hm.dn,?_,λhg c h=>hc.up c (hm.su hg c h),hm.dz⟩,hL⟩
 ·cases b with
  |zero=>exact pH
  |succ b=>
   exact(hm.hr.blk (b+1)).later hL (λh=>h) (λ_ _ h=>h) λc o s hb=>aU (.v (b+1)) c o s hb
 ·have fm:ι.I c:=⟨b,o,s,hb⟩
  rintro (hX|hX)
  ·exact CC c fm hX
  ·rcases hc.new c hX with h1|h1
   ·exact CC c fm (hm.xs c h1)
   ·have:=Qh c fm;omega
 ·cases b with
  |zero=>exact HB.bare rfl ((hm.hr.hid 0 i).none rfl)
  |succ b=>exact(hm.hr.hid (b+1) i).later hL (λc o s hb=>aU _ c o s hb) (λc o s hb=>aU _ c o s hb)
 ·rintro c (hX|hX)
  ·exact abL (hm.xl c hX) hc.grow
  ·exact hc.lt c hX
 ·exact λc hS=>.inr hS
 ·exact λc hX=>.inl (hm.xe c hX)
 ·intro c hS
  rcases hc.new c hS with h1|h1
  ·exact hm.se c h1
  ·exact .inr (aa2 hm.gr h1)
 ·intro c h1 h2 h3
  have h5:=hm.fr c h1 h2 h3
  have h6:cx.w0.heap[c]? =some cx.w0.heap[c]:=abh h3
  rw[h6]at h5 ⊢
  refine hc.keep c _ (λhS=>?_) h5
  rcases hm.se c hS with h7|h7
  ·exact h2 h7
  ·omega
 ·intro d hd
  obtain⟨h1,h2,h3,h4⟩:=hm.dm d hd
  refine⟨.inl h1,λhS=>?_,h3,hc.keep d _ h2 h4⟩
  rcases hc.new d hS with h5|h5
  ·exact h2 h5
  ·have:=(aaW.1 h4).1;omega
 ·intro l2 r2 e
  cases e
  exact⟨nC,hj⟩
theorem Qj{l:List AV}{k:List PV→Prop}(h:qB l k):∃ps,l=ps.map .p∧k ps:=by
 have main:∀(l:List AV) (ps:List PV),allP l=some ps→l=ps.map .p:=by
  intro l
  induction l with
  |nil=>intro ps h;cases h;rfl
  |cons x r ih=>
   intro ps h
   cases x<;>simp only[allP]at h<;>first|(cases h;done)|skip
   split at h
   ·rename_i l2 h2
    cases h
    rw[ih _ h2];rfl
   ·cases h
 unfold qB at h
 split at h
 ·rename_i ps hp
  exact⟨ps,main _ _ hp,h⟩
 ·exact h.elim
theorem Qk(hF:pR cx)(hr:Rel cx ι st a w){o:Oper}{l:Nat}{args:List AV}{vs:Array Value}(aT:(execOp a.eval o).run cx.P w=(Instr.yield l vs).run cx.P w)(cS:fG w ι args vs)
 (hd:∀t,o.dst=some t→cx.bw t=true) {k:St→Prop} (h:vyield cx.E.en l args o.dst st k) {Q:Exit→Act→World→Prop}:kd cx.P o a w (g_ cx false w k) Q:=by
 obtain⟨t,hp⟩:=st
 unfold vyield at h
 split at h
 ·rename_i l' y r hh heq
  simp only at heq
  subst heq
  obtain⟨rfl,h⟩:=h
  obtain⟨ps,rfl,rfl,dY,vL⟩:=Qj h
  have hm:=hr.mem
  obtain⟨nC,hj⟩:=hm.jt l (some (ps::r)) rfl
  have hG:ι.G:=(hm.hr.blk 0).2
  have hY:=hF.yl (hm.ge▸hG)
  rw[←nC]at hY
  have dt:B1 w (λc=>ι.I c∨ι.X c) ps vs:=⟨by simpa using cS.1,λi x hx=>gW (cS.2 i (.p x) (by simp[hx]))⟩
  obtain⟨fn,tmps,assign,body,hy,ri⟩:=hY ps r w ι.I ι.S ι.X vs hj hm.xe hm.xs dt
  unfold kd
  rw[aT,hy]
  refine⟨λh=>absurd h (by simp[Fence.wide]),RoundIn.mono ri ?_⟩
  rintro e w' ⟨S',hc,⟨rfl,dZ⟩|⟨rfl,dZ⟩⟩
  ·obtain⟨fS,hL⟩:=Mem.HR (y:=ps) hm hc dZ
   have dY:k ((⟨t,.gh l (some r)::hh⟩:St).put o.dst (.p (.b true))):=by
    cases he:cx.E.en with
    |false=>rw[he]at dY;exact dY
    |true=>
     cases r with
     |nil=>exact absurd dZ (cx.je he _ _ _)
     |cons z r=>rw[he]at dY;exact dY
   exact⟨⟨_,_,Rel.put (st:=⟨t,.gh l (some r)::hh⟩) ⟨fS,jd hL (λ_ _ h=>h) hr.tm,hr.sz,hr.df⟩ hd (.p (.b true)),dY⟩,λh=>by cases h⟩
  ·obtain⟨fS,hL⟩:=Mem.HR (y:=ps) hm hc dZ
   exact⟨⟨_,_,Rel.put (st:=⟨t,.gh l none::hh⟩) ⟨fS,jd hL (λ_ _ h=>h) hr.tm,hr.sz,hr.df⟩ hd (.p (.b false)),vL⟩,λh=>by cases h⟩
 ·exact h.elim
theorem Ql{ro:RO}(h:valsOnly ro=true){E:En}{q:Bool}{d:Option Nat}{k:St→Prop}(hv:iA E q ro d st k):so ro st λv=>k (st.put d v):=by
 cases ro<;>first|exact hv|(simp[valsOnly]at h)
theorem Qm(hr:Rel cx ι st a w){o:Oper}{ro:RO}(hc:cop cx.P o=some ro)(hd:∀t,o.dst=some t→cx.bw t=true){q:Bool}{k:St→Prop}
 (h:so ro st λv=>k (st.put o.dst v)) {Q:Exit→Act→World→Prop}:o.wp cx.P a w (g_ cx q w k) Q:=by
 obtain⟨av,v,hk,dB,aT⟩:=GB hr.mem.hr.gl hr.tm hr.mem.hr hc h
 exact dN (aT w (Ext.refl w)) ⟨⟨ι,_,hr.put hd dB,hk⟩,λ_=>Ext.refl w⟩
theorem fG.CD(gl:ga w ι.M)(tm:∀s,RA w ι (lk st.tmps s) (a.tmps.getD s undef)){l:Array Operand}{l':List aS}(h:cOpds l.toList=some l'):fG w ι (evL st l') (l.map a.eval):=by
 obtain⟨h1,h2⟩:=xS gl tm h
 have e1:(l.toList.map a.eval).toArray=l.map a.eval:=by apply abt;simp
 rw[e1]at h2
 exact⟨by simp[h1],h2⟩
theorem fG.append{x y:List AV}{vs us:Array Value}(h1:fG w ι x vs)(h2:fG w ι y us):fG w ι (x++y) (vs++us):=by
 refine⟨by simp[h1.1,h2.1],λi z hz=>?_⟩
 rw[abw]at hz
 by_cases hi:i<x.length
 ·rw[aaG hi]at hz
  have:=h1.2 i z hz
  have aq:i<vs.size:=by rw[h1.1];exact hi
  simpa [ach,aq]using this
 ·rw[aaF hi]at hz
  have:=h2.2 _ z hz
  have aq:¬i<vs.size:=by rw[h1.1];exact hi
  rw[←h1.1]at this
  simpa [ach,aq]using this
theorem fG.HS{x:List PV}{vs:Array Value}(h1:vs.size=x.length)(h2:∀(i:Nat) y,x[i]? =some y→RP w ι.M y (vs.getD i undef)):fG w ι (x.map .p) vs:=by
 refine⟨by simp[h1],λi z hz=>?_⟩
 rw[aaM]at hz
 obtain⟨y,hy,rfl⟩:=aaO.1 hz
 exact .p (h2 i y hy)
theorem Kc.after{k:St→Prop}{a':Act}{w':World}(h:Kc cx k a' w'):g_ cx false w k a' w':=⟨h,λh=>by cases h⟩
theorem HT(hF:pR cx)(hr:Rel cx ι st a w){o:Oper}{ro:RO}(hc:cop cx.P o=some ro)(hd:∀t,o.dst=some t→cx.bw t=true){q:Bool}{k:St→Prop}
 (h:iA cx.E q ro o.dst st k) {Q:Exit→Act→World→Prop}:kd cx.P o a w (g_ cx q w k) Q:=by
 cases hv:valsOnly ro with
 |true=>exact fI (Qm hr hc hd (Ql hv h))
 |false=>
  have gP:=hc
  unfold cop at hc
  split at hc
  case h_6 e ho=>
   obtain⟨z,hz,rfl⟩:=aaO.1 hc
   rcases FR cx.P e z with e1|⟨n,z0,rest,e1,h1,h2,h3⟩
   ·rw[e1]at h;exact fI (Om hr ho hz hd h)
   ·rw[e1]at h;exact fI (On hr ho hz h1 h2 h3 hd h)
  case h_7 e x ho=>
   split at hc
   ·rename_i x' s hx hs
    cases hc
    rcases FT cx.P e x' s with e1|⟨n,e1⟩
    ·rw[e1]at h;exact fI (Ot hr ho hx hd h)
    ·rw[e1]at h;exact fI (Oq hr ho hx hd h)
   ·cases hc
  case h_9 t len parts ho=>
   split at hc
   ·rename_i e hu
    split at hc
    ·rename_i s l hs hp
     split at hc
     ·rename_i eO
      cases hc
      exact fI (OM hr ho hu hs hp eO.1 eO.2.1 eO.2.2.1 eO.2.2.2 hd h)
     ·cases hc
    ·cases hc
   ·cases hc
  case h_11 t x v ho=>
   split at hc
   ·rename_i x' v' s hx dp hs
    cases hc
    cases q with
    |true=>exact h.elim
    |false=>exact fI (Oper.wp_mono (λ_ _=>Kc.after) (OI hr ho hx dp hs hd h))
   ·cases hc
  case h_18 s d x ho=>
   split at hc
   ·cases hc;cases hv
   ·cases hc;cases hv
   ·split at hc
    ·cases hc;cases hv
    ·cases hc
   ·rename_i e x' hs ht hx
    split at hc
    ·rename_i he
     cases hc;exact fI (OR hr ho hs ht he hx hd h)
    ·cases hc
   ·cases hc
  case h_21 t l c ho=>
   split at hc
   ·rename_i e l' c' hu hl ja
    split at hc
    ·rename_i z s b hz hs hb
     split at hc
     ·rename_i eO
      cases hc
      exact fI (OQ hr ho hu hl ja hz hs hb eO.1 eO.2.1 hd h)
     ·cases hc
    ·cases hc
   ·cases hc
  case h_23 c ho=>
   split at hc
   ·rename_i f eY
    obtain⟨l,hl,rfl⟩:=aaO.1 hc
    have vO:c.callee=.value (.func f):=eY
    refine fI (vB hF.fn hr (vs:=c.args.map a.eval) ?_ (fG.CD hr.mem.hr.gl hr.tm hl) hd h)
    simp[execOp,ho,resolve,vO,Deferred.ofValue,invoke,Act.eval]
   ·rename_i x fJ eY
    split at hc
    ·rename_i x' l hx hl
     cases hc
     have bN:=bt hr.mem.hr.gl hr.tm hx
     have e_:=fG.CD hr.mem.hr.gl hr.tm hl
     have h:vcallv cx.E q (ev st x') (evL st l) o.dst st k:=h
     have vO:c.callee=.value x:=eY
     generalize ev st x'=af at h bN
     unfold vcallv at h
     split at h
     ·rename_i f fi ca
      have hp:=gW bN
      generalize rj:a.eval x=fv at hp
      cases hp
      rename_i fa rk h1 h2 h3 h4
      refine fI (vB hF.fn hr (vs:=fa++c.args.map a.eval++rk) ?_ (((fG.HS h1 h2).append e_).append (fG.HS h3 h4)) hd h)
      simp[execOp,ho,resolve,vO,rj,Deferred.ofValue,invoke]
     ·rename_i f fi ca
      generalize rj:a.eval x=fv at bN
      cases bN
      rename_i fa rk h1 h2 h3 h4
      refine fI (vB hF.fn hr (vs:=fa++c.args.map a.eval++rk) ?_ ((fG.append ⟨h1,h2⟩ e_).append ⟨h3,h4⟩) hd h)
      simp[execOp,ho,resolve,vO,rj,Deferred.ofValue,invoke]
     ·rename_i l2 ZG ZH
      cases q with
      |true=>exact h.elim
      |false=>
       obtain⟨rfl,h⟩:=h
       have rj:=u4 bN
       refine Qk hF hr (vs:=c.args.map a.eval) ?_ e_ hd h
       simp[execOp,ho,resolve,vO,rj,Deferred.ofValue,invoke]
     ·exact h.elim
    ·cases hc
   ·split at hc
    ·split at hc
     ·cases hc;cases hv
     ·cases hc;cases hv
     ·cases hc;cases hv
     ·cases hc
    ·cases hc
   ·rename_i eY
    split at hc
    ·rename_i s x sT xT cS kN
     have s9:c.args= #[s,x]:=by apply abt;simpa using cS
     have s_:c.argTypes= #[sT,xT]:=by apply abt;simpa using kN
     split at hc
     ·rename_i e e' s' x' hu vK hs hx
      split at hc
      ·rename_i z n b hz hn hb
       split at hc
       ·rename_i eO
        cases hc
        cases q with
        |true=>exact h.elim
        |false=>exact fI (Oper.wp_mono (λ_ _=>Kc.after) (G1 hr ho eY s9 s_ hu (.inl ⟨_,vK⟩) hn hb hz eO.1 eO.2.2 eO.2.1 hs hx hd h))
       ·cases hc
      ·cases hc
     ·rename_i e s' x' hu vK hs hx
      split at hc
      ·rename_i z n b hz hn hb
       split at hc
       ·rename_i eO
        cases hc
        cases q with
        |true=>exact h.elim
        |false=>exact fI (Oper.wp_mono (λ_ _=>Kc.after) (G1 hr ho eY s9 s_ hu (.inr vK) hn hb hz eO.1 eO.2.2 eO.2.1 hs hx hd h))
       ·cases hc
      ·cases hc
     ·cases hc
    ·cases hc
   ·rename_i eY
    split at hc
    ·rename_i s x sT xT cS kN
     have s9:c.args= #[s,x]:=by apply abt;simpa using cS
     have s_:c.argTypes= #[sT,xT]:=by apply abt;simpa using kN
     split at hc
     ·rename_i e s' x' hu hs hx
      obtain⟨n,hn,rfl⟩:=aaO.1 hc
      cases q with
      |true=>exact h.elim
      |false=>exact fI (Oper.wp_mono (λ_ _=>Kc.after) (O4 hr ho eY s9 s_ hu hn hs hx hd h))
     ·cases hc
    ·cases hc
   ·split at hc
    ·split at hc
     ·cases hc;cases hv
     ·cases hc
    ·cases hc
   ·split at hc
    ·split at hc
     ·cases hc;cases hv
     ·cases hc
    ·cases hc
   ·rename_i eY
    split at hc
    ·rename_i s sT cS kN
     have s9:c.args= #[s]:=by apply abt;simpa using cS
     have s_:c.argTypes= #[sT]:=by apply abt;simpa using kN
     split at hc
     ·rename_i e s' hu hs
      split at hc
      ·rename_i z n hz hn
       split at hc
       ·rename_i eO
        cases hc
        cases q with
        |true=>exact h.elim
        |false=>exact fI (Oper.wp_mono (λ_ _=>Kc.after) (PZ hr ho eY s9 s_ hu hn hz eO.1 eO.2 hs hd h))
       ·cases hc
      ·cases hc
     ·cases hc
    ·cases hc
   ·rename_i r name eY
    split at hc
    ·rename_i x' l hx hl
     cases hc
     exact fI (P_ hF.fn hr ho eY hx (fG.CD hr.mem.hr.gl hr.tm hl) hd (dh (k:=λx=>xJ cx.E q (u0 cx.P name) x (evL st l) o.dst st k) h))
    ·cases hc
   ·cases hc
  case h_24 t ho=>
   split at hc
   ·obtain⟨⟨ag,ks⟩,hk,rfl⟩:=aaO.1 hc
    exact fI (PN hr ho hd h)
   ·cases hc
  case h_26 t m x v ho=>
   split at hc
   ·rename_i kt et hu
    split at hc
    ·rename_i ag ks m' x' v' hk hm hx dp
     cases hc
     cases q with
     |true=>exact h.elim
     |false=>exact fI (Oper.wp_mono (λ_ _=>Kc.after) (HK hr (.inl ho) hu hk hm hx dp hd h))
    ·cases hc
   ·cases hc
  case h_27 t m x v ho=>
   split at hc
   ·rename_i kt et hu
    split at hc
    ·rename_i ag ks m' x' v' hk hm hx dp
     cases hc
     cases q with
     |true=>exact h.elim
     |false=>exact fI (Oper.wp_mono (λ_ _=>Kc.after) (HK hr (.inr ho) hu hk hm hx dp hd h))
    ·cases hc
   ·cases hc
  case h_28 t m x ho=>
   split at hc
   ·rename_i kt et hu
    split at hc
    ·rename_i ag ks z m' x' hk hz hm hx
     cases hc
     cases q with
     |true=>exact h.elim
     |false=>exact fI (Oper.wp_mono (λ_ _=>Kc.after) (PW hr ho hu hk hz hm hx hd h))
    ·cases hc
   ·cases hc
  case h_29 t m s v ho=>
   split at hc
   ·rename_i m' s' v' hm hs dp
    cases hc
    cases q with
    |true=>exact h.elim
    |false=>exact fI (Oper.wp_mono (λ_ _=>Kc.after) (PX hr ho hm hs dp hd h))
   ·cases hc
  case h_30 t x ho=>
   split at hc
   ·rename_i kt et x' hu hx
    cases hc
    exact fI (P2 hr ho hu hx hd h)
   ·cases hc
  case h_31 x ho=>
   obtain⟨x',hx,rfl⟩:=aaO.1 hc
   cases q with
   |true=>exact h.elim
   |false=>exact fI (Oper.wp_mono (λ_ _=>Kc.after) (P4 hr ho hx hd (dh (k:=λx=>vmnext st x o.dst k) h)))
  all_goals first
   |(obtain⟨x',hx,rfl⟩:=aaO.1 hc;cases hv)
   |skip
  all_goals exfalso
  all_goals revert hc
  all_goals repeat' split
  all_goals intro hc
  all_goals first
   |(cases hc;done)
   |(cases hc;cases hv;done)
   |(unfold cBin at hc;revert hc;repeat' split
     all_goals intro hc
     all_goals first|(cases hc;done)|(cases hc;cases hv;done))
   |(obtain⟨x',hx,hc⟩:=aaO.1 hc;subst hc;cases hv;done)
   |(obtain⟨x',hx,hc⟩:=aaO.1 hc;subst hc;rcases FQ cx.P _ _ x' with e1|⟨_,_,_,e1,_⟩<;>(rw[e1]at hv;cases hv;done))
   |(obtain⟨x',hx,hc⟩:=ab7.1 hc;first|(cases hc;done)|(cases hc;cases hv;done))
   |skip
end
section
variable {P:Program} {ops:Array Oper} {Q:Exit→Act→World→Prop} {md:Region.Mode}
def reach(md:Region.Mode)(ops:Array Oper)(i:Nat):Nat→Nat→Bool
 |0,_=>false
 |n+1,j=>match ops[j]? with
  |some o=>o.after.any λe=>Region.binds md e&&(e.on==i||reach md ops i n e.on)
  |none=>false
def still(ops:Array Oper)(i:Nat):Bool:=
 match ops[i]? with
 |some o=>stillOp o
 |none=>false
def Qn(P:Program)(c:Call):Bool:=c.argTypes.any λt=>match P.underlying t with
 |some (.pointer _)=>true
 |_=>false
def Qo(P:Program)(o:Oper):Bool:=
 match o.op with
 |.store _ _ _|.mapUpdate _ _ _ _|.insert _ _ _ _|.mapEntry _ _ _|.entryStore _ _ _ _=>true
 |.call c=>match c.callee with
  |.builtin .append|.builtin .copy|.builtin .clear=>true
  |.builtin _=>false
  |_=>Qn P c
 |_=>false
def risky(P:Program)(md:Region.Mode)(ops:Array Oper)(i:Nat):Bool:=
 (List.range ops.size).any λj=>(match ops[j]? with
  |some o=>Qo P o
  |none=>false)&&!(i==j||reach md ops i 5 j||reach md ops j 5 i)
def calm(P:Program)(md:Region.Mode)(ops:Array Oper)(i:Nat):Bool:=still ops i||risky P md ops i
def alone(P:Program)(md:Region.Mode)(ops:Array Oper)(j:Nat):Bool:=
 (List.range ops.size).all λi=>i==j||reach md ops i 7 j||reach md ops j 7 i||calm P md ops i
def pS(md:Region.Mode)(ops:Array Oper)(listed:Array Bool):Prop:=
 ∀(k:Nat) (o:Oper),listed.getD k false=true→ops[k]? =some o→∀e∈o.after,Region.binds md e=true→listed.getD e.on false=true
theorem HU{listed:Array Bool}{j k:Nat}(h:listed.getD k false=true):(listed.setIfInBounds j true).getD k false=true:=by
 by_cases e:j=k
 ·subst e
  have:j<listed.size:=by
   rcases abz j listed.size with h'|h'
   ·exact h'
   ·simp[abV h']at h
  simp[this]
 ·simp only[ab5]at*
  rw[ab4 e];exact h
theorem pS.set{listed:Array Bool}(h:pS md ops listed){j:Nat}(hj:j∈Region.ready md ops listed):pS md ops (listed.setIfInBounds j true):=by
 intro k o hk ho e he hb
 by_cases ek:j=k
 ·subst ek
  obtain⟨_,oj,pT,cn⟩:=mem_ready.1 hj
  rw[ho]at pT;cases pT
  exact HU (cn e he hb)
 ·have:listed.getD k false=true:=by
   simp only[ab5]at*
   rw[ab4 ek]at hk;exact hk
  exact HU (h k o this ho e he hb)
theorem CE{listed:Array Bool}(b0:pS md ops listed){i:Nat}:∀(n j:Nat) (oj:Oper),ops[j]? =some oj→
 (∀e∈oj.after,Region.binds md e=true→listed.getD e.on false=true)→reach md ops i n j=true→listed.getD i false=true
 |0,j,oj,_,_,h=>by cases h
 |n+1,j,oj,hj,cn,h=>by
  simp only[reach,hj,Array.any_eq_true',aaQ,ack,abv]at h
  obtain⟨e,he,hb,h⟩:=h
  rcases h with h|h
  ·rw[←h];exact cn e he hb
  ·cases ho:ops[e.on]? with
   |none=>cases n<;>simp[reach,ho]at h
   |some o=>exact CE b0 n e.on o ho (λe' qP a7=>b0 e.on o (cn e he hb) ho e' qP a7) h
theorem Qp{listed:Array Bool}(b0:pS md ops listed){i j:Nat}(aU:calm P md ops i=false)(h:alone P md ops j=true)(hi:i∈Region.ready md ops listed)(hj:j∈Region.ready md ops listed):i=j:=by
 obtain⟨yh,oi,nJ,Qq⟩:=mem_ready.1 hi
 obtain⟨yx,oj,pT,Qr⟩:=mem_ready.1 hj
 have aq:=(aaW.1 nJ).1
 have h:=aa8.1 h i (by simpa using aq)
 have un:∀{k},listed.getD k true=false→listed.getD k false=true→False:=λ{k} h1 h2=>by
  rcases abz k listed.size with h'|h'
  ·simp[h']at h1 h2;rw[h1]at h2;cases h2
  ·simp[abV h']at h2
 simp only[aU,ack,abv,abP,or_false]at h
 rcases h with(h|h)|h
 ·exact h
 ·exact(un yh (CE b0 7 j oj pT Qr h)).elim
 ·exact(un yx (CE b0 7 i oi nJ Qq h)).elim
def mw(P:Program)(md:Region.Mode)(ops:Array Oper)(Q:Exit→Act→World→Prop):Nat→Array Bool→Act→World→Prop
 |0,listed,a,w=>Region.ready md ops listed=[]∧Q .normal a w
 |fuel+1,listed,a,w=>
  (Region.ready md ops listed=[]→Q .normal a w)∧
  ∀i∈Region.ready md ops listed,wpOpW P ops Q i (λa' w'=>(alone P md ops i=false→Ext w w')∧mw P md ops Q fuel (listed.setIfInBounds i true) a' w') a w
theorem HV{F:Fence}(hF:Wd F)(hd:∀(i:Nat) o,ops[i]? =some o→∀c,o.op≠.defer c):∀(fuel:Nat) (listed:Array Bool) (a:Act) (w:World),
 mw P md ops Q fuel listed a w→wpAnyIn F 0 P md ops Q fuel listed a w
 |0,_,_,_,h=>h
 |fuel+1,_,_,_,h=>⟨h.1,λi hi=>Qb hF hd (HP (λa' w' h'=>HV hF hd fuel _ a' w' h'.2) (h.2 i hi))⟩
theorem YieldsIf.weaken{S S':World→Prop}(h:∀w,S' w→S w){o:Oper}{v:Value}{a:Act}(hy:YieldsIf P ops S o v a):YieldsIf P ops S' o v a:=
 hy.imp (λ⟨h1,h2⟩=>⟨h1,λw hw=>h2 w (h w hw)⟩) id
theorem HW{i:Nat}{oi:Oper}{v:Value}(hi:ops[i]? =some oi)(oI:∀(j:Nat) (o:Oper) cs b,ops[j]? =some o→o.op≠.select cs b)
 (hQ:∀c a w,Q (.panic c) (a.put oi.dst v) w→Q (.panic c) a w)
 {S:World→World→Prop} (hS:∀w w',Ext w w'→S w w') (Qs:∀w w' j0,S w w'→S w' j0→S w j0) (Qt:calm P md ops i=true→∀w w',S w w'):
 ∀(fuel:Nat) (listed:Array Bool) (a:Act) (w:World),
  (∀j oj,ops[j]? =some oj→j≠i→listed.getD j true=false→(∀e∈oj.after,Region.binds md e=true→e.on≠i)→oi.apart ops oj=true)→
  pS md ops listed→i∈Region.ready md ops listed→YieldsIf P ops (S w) oi v a→
  mw P md ops Q fuel (listed.setIfInBounds i true) (a.put oi.dst v) w→mw P md ops Q (fuel+1) listed a w:=by
 intro fuel
 induction fuel with
 |zero=>
  intro listed a w _ _ hr hy H
  refine⟨λh=>(by rw[h]at hr;cases hr),λj hj=>?_⟩
  by_cases mf:j=i
  ·subst mf;exact HQ hi hy (hS _ _ (Ext.refl w)) ⟨λ_=>Ext.refl w,H⟩
  ·have:=ready_mono hj mf
   rw[H.1]at this
   cases this
 |succ fuel ih=>
  intro listed a w vP b0 hr hy H
  refine⟨λh=>(by rw[h]at hr;cases hr),λj hj=>?_⟩
  by_cases mf:j=i
  ·subst mf;exact HQ hi hy (hS _ _ (Ext.refl w)) ⟨λ_=>Ext.refl w,H⟩
  ·have h1:=H.2 j (ready_mono hj mf)
   have e_:∀w w',(alone P md ops j=false→Ext w w')→S w w':=λw w' he=>by
    cases aU:calm P md ops i with
    |true=>exact Qt aU _ _
    |false=>cases h:alone P md ops j with
     |false=>exact hS _ _ (he h)
     |true=>exact absurd (Qp b0 aU h hr hj).symm mf
   obtain⟨HX,oj,pT,cn⟩:=mem_ready.1 hj
   have Bz:∀e∈oj.after,Region.binds md e=true→e.on≠i:=λe he hb heq=>by
    have h1:=cn e he hb
    have h0:=(mem_ready.1 hr).1
    rw[heq]at h1
    rcases abz i listed.size with h'|h'
    ·simp[h']at h0 h1;rw[h0]at h1;cases h1
    ·simp[abV h']at h1
   have h2:=Qc pT (vP j oj pT mf HX Bz) (λcs b=>oI i oi cs b hi) (λcs b=>oI j oj cs b pT) hQ hy h1
   have Qu:∀k ok,ops[k]? =some ok→k≠i→(listed.setIfInBounds j true).getD k true=false→
    (∀e∈ok.after,Region.binds md e=true→e.on≠i)→oi.apart ops ok=true:=λk ok hk Qv pU cO=>by
    refine vP k ok hk Qv ?_ cO
    by_cases rl:j=k
    ·subst rl;exact HX
    ·rw[getD_set_ne true rl]at pU;exact pU
   refine HP (λa' w' h3=>⟨h3.2.1,ih (listed.setIfInBounds j true) a' w' Qu (b0.set hj) (ready_mono hr (abk mf))
    (YieldsIf.weaken (λj0 Qw=>Qs _ _ _ (e_ _ _ h3.2.1) Qw) h3.1) ?_⟩) h2
   rw[Array.setIfInBounds_comm _ _ mf]
   exact h3.2.2
theorem Qx{F:Fence}(hF:Wd F)(hd:∀(i:Nat) o,ops[i]? =some o→∀c,o.op≠.defer c){id:Nat}{a:Act}{w:World}(hm:P.follows .mixedOrders=true)
 (h:mw P .any ops Q ops.size (Array.replicate ops.size false) a {w with drawn:=w.drawn+1}):(Code.region id ops true).wpIn F 0 P Q a w:=
 wpIn_region_any hm (HV hF hd _ _ _ _ h)
theorem Qy(n:Nat):pS md ops (Array.replicate n false):=by
 intro k o hk
 simp[Array.getElem?_replicate]at hk
 split at hk<;>simp at hk
end
def dOk(n:Nat→Bool):Option Nat→Bool
 |none=>true
 |some t=>n t
def cG(ops:Array Oper):Option (Nat×Bool)→Option (Option (Nat×Bool))
 |none=>some none
 |some (j,b)=>match (ops[j]?).bind (·.dst)with
  |some s=>some (some (s,b))
  |none=>none
def cit(P:Program)(n:Nat→Bool)(ops:Array Oper)(o:Oper):Option It:=
 match cop P o,cG ops o.guard with
 |some ro,some g=>if dOk n o.dst then some ⟨g,o.dst,ro⟩else none
 |_,_=>none
def cits(P:Program)(n:Nat→Bool)(ops:Array Oper):List Oper→Option (List It)
 |[]=>some []
 |o::r=>match cit P n ops o,cits P n ops r with
  |some i,some l=>some (i::l)
  |_,_=>none
def calts(it:Nat→Option It)(al:Nat→Bool)(sub:Nat→Option DT):List Nat→Option DT
 |[]=>some .xx
 |i::r=>match it i,sub i,calts it al sub r with
  |some x,some t,some o=>some (.alt x (al i) t o)
  |_,_,_=>none
def takable(P:Program)(it:Nat→Option It)(ops:Array Oper)(listed:Array Bool)(i:Nat):Bool:=
 (match it i with
 |some x=>valsOnly x.o
 |none=>false)&&(still ops i||!risky P .any ops i)&&Region.free .any ops listed i
def yy(p:Nat→Bool):List Nat→Option Nat
 |[]=>none
 |i::r=>bif p i then some i else yy p r
def cdt(P:Program)(it:Nat→Option It)(ops:Array Oper):Nat→Array Bool→Option DT
 |0,listed=>match Region.ready .any ops listed with
  |[]=>some .done
  |_=>none
 |fuel+1,listed=>match Region.ready .any ops listed with
  |[]=>some .done
  |i0::r0=>match yy (takable P it ops listed) (i0::r0)with
   |some i=>match it i,cdt P it ops fuel (listed.setIfInBounds i true)with
    |some x,some t=>some (.take x t)
    |_,_=>none
   |none=>calts it (alone P .any ops) (λi=>cdt P it ops fuel (listed.setIfInBounds i true)) (i0::r0)
def ta(P:Program)(n:Nat→Bool)(ops:Array Oper)(i:Nat):Option It:=(ops[i]?).bind (cit P n ops)
def HY(o:Oper):Bool:=
 match o.op with
 |.defer _=>false
 |_=>true
def yz(P:Program)(n:Nat→Bool)(ops:Array Oper):Option DT:=
 if Region.noSelect ops&&ops.toList.all HY then cdt P (ta P n ops) ops ops.size (Array.replicate ops.size false)else none
section
variable {cx:Cx} {ι:az} {st:St} {a:Act} {w:World} {ops:Array Oper} {Q:Exit→Act→World→Prop}
theorem Qz{p:Nat→Bool}{l:List Nat}{i:Nat}(h:yy p l=some i):i∈l∧p i=true:=by
 induction l with
 |nil=>cases h
 |cons x r ih=>
  unfold yy at h
  cases hp:p x with
  |true=>rw[hp]at h;cases h;exact⟨by simp,hp⟩
  |false=>rw[hp]at h;obtain⟨h1,h2⟩:=ih h;exact⟨by simp[h1],h2⟩
theorem yA{P:Program}{n:Nat→Bool}{o:Oper}{it:It}(h:cit P n ops o=some it):cop P o=some it.o∧cG ops o.guard=some it.g∧o.dst=it.d∧∀t,o.dst=some t→n t=true:=by
 unfold cit at h
 split at h
 ·rename_i ro g h1 h2
  split at h
  ·rename_i hd
   cases h
   refine⟨h1,h2,rfl,λt ht=>?_⟩
   rw[ht]at hd
   simpa [dOk]using hd
  ·cases h
 ·cases h
theorem QA{t:List (Nat×AV)}{s:Nat}{x:AV}(h:lk t s=x)(s':Nat):lk ((s,x)::t) s'=lk t s':=by
 simp only[lk]
 by_cases e:s=s'
 ·subst e;simp[h]
 ·rw[f_ e];rfl
theorem Rel.dup(hr:Rel cx ι st a w){s:Nat}{x:AV}(h:lk st.tmps s=x):Rel cx ι ⟨(s,x)::st.tmps,st.heap⟩ a w:=
 ⟨hr.mem,λs'=>by rw[QA h];exact hr.tm s',hr.sz,hr.df⟩
theorem RA.skip{w:World}{ι:az}:RA w ι (.aD []) undef:=.aD rfl (λi x h=>by simp at h)
theorem CF(hr:Rel cx ι st a w){o:Oper}{g:Option (Nat×Bool)}(hg:cG ops o.guard=some g)(hd:∀t,o.dst=some t→cx.bw t=true){k yes:St→Prop}(h:guarded g o.dst st k yes):
 (Region.wanted o (yielded ops a.tmps)=true∧∃st',yes st'∧Rel cx ι st' a w)∨
 (Region.wanted o (yielded ops a.tmps)=false∧∃st',k (st'.put o.dst (.aD []))∧Rel cx ι st' a w):=by
 cases vQ:o.guard with
 |none=>
  rw[vQ]at hg;cases hg
  exact .inl ⟨by simp[Region.wanted,vQ],st,h,hr⟩
 |some jb=>
  obtain⟨j,b⟩:=jb
  rw[vQ]at hg
  unfold cG at hg
  simp only at hg
  split at hg
  ·rename_i s hs
   cases hg
   unfold guarded at h
   simp only at h
   split at h
   ·rename_i c hc
    have nG:=hr.tm s
    rw[hc]at nG
    have hv:=pw nG
    have hy:yielded ops a.tmps j=some c:=by
     unfold yielded
     rw[hs]
     have aq:s<a.tmps.size:=by
      rcases abz s a.tmps.size with h'|h'
      ·exact h'
      ·simp[abV h',undef]at hv
     simp only[Option.bind_some]
     have:a.tmps[s]? =some (.bool c):=by
      simp[aq]at hv ⊢;exact hv
     rw[this]
    have hw:Region.wanted o (yielded ops a.tmps)=(c==b):=by
     simp only[Region.wanted,vQ,hy]
     cases c<;>cases b<;>rfl
    have h:=AM h
    rw[hw]
    cases c<;>cases b
    ·exact .inl ⟨rfl,_,h,hr.dup hc⟩
    ·exact .inr ⟨rfl,_,h,hr.dup hc⟩
    ·exact .inr ⟨rfl,_,h,hr.dup hc⟩
    ·exact .inl ⟨rfl,_,h,hr.dup hc⟩
   ·rename_i hc
    have nG:=hr.tm s
    rw[hc]at nG
    obtain⟨cs,hv⟩:∃cs,a.tmps.getD s undef=.tuple cs:=by
     generalize a.tmps.getD s undef=v at nG
     cases nG
     exact⟨_,rfl⟩
    have hy:yielded ops a.tmps j=none:=by
     unfold yielded
     rw[hs]
     simp only[Option.bind_some]
     rcases abz s a.tmps.size with h'|h'
     ·have:a.tmps[s]? =some (.tuple cs):=by
       simp[h']at hv ⊢;exact hv
      rw[this]
     ·rw[abV h']
    refine .inr ⟨?_,_,h,hr⟩
    simp only[Region.wanted,vQ,hy]
    rfl
   ·exact h.elim
  ·cases hg
theorem HZ(hF:pR cx){K:St→Prop}(hK:∀{a w},Kc cx K a w→Q .normal a w):∀(l:List Oper) (rn:List It),cits cx.P cx.bw ops l=some rn→
 ∀{ι:az} {st:St} {a:Act} {w:World},Rel cx ι st a w→vops cx.E rn st K→wpListW cx.P ops Q l a w
 |[],rn,hc,ι,st,a,w,hr,h=>by
  cases hc;exact hK ⟨ι,st,hr,h⟩
 |o::r,rn,hc,ι,st,a,w,hr,h=>by
  unfold cits at hc
  split at hc
  ·rename_i it l hit hl
   cases hc
   obtain⟨h1,h2,h3,h4⟩:=yA hit
   obtain⟨g,d,ro⟩:=it
   subst h3
   have ih:=λ{ι st a w}=>HZ hF hK r l hl (ι:=ι) (st:=st) (a:=a) (w:=w)
   unfold vops at h
   unfold wpListW
   rcases CF hr h2 h4 h with⟨hw,st',h,aV⟩|⟨hw,st',h,aV⟩
   ·rw[hw,aaG rfl]
    refine yw ?_ (HT hF aV h1 h4 h)
    rintro a' w' ⟨⟨aC,BQ,CG,hk⟩,_⟩
    exact ih CG hk
   ·rw[hw,aaF (by simp)]
    exact ih (aV.put h4 RA.skip) h
  ·cases hc
theorem Rel.QB{w':World}(hr:Rel cx ι st a w)(hh:w'.heap=w.heap)(ho:w'.os=w.os∧w'.output=w.output):Rel cx ι st a w':=by
 have hL:bc ι.M w w' ι.M:=⟨λc o _ h=>by rw[hh];exact h,λc h=>.inl h,by rw[hh];exact aaJ _⟩
 exact⟨hr.mem.same hh ho,λs=>(hr.tm s).later hL (λ_ _ h=>h),hr.sz,hr.df⟩
theorem QC(hF:pR cx){K:St→Prop}(hK:∀{a w},Kc cx K a w→Q .normal a w)(hQ:∀c a w a' w',Q (.panic c) a w→Q (.panic c) a' w')(oI:Region.noSelect ops=true):
 ∀(fuel:Nat) (listed:Array Bool) (t:DT),cdt cx.P (ta cx.P cx.bw ops) ops fuel listed=some t→pS .any ops listed→
 ∀{ι:az} {st:St} {a:Act} {w:World},Rel cx ι st a w→vdt cx.E t st K→mw cx.P .any ops Q fuel listed a w:=by
 intro fuel
 induction fuel with
 |zero=>
  intro listed t hc _ ι st a w hr h
  unfold cdt at hc
  split at hc
  ·rename_i rq;cases hc;exact⟨rq,hK ⟨ι,st,hr,h⟩⟩
  ·cases hc
 |succ fuel ih=>
  intro listed t hc b0 ι st a w hr h
  unfold cdt at hc
  split at hc
  ·rename_i rq
   cases hc
   exact⟨λ_=>hK ⟨ι,st,hr,h⟩,by rw[rq];simp⟩
  ·rename_i i0 r0 rq
   split at hc
   ·rename_i i QD
    obtain⟨cT,tf⟩:=Qz QD
    rw[←rq]at cT
    split at hc
    ·rename_i it t' hit iI
     cases hc
     unfold ta at hit
     obtain⟨oi,nJ,CH⟩:=ab7.1 hit
     obtain⟨h1,h2,h3,h4⟩:=yA CH
     obtain⟨g,d,ro⟩:=it
     subst h3
     have vP:Region.free .any ops listed i=true:=by
      unfold takable at tf;simp only[aaQ]at tf;exact tf.2
     have H0:still ops i=false→calm cx.P .any ops i=false:=λaU=>by
      unfold takable at tf
      simp only[aaQ,aU,acU,abJ]at tf
      unfold calm
      rw[aU,tf.1.2];rfl
     have H2:∀(v:Value),still ops i=true→YieldsIf cx.P ops (λ_=>True) oi v a→mw cx.P .any ops Q fuel (listed.setIfInBounds i true) (a.put oi.dst v) w→
      mw cx.P .any ops Q (fuel+1) listed a w:=λv aU hy hn=>
      HW nJ (Region.noSelect_spec oI) (λc a w=>hQ _ _ _ _ _) (S:=λ_ _=>True) (λ_ _ _=>trivial) (λ_ _ _ _ _=>trivial) (λ_ _ _=>trivial) fuel listed a w (Region.free_spec nJ vP) b0 cT hy hn
     have done:∀(v:Value),calm cx.P .any ops i=false→YieldsIf cx.P ops (Ext w) oi v a→mw cx.P .any ops Q fuel (listed.setIfInBounds i true) (a.put oi.dst v) w→
      mw cx.P .any ops Q (fuel+1) listed a w:=λv aU hy hn=>
      HW nJ (Region.noSelect_spec oI) (λc a w=>hQ _ _ _ _ _) (S:=Ext) (λ_ _ h=>h) (λ_ _ _ h1 h2=>h1.trans h2) (λh=>by rw[aU]at h;cases h) fuel listed a w (Region.free_spec nJ vP) b0 cT hy hn
     unfold vdt at h
     rcases CF hr h2 h4 h with⟨hw,st',h,aV⟩|⟨hw,st',h,aV⟩
     ·cases aU:still ops i with
      |true=>
       have yB:stillOp oi=true:=by unfold still at aU;rw[nJ]at aU;exact aU
       obtain⟨av,v,hk,dB,aT⟩:=N9 aV.mem.hr.gl aV.tm yB h1 h
       exact H2 v aU (.inl ⟨hw,λw _=>aT w⟩) (ih _ _ iI (b0.set cT) (aV.put h4 dB) hk)
      |false=>
       have aU:=H0 aU
       obtain⟨av,v,hk,dB,aT⟩:=GB aV.mem.hr.gl aV.tm aV.mem.hr h1 h
       exact done v aU (.inl ⟨hw,aT⟩) (ih _ _ iI (b0.set cT) (aV.put h4 dB) hk)
     ·cases aU:still ops i with
      |true=>exact H2 undef aU (.inr ⟨hw,rfl⟩) (ih _ _ iI (b0.set cT) (aV.put h4 RA.skip) h)
      |false=>exact done undef (H0 aU) (.inr ⟨hw,rfl⟩) (ih _ _ iI (b0.set cT) (aV.put h4 RA.skip) h)
    ·cases hc
   ·
    refine⟨λh0=>(by rw[rq]at h0;cases h0),?_⟩
    have main:∀(l:List Nat) (t:DT),calts (ta cx.P cx.bw ops) (alone cx.P .any ops) (λi=>cdt cx.P (ta cx.P cx.bw ops) ops fuel (listed.setIfInBounds i true)) l=some t→
     vdt cx.E t st K→∀i∈l,i∈Region.ready .any ops listed→
     wpOpW cx.P ops Q i (λa' w'=>(alone cx.P .any ops i=false→Ext w w')∧mw cx.P .any ops Q fuel (listed.setIfInBounds i true) a' w') a w:=by
     intro l
     induction l with
     |nil=>intro t _ _ i hi;cases hi
     |cons x r yC=>
      intro t hc h i hi th
      unfold calts at hc
      split at hc
      ·rename_i it t' o hit iI ho
       cases hc
       obtain⟨g,d,ro⟩:=it
       unfold vdt at h
       obtain⟨h,jw⟩:=h
       rcases aa0.1 hi with rfl|hi
       ·unfold ta at hit
        obtain⟨oi,nJ,CH⟩:=ab7.1 hit
        obtain⟨h1,h2,h3,h4⟩:=yA CH
        subst h3
        unfold wpOpW
        simp only[nJ]
        rcases CF hr h2 h4 h with⟨hw,st',h,aV⟩|⟨hw,st',h,aV⟩
        ·rw[hw,aaG rfl]
         refine yw ?_ (HT hF aV h1 h4 h)
         rintro a' w' ⟨⟨aC,BQ,CG,hk⟩,jv⟩
         refine⟨λe_=>jv (by rw[e_];rfl),ih _ _ iI (b0.set th) CG hk⟩
        ·rw[hw,aaF (by simp)]
         exact⟨λ_=>Ext.refl w,ih _ _ iI (b0.set th) (aV.put h4 RA.skip) h⟩
       ·exact yC o ho jw i hi th
      ·cases hc
    intro i hi
    exact main (i0::r0) t hc h i (by rw[←rq];exact hi) hi
theorem QE{F:Fence}(hW:Wd F)(hF:pR cx)(hm:cx.P.follows .mixedOrders=true){K:St→Prop}(hK:∀{a w},Kc cx K a w→Q .normal a w)(hQ:∀c a w a' w',Q (.panic c) a w→Q (.panic c) a' w'){t:DT}
 (hc:yz cx.P cx.bw ops=some t) (hr:Rel cx ι st a w) (h:vdt cx.E t st K) {id:Nat}:(Code.region id ops true).wpIn F 0 cx.P Q a w:=by
 unfold yz at hc
 split at hc
 ·rename_i oI
  simp only[aaQ]at oI
  have hd:∀(i:Nat) o,ops[i]? =some o→∀c,o.op≠.defer c:=λi o ho c e=>by
   have:=aa8.1 oI.2 o (by simpa using adv ho)
   simp[HY,e]at this
  exact Qx hW hd hm (QC hF hK hQ oI.1 _ _ _ hc (Qy _) (hr.QB (w':={w with drawn:=w.drawn+1}) rfl ⟨rfl,rfl⟩) h)
 ·cases hc
theorem H3{P:Program}{n:Nat→Bool}:∀{l:List Oper} {rn:List It},cits P n ops l=some rn→∀o∈l,∀c,o.op≠.defer c
 |[],_,_,o,ho,_=>by cases ho
 |x::r,rn,h,o,ho,c=>by
  unfold cits at h
  split at h
  ·rename_i it l hit hl
   rcases aa0.1 ho with rfl|ho
   ·intro e
    obtain⟨h1,_⟩:=yA hit
    unfold cop at h1
    rw[e]at h1
    cases h1
   ·exact H3 hl o ho c
  ·cases h
end
section
variable {cx:Cx} {ι:az} {st st':St} {a:Act} {w:World}
theorem ke{h:List Blk}{b:Nat}:c9 h b=true↔nth .dead h b≠.dead:=by
 unfold c9
 cases nth .dead h b<;>simp
theorem QF{h:List Blk}{b:Nat}:c9 h b=false↔nth .dead h b=.dead:=by
 unfold c9
 cases nth .dead h b<;>simp
def keepB(h:List Blk):Bn→Bool
 |.v b=>c9 h b
 |.h b i=>((nth .dead h b).inner i).isSome
def az.cut(ι:az)(h:List Blk):az:={ι with m:=λb=>if keepB h b then ι b else none}
theorem az.oJ{h:List Blk}{b:Bn}{p:Nat×Nat×Nat}(hb:(ι.cut h) b=some p):ι b=some p∧keepB h b=true:=by
 simp only[az.cut]at hb
 split at hb
 ·rename_i hl;exact⟨hb,hl⟩
 ·cases hb
theorem az.jj{h:List Blk}{b:Bn}(hl:keepB h b=true):(ι.cut h) b=ι b:=by
 simp only[az.cut,hl,abu]
theorem QG{h:List Blk}{x:Bn}(hk:keepB h x=true):c9 h x.base=true:=by
 cases x with
 |v b=>exact hk
 |h b i=>
  refine ke.2 λe=>?_
  simp only[keepB,Bn.base]at*
  rw[e]at hk;cases hk
theorem az.vR{h:List Blk}{c:Nat}(hc:(ι.cut h).M c):ι.M c:=by
 rcases hc with⟨b,o,s,hb⟩|hc
 ·exact .inl ⟨b,o,s,(az.oJ hb).1⟩
 ·exact .inr hc
theorem ar.get{h:List Blk}{fz kp:Nat→Bool}:∀{xs ys:List Blk},ar h fz kp xs ys→∀b,aj h fz kp (nth .dead xs b) (nth .dead ys b)
 |_,_,.nil l,b=>by rw[l_ _ [] b (by simp)];exact .dead _
 |_,_,.cons h0 h1,b=>by
  cases b with
  |zero=>exact h0
  |succ b=>exact h1.get b
theorem aA.get{h:List Blk}{fz kp:Nat→Bool}{t:List (Nat×AV)}:∀{t':List (Nat×AV)},aA h fz kp t t'→∀s,lk t' s=.undef∨ah h fz kp (lk t s) (lk t' s)
 |_,.nil,s=>.inl rfl
 |_,.cons (s:=s0) h0 h1,s=>by
  simp only[lk]
  by_cases e:s0=s
  ·subst e;simp;exact .inr h0
  ·rw[f_ e];exact h1.get s
theorem CI{h h':List Blk}(hr:bL ι h w):∀b:Bn,(!c9 h' b.base)=true→∀c o s,ι b=some (c,o,s)→¬(ι.cut h').M c:=by
 intro b hb c o s H4 hM
 rcases hM with⟨b',o',s',a7⟩|hX
 ·obtain⟨h1,h2⟩:=az.oJ a7
  have:=hr.inj b b' _ _ _ _ _ H4 h1
  subst this
  rw[QG h2]at hb;cases hb
 ·exact hr.cC _ _ _ _ H4 hX
theorem yD{h':List Blk}:∀b:Nat,c9 h' b=true→∀p,ι (.v b)=some p→(ι.cut h') (.v b)=some p:=λb hb p hp=>by rw[az.jj (b:=.v b) hb];exact hp
theorem aj.sound{h h':List Blk}(hr:bL ι h w){b:Nat}(hb:aj h (λb=>!c9 h' b) (λb=>c9 h' b) (nth .dead h b) (nth .dead h' b)):
 RB w (ι.cut h') ((ι.cut h') (.v b)) (nth .dead h' b)∧∀i,HB w (ι.cut h') ((ι.cut h') (.v b)) ((ι.cut h') (.h b i)) i (nth .dead h' b):=by
 have h0:=hr.blk b
 have hh:=hr.hid b
 have sound:∀{x y:AV} {v:Value},RA w ι x v→ah h (λb=>!c9 h' b) (λb=>c9 h' b) x y→RA w (ι.cut h') y v:=λhx hk=>
  ah.sound hr (CI hr) yD (λc=>az.vR) hx hk
 have hL:bc ι.M w w (ι.cut h').M:=⟨λ_ _ _ h=>h,λc hc=>.inl (az.vR hc),aaJ _⟩
 have bare:∀{y:Blk},nth .dead h' b=y→y.bare=true→∀i,(ι.cut h') (.h b i)=none:=λ{y} hy hb i=>by
  have:keepB h' (.h b i)=false:=by
   simp only[keepB];rw[hy]
   cases y<;>first|rfl|cases hb
  simp[az.cut,this]
 have CJ:∀i,((nth .dead h' b).inner i).isSome=true→(ι.cut h') (.h b i)=ι (.h b i):=λi hi=>az.jj hi
 have yE:∀i,((nth .dead h' b).inner i).isSome=false→(ι.cut h') (.h b i)=none:=λi hi=>by
  have:keepB h' (.h b i)=false:=hi
  simp[az.cut,this]
 have qT:∀{i wd:Nat} {rows:List (List PV)} {t:Bool} {v:Value},(nth .dead h b).inner i=some (wd,rows,t)→po (ι (.h b i)) wd rows.length v→((nth .dead h' b).inner i).isSome=false→RP w (ι.cut h').M (.au wd rows none) v:=λ{i wd rows t v} h1 h2 h3=>
  hr.qT h1 h2 (λc o s hc hM=>by
   rcases hM with⟨b',o',s',a7⟩|hX
   ·obtain⟨g1,g2⟩:=az.oJ a7
    have:=hr.inj _ _ _ _ _ _ _ hc g1
    subst this
    have g2:((nth .dead h' b).inner i).isSome=true:=g2
    rw[h3]at g2;cases g2
   ·exact hr.cC _ _ _ _ hc hX) hL
 generalize hx:nth .dead h b=x at hb h0 hh qT
 generalize hy:nth .dead h' b=y at hb bare CJ yE qT
 cases hb with
 |dead=>
  refine⟨?_,λi=>HB.bare rfl (bare rfl rfl i)⟩
  show _=none
  have:keepB h' (.v b)=false:=QF.2 hy
  simp[az.cut,this]
 |mx hl=>
  refine⟨?_,λi=>HB.bare rfl (bare rfl rfl i)⟩
  have:keepB h' (.v b)=true:=ke.2 (by rw[hy];simp)
  rw[az.jj this]
  obtain⟨c,o,s,cs,ty,fz,h1,h2,h3,h4,h5,h6⟩:=h0
  obtain⟨g1,g2⟩:=hl.get
  refine⟨c,o,s,cs,ty,fz,h1,h2,h3,h4,by rw[←g1];exact h5,λj y hy=>?_⟩
  obtain⟨x,hx,hk⟩:=g2 j y hy
  obtain⟨v,v1,v2,v3⟩:=h6 j x hx
  exact⟨v,v1,v2,sound v3 hk⟩
 |pr hl=>
  refine⟨?_,λi=>HB.bare rfl (bare rfl rfl i)⟩
  have:keepB h' (.v b)=true:=ke.2 (by rw[hy];simp)
  rw[az.jj this]
  have hlen:=hl.len
  rcases h0 with⟨h1,h2⟩|⟨c,o,s,cs,ty,fz,h1,h2,h3,h4,h5,h6,h7⟩
  ·refine .inl ⟨h1,?_⟩
   subst h2
   exact aa1 (by simpa using hlen.symm)
  ·refine .inr ⟨c,o,s,cs,ty,fz,h1,h2,h3,h4,by rw[←hlen];exact h5,λi row hi=>?_,λi row j x hi hx=>?_⟩
   ·obtain⟨r0,gy,hle⟩:=hl.get i row hi
    rw[←hle.len];exact h6 i r0 gy
   ·obtain⟨r0,gy,hle⟩:=hl.get i row hi
    obtain⟨x0,fJ,H5⟩:=hle.get j x hx
    obtain⟨o1,v,hv,hp⟩:=h7 i r0 j x0 gy fJ
    exact⟨H5.one o1,v,hv,(H5.sound hp).later hL⟩
 |mp=>
  refine⟨?_,λi=>HB.bare rfl (bare rfl rfl i)⟩
  have:keepB h' (.v b)=true:=ke.2 (by rw[hy];simp)
  rw[az.jj this]
  obtain⟨c,o,s,h1,h2⟩:=h0
  exact⟨c,o,s,h1,h2.later hL rfl⟩
 |ax ha hl=>
  refine⟨?_,λi=>HB.bare rfl (bare rfl rfl i)⟩
  have:keepB h' (.v b)=true:=ke.2 (by rw[hy];simp)
  rw[az.jj this]
  obtain⟨hn,c,o,s,cs,ty,fz,h1,h2,h3,h4,h5,h6⟩:=h0
  obtain⟨g1,g2⟩:=hl.get
  have e_:=ha.len
  refine⟨by rw[←e_];exact hn,c,o,s,cs,ty,fz,h1,h2,h3,h4,?_,λj y hy=>?_⟩
  ·simp only[aaV,aaR]at h5 ⊢
   rw[←e_,←g1];exact h5
  ·rw[abw]at hy
   split at hy
   ·rename_i aq
    rw[aaM]at hy
    obtain⟨y0,vy,rfl⟩:=aaO.1 hy
    obtain⟨x,hx,hk⟩:=ha.get j y0 vy
    obtain⟨v,v1,v2,v3⟩:=h6 j (.p x) (by rw[aa9 (by simpa [e_]using aq),aaM,hx];rfl)
    exact⟨v,v1,v2,sound v3 (.p hk)⟩
   ·rename_i dG
    obtain⟨x,hx,hk⟩:=g2 _ y hy
    obtain⟨v,v1,v2,v3⟩:=h6 j x (by rw[abe (by simpa [e_]using dG),aaR,e_];simpa using hx)
    exact⟨v,v1,v2,sound v3 hk⟩
 |gh=>
  refine⟨?_,λi=>HB.bare rfl (bare rfl rfl i)⟩
  have:keepB h' (.v b)=true:=ke.2 (by rw[hy];simp)
  rw[az.jj this]
  exact h0
 |prt=>
  rename_i wd r s
  refine⟨?_,λi=>HB.bare rfl (bare rfl rfl i)⟩
  have:keepB h' (.v b)=true:=ke.2 (by rw[hy];simp)
  rw[az.jj this]
  rcases h0 with⟨h1,h2⟩|⟨c,o,s',cs,ty,fz,h1,h2,h3,h4,h5,h6,h7⟩
  ·exact .inl ⟨h1,(List.append_eq_nil_iff.1 h2).1⟩
  ·have aq:∀(i:Nat) row,r[i]? =some row→(r++s)[i]? =some row:=λi row hi=>by
    rw[aa9 (aaK.1 hi).1];exact hi
   refine .inr ⟨c,o,s',cs,ty,fz,h1,h2,h3,h4,?_,λi row hi=>h6 i row (aq i row hi),λi row j x hi hx=>?_⟩
   ·rw[aaV,aaU]at h5;omega
   ·obtain⟨o1,v,hv,hp⟩:=h7 i row j x (aq i row hi) hx
    exact⟨o1,v,hv,hp.later hL⟩
 |mi hm=>
  refine⟨?_,λi=>HB.bare rfl (bare rfl rfl i)⟩
  have:keepB h' (.v b)=true:=ke.2 (by rw[hy];simp)
  rw[az.jj this]
  exact RB.qE (λb hb=>⟨b,(hm b hb).1,λp hp=>yD b (hm b hb).2 p hp⟩) (λ_ _ _ _=>rfl) h0
 |pn=>
  rename_i wo wd c op
  have hk:keepB h' (.v b)=true:=ke.2 (by rw[hy];simp)
  rw[az.jj hk]
  refine⟨RB.sx hL (λ_ _ _ _=>rfl) h0,λi=>?_⟩
  have h1:=(hh i).later hL (λ_ _ _ _=>rfl) (λ_ _ _ _=>rfl)
  unfold HB at h1 ⊢
  cases hi:(Blk.pn wo wd c op).inner i with
  |none=>rw[hi]at h1;exact yE i (by rw[hi];rfl)
  |some z=>rw[hi]at h1;rw[CJ i (by rw[hi];rfl)];exact h1
 |bF=>
  rename_i ag ks wd e op
  have hk:keepB h' (.v b)=true:=ke.2 (by rw[hy];simp)
  rw[az.jj hk]
  refine⟨RB.sy hL (λ_ _ _ _=>rfl) h0,λi=>?_⟩
  have h1:=(hh i).later hL (λ_ _ _ _=>rfl) (λ_ _ _ _=>rfl)
  unfold HB at h1 ⊢
  cases hi:(Blk.bF ag ks wd e op).inner i with
  |none=>rw[hi]at h1;exact yE i (by rw[hi];rfl)
  |some z=>rw[hi]at h1;rw[CJ i (by rw[hi];rfl)];exact h1
 |uU hl hc=>
  rename_i wo wd rows c
  have hk:keepB h' (.v b)=true:=ke.2 (by rw[hy];simp)
  rw[az.jj hk]
  have hold:∀i,ι (.h b i)=none:=λi=>(hh i).none rfl
  have H6:∀i,(ι.cut h') (.h b i)=none:=λi=>by
   simp only[az.cut,hold];split<;>rfl
  rcases h0 with⟨h1,h2⟩|⟨c0,o,s,cs,ty,fz,h1,h2,h3,h4,h5,h6,h7⟩
  ·subst h2
   have gP:c=[]:=aa1 (by rw[hl];simp)
   subst gP
   exact⟨.inl ⟨h1,rfl⟩,λi=>H6 i⟩
  ·have cell:∀j fl rs,c[j]? =some (fl,rs)→∃v,cs[o+j]? =some v∧dP v=true∧(fl=false→RP w (ι.cut h').M (.au wd rs (some rs.length)) v)∧(fl=true→rs=[]∧∃oa,v=.slice oa 0 0):=λj fl rs hj=>by
    have QH:j<rows.length*wo:=by rw[←hl];exact(aaK.1 hj).1
    obtain⟨n,m,hn,hm,rfl⟩:=BR QH
    have bm:=aaI hn
    have cq:=h6 n _ bm
    have eK:=aaI (l:=rows[n]) (i:=m) (by omega)
    obtain⟨g1,v,g2,g3⟩:=h7 n _ m _ bm eK
    have g4:=hc n m _ _ bm eK
    rw[hj]at g4
    refine⟨v,g2,g3.sv g1,λe=>?_,λe=>?_⟩
    ·subst e
     rcases g4 with⟨e1,_⟩|⟨r2,e1,e2⟩
     ·cases e1
     ·cases e1;rw[e2]at g3;exact g3.later hL
    ·subst e
     rcases g4 with⟨e1,w0,e2⟩|⟨r2,e1,_⟩
     ·cases e1
      rw[e2]at g3
      obtain⟨oa,c1,hv,_,aR,_⟩:=lC g3
      have:c1=0:=aR 0 rfl
      subst this
      exact⟨rfl,oa,by simpa using hv⟩
     ·cases e1
   refine⟨.inr ⟨c0,o,s,cs,ty,fz,h1,h2,h3,h4,by rw[hl];exact h5,λj fl rs hj=>?_⟩,λi=>?_⟩
   ·obtain⟨v,v1,v2,v3,_⟩:=cell j fl rs hj
    exact⟨v,v1,v2,v3⟩
   ·unfold HB
    rw[H6 i]
    simp only[Blk.inner]
    cases hi:c[i]? with
    |none=>trivial
    |some z=>
     obtain⟨fl,rs⟩:=z
     cases fl with
     |false=>trivial
     |true=>
      obtain⟨v,v1,v2,_,v3⟩:=cell i true rs hi
      obtain⟨e1,oa,e2⟩:=v3 rfl
      subst e1
      exact⟨.inl ⟨rfl,rfl⟩,λ_=>⟨v,⟨c0,o,s,h1,by rw[cell_of h2];exact v1⟩,.inr ⟨rfl,oa,e2⟩⟩⟩
 |FG hl hw hc=>
  rename_i wo wd rows c
  refine⟨?_,λi=>HB.bare rfl (bare rfl rfl i)⟩
  have hk:keepB h' (.v b)=true:=ke.2 (by rw[hy];simp)
  rw[az.jj hk]
  rcases h0 with⟨h1,h2⟩|⟨c0,o,s,cs,ty,fz,h1,h2,h3,h4,h5,h6⟩
  ·refine .inl ⟨h1,?_⟩
   subst h2
   cases rows with
   |nil=>rfl
   |cons r rows=>
    have h8:0=(rows.length+1)*(wo+1):=hl
    have:=Nat.mul_pos (adF rows.length) (adF wo)
    simp at*
  ·refine .inr ⟨c0,o,s,cs,ty,fz,h1,h2,h3,h4,by rw[←hl];exact h5,hw,λn row j x hn hx=>?_⟩
   obtain⟨fl,rs,e1,rfl⟩:=hc n j row x hn hx
   obtain⟨v,v1,v2,v3⟩:=h6 _ fl rs e1
   refine⟨rfl,v,v1,?_⟩
   cases fl with
   |false=>exact((v3 rfl).later hL).vl
   |true=>
    have h9:=hh (n*(wo+1)+j)
    unfold HB at h9
    have a_:(Blk.pn (wo+1) wd c none).inner (n*(wo+1)+j)=some (wd,rs,true):=by simp only[Blk.inner];rw[e1];rfl
    rw[a_]at h9
    obtain⟨u,⟨c2,o2,s2,q1,q2⟩,u2⟩:=h9.2 rfl
    rw[h1]at q1;cases q1
    rw[cell_of h2,v1]at q2;cases q2
    exact qT a_ u2 rfl
 |FH=>
  rename_i ag ks wd
  have hk:keepB h' (.v b)=true:=ke.2 (by rw[hy];simp)
  rw[az.jj hk]
  obtain⟨c,o,s,h1,es,h2,h3,h4⟩:=h0
  exact⟨⟨c,o,s,h1,es,h2,h3,λi k rows hi=>by simp at hi⟩,λi=>yE i rfl⟩
 |FI he=>
  rename_i ag ks wd e e'
  subst he
  refine⟨?_,λi=>HB.bare rfl (bare rfl rfl i)⟩
  have hk:keepB h' (.v b)=true:=ke.2 (by rw[hy];simp)
  rw[az.jj hk]
  obtain⟨c,o,s,h1,es,h2,h3,h4⟩:=h0
  refine⟨c,o,s,h1,es,by rw[aaR];exact h2,by rw[aaR];exact h3,λi k v hi=>?_⟩
  rw[aaM]at hi
  obtain⟨⟨k',rows⟩,bp,e1⟩:=aaO.1 hi
  cases e1
  obtain⟨g0,en,g1,g2,g3⟩:=h4 i _ rows bp
  refine⟨g0,en,g1,g2,g3.later hL,?_⟩
  have h9:=hh i
  unfold HB at h9
  have a_:(Blk.bF ag ks wd e none).inner i=some (wd,rows,true):=by simp only[Blk.inner];rw[bp];rfl
  rw[a_]at h9
  obtain⟨u,⟨c2,o2,s2,Bv,ee,q1,q2,q3,q4⟩,u2⟩:=h9.2 rfl
  rw[h1]at q1;cases q1
  rw[h2]at q2;cases q2
  rw[g1]at q3;cases q3
  rw[←q4]at u2
  exact qT a_ u2 rfl
theorem CL{fx:Nat→Bool}{h:List Blk}:∀{k:Nat},fixOk fx h k=true→∀b,b<k→fx b=true→c9 h b=true
 |0,_,b,hb,_=>by omega
 |k+1,hf,b,hb,hx=>by
  simp only[fixOk,aaQ,ack,abJ]at hf
  by_cases e:b=k
  ·subst e
   rcases hf.1 with h|h
   ·rw[h]at hx;cases hx
   ·unfold c9;exact h
  ·exact CL hf.2 b (by omega) hx
theorem QI{h':List Blk}:bc ι.M w w (ι.cut h').M:=⟨λ_ _ _ h=>h,λc hc=>.inl (az.vR hc),aaJ _⟩
theorem bL.cut{h h':List Blk}(hr:bL ι h w)(hle:ar h (λb=>!c9 h' b) (λb=>c9 h' b) h h'):bL (ι.cut h') h' w:=
 ⟨hr.gl.later QI,λb=>(aj.sound hr (hle.get b)).1,λb b' c o s o' s' h1 h2=>hr.inj b b' c o s o' s' (az.oJ h1).1 (az.oJ h2).1,
  λb c o s h1=>hr.cC b c o s (az.oJ h1).1,λb i=>(aj.sound hr (hle.get b)).2 i⟩
theorem aj.QJ{h:List Blk}{fz kp:Nat→Bool}{x:Blk}{l:Nat}{r:Option (List (List PV))}(hb:aj h fz kp x (.gh l r)):x=.gh l r:=by
 generalize hy:Blk.gh l r=y at hb
 cases hb<;>first|(cases hy;done)|rfl
theorem Mem.cut{h h':List Blk}(hm:Mem cx ι h w)(hle:ar h (λb=>!c9 h' b) (λb=>c9 h' b) h h')(hk:cx.E.k≤h'.length)(hf:fixOk cx.E.fx h' cx.E.k=true):Mem cx (ι.cut h') h' w:=
 hm.step (hm.hr.cut hle) (λ_ _ _ h=>h) (λc ⟨b,o,s,hb⟩=>.inl ⟨b,o,s,(az.oJ hb).1⟩) (aaJ _) ⟨rfl,rfl⟩ rfl rfl rfl rfl
  (λb hb=>by rw[az.jj (b:=.v b) (CL hf b (cx.fk b hb) hb)]) hk (λl r e=>by have:=hle.get 0;rw[e]at this;exact this.QJ)
theorem Rel.CM(hr:Rel cx ι st a w)(h:cX cx.E st st'):Rel cx (ι.cut st'.heap) st' a w:=by
 obtain⟨⟨hk,hf⟩,ht,hh⟩:=h
 refine⟨hr.mem.cut hh (by simpa using hk) hf,λs=>?_,hr.sz,hr.df⟩
 rcases ht.get s with h|h
 ·rw[h];exact .aE _
 ·exact ah.sound hr.mem.hr (CI hr.mem.hr) yD (λc=>az.vR) (hr.tm s) h
theorem Rel.mono(hr:Rel cx ι st a w)(h:cX cx.E st st'):∃aC,Rel cx aC st' a w:=⟨_,hr.CM h⟩
theorem QM(live:List Nat)(t:List (Nat×AV))(s:Nat):lk (live.map λs=>(s,lk t s)) s=.undef∨lk (live.map λs=>(s,lk t s)) s=lk t s:=by
 induction live with
 |nil=>exact .inl rfl
 |cons x r ih=>
  simp only[abr,lk]
  by_cases e:x=s
  ·subst e;simp
  ·rw[f_ e];exact ih
theorem Rel.trim(hr:Rel cx ι st a w)(live:List Nat):Rel cx ι (Hk.trim live st) a w:=
 ⟨hr.mem,λs=>by
  rcases QM live st.tmps s with h|h
  ·simp only[Hk.trim,h];exact .aE _
  ·simp only[Hk.trim,h];exact hr.tm s,hr.sz,hr.df⟩
theorem H7(t:List (Nat×AV))(n:Nat)(x:AV)(s:Nat):lk (setT t n x) s=lk t s∨(s=n∧lk (setT t n x) s=x):=by
 induction t with
 |nil=>exact .inl rfl
 |cons p r ih=>
  obtain⟨k,v⟩:=p
  simp only[setT]
  by_cases e:k=n
  ·subst e
   simp only[acr,cond_true,lk]
   by_cases e2:k=s
   ·subst e2;simp
   ·rw[f_ e2];exact .inl rfl
  ·rw[f_ e]
   simp only[cond_false,lk]
   by_cases e2:k=s
   ·subst e2;simp
   ·rw[f_ e2];exact ih
theorem CN(n wd:Nat)(x:AV):(∃w0,x=.p (.au w0 [] (some 0))∧matV n wd x=(.sl n wd 0 0 none,[.pr wd []]))∨matV n wd x=(x,[]):=by
 unfold matV
 split
 ·rename_i w0;exact .inl ⟨w0,rfl,rfl⟩
 ·exact .inr rfl
theorem RA.kH{w0 n wd:Nat}{v:Value}(h:RA w ι (.p (.au w0 [] (some 0))) v):RA w ι (.sl n wd 0 0 none) v:=by
 obtain⟨oa,c0,hv,hc,aR,_⟩:=lC (gW h)
 have gP:c0=0:=aR 0 rfl
 subst gP
 rw[hv]
 exact .c_ (λk hk=>by cases hk)
theorem Mem.more{h:List Blk}(hm:Mem cx ι h w)(wd:Nat):Mem cx ι (h++[.pr wd []]) w:=by
 refine hm.step ⟨hm.hr.gl,λb=>?_,hm.hr.inj,hm.hr.cC,GC hm.hr rfl⟩ (λ_ _ _ h=>h) (λc h=>.inl h) (aaJ _) ⟨rfl,rfl⟩ rfl rfl rfl rfl (λ_ _=>rfl) (by have:=hm.kl;simp;omega) (λl r e=>?_)
 ·rw[pq]
  split
  ·rename_i e
   have:=hm.hr.blk b
   rw[l_ _ _ _ (by omega)]at this
   exact .inl ⟨this,rfl⟩
  ·exact hm.hr.blk b
 ·rw[pq]at e
  split at e
  ·cases e
  ·exact e
theorem Rel.mat1(hr:Rel cx ι st a w)(m:pk):Rel cx ι (st.mat1 m) a w:=by
 cases m with
 |slot s wd=>
  simp only[St.mat1]
  rcases CN st.heap.length wd (lk st.tmps s)with⟨w0,hx,he⟩|he
  ·rw[he]
   refine⟨hr.mem.more wd,λs'=>?_,hr.sz,hr.df⟩
   rcases H7 st.tmps s (.sl st.heap.length wd 0 0 none) s' with h|⟨h1,h2⟩
   ·simp only[h];exact hr.tm s'
   ·subst h1
    simp only[h2]
    have:=hr.tm s'
    rw[hx]at this
    exact this.kH
  ·rw[he]
   refine⟨by simpa using hr.mem,λs'=>?_,hr.sz,hr.df⟩
   rcases H7 st.tmps s (lk st.tmps s) s' with h|⟨h1,h2⟩
   ·simp only[h];exact hr.tm s'
   ·subst h1
    simp only[h2];exact hr.tm s'
 |cell b j wd=>
  simp only[St.mat1]
  split
  ·rename_i cells hb
   have aq:b<st.heap.length:=hr.mem.hr.fO (by rw[hb];simp)
   have mh:∀x,(∀v,RA w ι (nth .undef cells j) v→RA w ι x v)→Mem cx ι (setNth st.heap b (.mx (setNth cells j x))) w:=by
    intro x hx
    refine hr.mem.step ⟨hr.mem.hr.gl,λb'=>?_,hr.mem.hr.inj,hr.mem.hr.cC,yg hr.mem.hr aq (by rw[hb];rfl) rfl⟩ (λ_ _ _ h=>h) (λc h=>.inl h) (aaJ _) ⟨rfl,rfl⟩ rfl rfl rfl rfl (λ_ _=>rfl) (by rw[eA];simpa using hr.mem.kl) (λl r e=>by
     rw[da _ _ _ _ _ aq]at e
     split at e
     ·cases e
     ·exact e)
    rw[da _ _ _ _ _ aq]
    have h0:=hr.mem.hr.blk b'
    split
    ·rename_i e
     subst e
     rw[hb]at h0
     obtain⟨c,o,s,cs,ty,fz,h1,h2,h3,h4,h5,h6⟩:=h0
     refine⟨c,o,s,cs,ty,fz,h1,h2,h3,h4,by rw[eA];simpa using h5,λi y hy=>?_⟩
     rw[eA,aaZ]at hy
     split at hy
     ·rename_i e
      subst e
      split at hy
      ·rename_i ru
       cases hy
       obtain⟨v,v1,v2,v3⟩:=h6 j _ (aaI ru)
       refine⟨v,v1,v2,hx v ?_⟩
       rw[iC,aaI ru];exact v3
      ·cases hy
     ·exact h6 i y hy
    ·exact h0
   rcases CN st.heap.length wd (nth .undef cells j)with⟨w0,hx,he⟩|he
   ·rw[he]
    have hm:=(mh (.sl st.heap.length wd 0 0 none) (λv hv=>by rw[hx]at hv;exact hv.kH)).more wd
    exact⟨hm,hr.tm,hr.sz,hr.df⟩
   ·rw[he]
    refine⟨by simpa using mh (nth .undef cells j) (λv hv=>hv),hr.tm,hr.sz,hr.df⟩
  ·rename_i n arr cells hb
   cases H8:Nat.ble n j with
   |false=>exact hr
   |true=>
   simp only[cond_true]
   have H8:n≤j:=aa6 H8
   have aq:b<st.heap.length:=hr.mem.hr.fO (by rw[hb];simp)
   have mh:∀x,(∀v,RA w ι (nth .undef cells (j - n)) v→RA w ι x v)→Mem cx ι (setNth st.heap b (.ax n arr (setNth cells (j - n) x))) w:=by
    intro x hx
    refine hr.mem.step ⟨hr.mem.hr.gl,λb'=>?_,hr.mem.hr.inj,hr.mem.hr.cC,yg hr.mem.hr aq (by rw[hb];rfl) rfl⟩ (λ_ _ _ h=>h) (λc h=>.inl h) (aaJ _) ⟨rfl,rfl⟩ rfl rfl rfl rfl (λ_ _=>rfl) (by rw[eA];simpa using hr.mem.kl) (λl r e=>by
     rw[da _ _ _ _ _ aq]at e
     split at e
     ·cases e
     ·exact e)
    rw[da _ _ _ _ _ aq]
    have h0:=hr.mem.hr.blk b'
    split
    ·rename_i e
     subst e
     rw[hb]at h0
     obtain⟨hn,c,o,s,cs,ty,fz,h1,h2,h3,h4,h5,h6⟩:=h0
     refine⟨hn,c,o,s,cs,ty,fz,h1,h2,h3,h4,by rw[eA];simpa using h5,λi y hy=>?_⟩
     rw[eA]at hy
     have e_:(arr.map AV.p).length=n:=by simpa using hn
     by_cases hi:i<n
     ·rw[aa9 (by omega)]at hy
      exact h6 i y (by rw[aa9 (by omega)];exact hy)
     ·rw[abe (by omega),e_,aaZ]at hy
      split at hy
      ·rename_i e
       split at hy
       ·rename_i ru
        cases hy
        obtain⟨v,v1,v2,v3⟩:=h6 i (cells[j - n]) (by rw[abe (by omega),e_,←e];exact aaI ru)
        refine⟨v,v1,v2,hx v ?_⟩
        rw[iC,aaI ru];exact v3
       ·cases hy
      ·exact h6 i y (by rw[abe (by omega),e_];exact hy)
    ·exact h0
   rcases CN st.heap.length wd (nth .undef cells (j - n))with⟨w0,hx,he⟩|he
   ·rw[he]
    have hm:=(mh (.sl st.heap.length wd 0 0 none) (λv hv=>by rw[hx]at hv;exact hv.kH)).more wd
    exact⟨hm,hr.tm,hr.sz,hr.df⟩
   ·rw[he]
    refine⟨by simpa using mh (nth .undef cells (j - n)) (λv hv=>hv),hr.tm,hr.sz,hr.df⟩
  ·exact hr
theorem Rel.kH(hr:Rel cx ι st a w)(ms:List pk):Rel cx ι (st.kH ms) a w:=by
 induction ms generalizing st with
 |nil=>exact hr
 |cons m r ih=>exact ih (hr.mat1 m)
theorem H9{fx:Nat→Bool}{ids:List Nat}:∀{n:Nat},xK fx ids n=true→∀k,k<n→nth 0 ids (nth 0 ids k)=k∧nth 0 ids k<ids.length∧((fx k=true∨k=0)→nth 0 ids k=k)
 |0,_,k,hk=>by omega
 |n+1,h,k,hk=>by
  simp only[xK,aaQ]at h
  by_cases e:k=n
  ·subst e
   obtain⟨⟨⟨h1,h2⟩,h3⟩,_⟩:=h
   refine⟨abg h1,aa6 h2,λhf=>?_⟩
   have:(fx k||Nat.beq k 0)=true:=by
    rcases hf with hf|rfl
    ·rw[hf];rfl
    ·simp
   rw[this]at h3
   exact abg (by simpa using h3)
  ·exact H9 h.2 k (by omega)
theorem H_(ids:List Nat)(n:Nat):∀(t:List (Nat×AV)) (s:Nat),lk (uV ids n t) s=AV.ren ids n (lk t s)
 |[],s=>rfl
 |(k,x)::r,s=>by
  simp only[uV,lk]
  cases Nat.beq k s
  ·exact H_ ids n r s
  ·rfl
theorem RB.ren{w:World}{ι aC:az}{ids:List Nat}{n:Nat}(hm:∀b p,ι b=some p→aC (Bn.map (renB ids n) b)=some p)(hM:aC.M=ι.M)(hG:aC.G=ι.G){p:Option (Nat×Nat×Nat)}{x:Blk}(h:RB w ι p x):RB w aC p (x.ren ids n):=by
 have dB:∀{x v},RA w ι x v→RA w aC (AV.ren ids n x) v:=λh=>h.ren hm (λc hc=>by rw[←hM];exact hc)
 cases x with
 |dead=>exact h
 |mx cells=>
  obtain⟨c,o,s,cs,ty,fz,h1,h2,h3,h4,h5,h6⟩:=h
  refine⟨c,o,s,cs,ty,fz,h1,h2,h3,h4,by rw[jz];exact h5,λj y hy=>?_⟩
  rw[jy]at hy
  obtain⟨z,hz,rfl⟩:=aaO.1 hy
  obtain⟨v,v1,v2,v3⟩:=h6 j z hz
  exact⟨v,v1,v2,dB v3⟩
 |pr wd rows=>
  rcases h with h|⟨c,o,s,cs,ty,fz,h1,h2,h3,h4,h5,h6,h7⟩
  ·exact .inl h
  ·refine .inr ⟨c,o,s,cs,ty,fz,h1,h2,h3,h4,h5,h6,λi row j y hr hy=>?_⟩
   obtain⟨a,v,b,d⟩:=h7 i row j y hr hy
   exact⟨a,v,b,by rw[hM];exact d⟩
 |mp ag ks ents=>
  obtain⟨c,o,s,h1,es,h2,h3,h4⟩:=h
  refine⟨c,o,s,h1,es,h2,h3,λi k v hi=>?_⟩
  rw[hM];exact h4 i k v hi
 |gh l r=>exact⟨h.1,by rw[hG];exact h.2⟩
 |pn wo wd c op=>exact RB.sx ⟨λ_ _ _ h=>h,λc hc=>.inl (by rw[←hM];exact hc),aaJ _⟩ (λ_ _ _ _=>rfl) h
 |bF ag ks wd e op=>exact RB.sy ⟨λ_ _ _ h=>h,λc hc=>.inl (by rw[←hM];exact hc),aaJ _⟩ (λ_ _ _ _=>rfl) h
 |mi m k s=>
  refine RB.qE (λb hb=>?_) (λ_ _ _ _=>rfl) h
  obtain⟨b',a7,rfl⟩:=aaO.1 hb
  exact⟨b',a7,λp hp=>hm (.v b') p hp⟩
 |ax m arr cells=>
  obtain⟨hn,c,o,s,cs,ty,fz,h1,h2,h3,h4,h5,h6⟩:=h
  refine⟨hn,c,o,s,cs,ty,fz,h1,h2,h3,h4,by simpa [jz]using h5,λj y hy=>?_⟩
  have e:arr.map AV.p++AV.dW ids n cells=AV.dW ids n (arr.map AV.p++cells):=by rw[B7,oF]
  rw[e,jy]at hy
  obtain⟨z,hz,rfl⟩:=aaO.1 hy
  obtain⟨v,v1,v2,v3⟩:=h6 j z hz
  exact⟨v,v1,v2,dB v3⟩
theorem Ia(g:List Blk):∀ids:List Nat,(getIds g ids).length=ids.length
 |[]=>rfl
 |x::r=>by simp[getIds,Ia g r]
theorem Rel.perm(hr:Rel cx ι st a w){ids:List Nat}(h:A6 cx.E.fx st.heap.length ids=true):∃aC,Rel cx aC (st.perm ids) a w:=by
 unfold A6 at h
 simp only[aaQ]at h
 obtain⟨hl,h⟩:=h
 have hl:ids.length=st.heap.length:=abg hl
 have hs:=λk hk=>H9 h k hk
 let m':Bn→Option (Nat×Nat×Nat):=λb=>if b.base<ids.length then ι (b.map (nth 0 ids))else ι b
 let aC:az:={ι with m:=m'}
 have gg:∀b:Bn,b.base<ids.length→aC b=ι (b.map (nth 0 ids)):=λb hb=>aaG hb
 have jx:∀b:Bn,¬b.base<ids.length→aC b=ι b:=λb hb=>aaF hb
 have aq:∀(b:Bn) p,ι b=some p→b.base<ids.length:=λb p hb=>by
  obtain⟨c,o,s⟩:=p
  obtain⟨ob,_,hd⟩:=hr.mem.hr.size hb
  have:=hr.mem.hr.fO hd
  omega
 have ic:∀(b:Bn) p,ι b=some p→aC (b.map (renB ids ids.length))=some p:=λb p hb=>by
  have cj:=aq b p hb
  obtain⟨h1,h2,_⟩:=hs b.base (by omega)
  rw[gg _ (by rw[Bn.pO,qY cj];exact h2),Bn.oD (by rw[qY cj];exact h1)];exact hb
 have hI:aC.I=ι.I:=by
  funext c
  refine propext ⟨?_,?_⟩
  ·rintro ⟨b,o,s,hb⟩
   by_cases cj:b.base<ids.length
   ·rw[gg b cj]at hb;exact⟨_,o,s,hb⟩
   ·rw[jx b cj]at hb;exact⟨_,o,s,hb⟩
  ·rintro ⟨b,o,s,hb⟩;exact⟨_,o,s,ic b _ hb⟩
 have hM:aC.M=ι.M:=by
  funext c
  show(aC.I c∨ι.X c)=(ι.I c∨ι.X c)
  rw[hI]
 have kO:∀b,b<ids.length→nth .dead (st.perm ids).heap b=(nth .dead st.heap (nth 0 ids b)).ren ids ids.length:=λb hb=>by
  show nth .dead (getIds _ _) b=_
  rw[G7 _ _ _ hb,qZ]
 have hlen:(st.perm ids).heap.length=ids.length:=by
  exact Ia _ ids
 have Cj:bL aC (st.perm ids).heap w:=by
  refine⟨by rw[hM];exact hr.mem.hr.gl,λb=>?_,λb b' c o s o' s' h1 h2=>?_,λb c o s h1=>?_,λb i=>?_⟩
  ·by_cases hb:b<ids.length
   ·rw[kO b hb,gg (.v b) hb]
    exact(hr.mem.hr.blk _).ren ic hM rfl
   ·rw[l_ _ _ _ (by omega),jx (.v b) hb]
    have:=hr.mem.hr.blk b
    rw[l_ _ _ _ (by omega)]at this
    exact this
  ·have key:∀(b:Bn) c o s,aC b=some (c,o,s)→b.base<ids.length∧ι (b.map (nth 0 ids))=some (c,o,s):=λb c o s hb=>by
    by_cases cj:b.base<ids.length
    ·exact⟨cj,by rw[←gg b cj];exact hb⟩
    ·rw[jx b cj]at hb;exact(cj (aq b _ hb)).elim
   obtain⟨a1,a2⟩:=key _ _ _ _ h1
   obtain⟨a3,a4⟩:=key _ _ _ _ h2
   have:=hr.mem.hr.inj _ _ _ _ _ _ _ a2 a4
   have e1:=(hs b.base (by omega)).1
   have e2:=(hs b'.base (by omega)).1
   rw[←Bn.oD (x:=b) e1,←Bn.oD (x:=b') e2,this]
  ·by_cases cj:b.base<ids.length
   ·rw[gg b cj]at h1;exact hr.mem.hr.cC _ _ _ _ h1
   ·rw[jx b cj]at h1;exact hr.mem.hr.cC _ _ _ _ h1
  ·by_cases hb:b<ids.length
   ·rw[kO b hb,gg (.v b) hb,gg (.h b i) hb]
    exact((hr.mem.hr.hid (nth 0 ids b) i).later ⟨λ_ _ _ h=>h,λc hc=>.inl (by rw[←hM];exact hc),aaJ _⟩ (λ_ _ _ _=>rfl) (λ_ _ _ _=>rfl)).ren _ _
   ·rw[l_ _ _ _ (by omega),jx (.v b) hb,jx (.h b i) hb]
    have:=hr.mem.hr.hid b i
    rw[l_ _ _ _ (by omega)]at this
    exact this
 refine⟨aC,hr.mem.step Cj (λ_ _ _ h=>h) (λc hc=>.inl (by rw[←hI];exact hc)) (aaJ _) ⟨rfl,rfl⟩ rfl rfl rfl rfl (λb hb=>?_) (by rw[hlen,hl];exact hr.mem.kl) (λl r e=>?_),λs=>?_,hr.sz,hr.df⟩
 ·by_cases cj:b<ids.length
  ·rw[gg (.v b) cj]
   show ι (.v (nth 0 ids b))=_
   rw[(hs b (by omega)).2.2 (.inl hb)]
  ·exact jx (.v b) cj
 ·by_cases h0:0<ids.length
  ·rw[kO 0 h0,(hs 0 (by omega)).2.2 (.inr rfl)]at e
   generalize nth .dead st.heap 0=x at e ⊢
   cases x<;>simp only[Blk.ren]at e<;>first|exact e|cases e
  ·rw[l_ _ _ _ (by omega)]at e;cases e
 ·show RA w aC (lk (uV ids ids.length st.tmps) s) _
  rw[H_]
  exact(hr.tm s).ren ic (λc hc=>by rw[←hM];exact hc)
end
end Hk
