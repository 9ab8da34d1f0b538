/- Texts of this claim, put together: Eff2, Eff3, Eff4, App, Copy, Wk, Call, Call2, Mape, Clr, Mit, Fnc, Vro, Ord, Reg, Stle. -/
import Derived.Test.YteicokbnoonipaaGreatDoorM1
import Derived.RangeFuncLeaves
import Derived.RangeFuncSeq
import Derived.OrdersIn
import Derived.TacticsIn
set_option linter.unusedSimpArgs false
set_option linter.unusedVariables false
namespace Hk
open Go
structure jO(ι aC:az)(h':List Blk):Prop where
 old:∀(x:Bn) p,ι x=some p→aC x=some p∨nth .dead h' x.base=.dead
 less:∀c,aC.M c→ι.M c
theorem jO.refl(ι:az)(h:List Blk):jO ι ι h:=⟨λ_ _ h=>.inl h,λ_ h=>h⟩
theorem jO.later{ι aC:az}{h':List Blk}(hf:jO ι aC h')(w:World):bc ι.M w w aC.M:=⟨λ_ _ _ h=>h,λc h=>.inl (hf.less c h),aaV _⟩
section
variable {cx:Cx} {ι bX:az} {st:St} {a:Act} {w:World}
theorem jO.yq{h:List Blk}(hf:jO bX ι h)(gV:Mem cx ι h w){b:Nat}(hb:b<h.length)(hm:Mem cx (ι.cF b none) (setNth (killH b h) b .dead) w)(hL:bc ι.M w w (ι.cF b none).M):
 jO bX (ι.cF b none) (setNth (killH b h) b .dead):=by
 refine⟨λx p hp=>?_,λc hc=>?_⟩
 ·by_cases e:x.base=b
  ·right
   rw[e,dc _ _ _ _ _ (by rw[fc];exact hb),aaS rfl]
  ·rcases hf.old _ _ hp with h1|h1
   ·left;rw[az.gL _ _ e];exact h1
   ·right
    rw[dc _ _ _ _ _ (by rw[fc];exact hb),aaR e,j0,h1]
    rfl
 ·rcases hL.new c hc with h1|h1
  ·exact hf.less c h1
  ·rcases hc with hc|hc
   ·have:=hm.hr.lt hc;omega
   ·exact hf.less c (.inr hc)
theorem bL.q8{h:List Blk}(hr:bL ι h w){b i wd:Nat}{rows:List (List PV)}{t:Bool}(a_:(nth .dead h b).inner i=some (wd,rows,t)){v:Value}(hv:pC (ι (.h b i)) wd rows.length v)
 {M:Nat→Prop} (hM:∀c o s,ι (.h b i)=some (c,o,s)→¬M c) (hL:bc ι.M w w M):RP w M (.aw wd rows none) v:=by
 have h0:=hr.hid b i
 unfold HB at h0
 rw[a_]at h0
 obtain⟨h1,_⟩:=h0
 rcases hv with⟨c,o,s,cc,q,rfl,ql,qs⟩|⟨q,oa,rfl⟩
 ·rw[q]at h1
  rcases h1 with⟨h1,_⟩|⟨c',o',s',cs,ty,fz,he,h1,h2,h3,h4,h5,h6⟩
  ·cases h1
  cases he
  refine sN (ad:=⟨c,o,none⟩) rfl (hM _ _ _ q) (aa8.1 h1).1 ql (by simp) λn row hn=>⟨h5 n row hn,λj x hx=>?_⟩
  obtain⟨g1,u,g2,g3⟩:=h6 n row j x hn hx
  exact⟨g1,u,by rw[cell_of h1,aa9];exact g2,g3.later hL⟩
 ·obtain rfl:=abf q
  exact .nil (by simp)
theorem RA.sY{b wd i len:Nat}{v:Value}(h:RA w ι (.cd b wd i len) v):dQ v=true∧v.cells= #[v]∧pC (ι (.h b i)) wd len v:=by
 cases h with
 |cd h1 h2 h3=>exact⟨rfl,rfl,.inl ⟨_,_,_,_,h1,rfl,h2,h3⟩⟩
 |iC=>exact⟨rfl,rfl,.inr ⟨rfl,_,rfl⟩⟩
theorem RP.vA{M:Nat→Prop}{wd:Nat}{rows:List (List PV)}{cap:Option Nat}{v:Value}(h:RP w M (.aw wd rows cap) v):RP w M (.aw wd rows none) v:=by
 cases h with
 |nil h=>exact .nil (by simp)
 |aw hs hM hb hc aR bm bA bn dv=>exact .aw hs hM hb hc (by simp) bm bA bn dv
theorem BS{h:List Blk}(hr:bL ι h w){b wd len:Nat}{cap:Option Nat}{cells:List (Bool×List (List PV))}(hn:nth .dead h b=.pn 1 wd cells none)(hl:len=cells.length){M:Nat→Prop}
 (hM:∀x:Bn,x.base=b→∀c o s,ι x=some (c,o,s)→¬M c) (hL:bc ι.M w w M) {v:Value} (hx:RA w ι (.sl b 1 0 len cap) v):RP w M (.aw 1 (cells.map λc=>[.aw wd c.2 none]) none) v:=by
 have dp:(cells.map λc=>[PV.aw wd c.2 none]).length=cells.length:=by simp
 cases hx with
 |db aR=>
  have:cells=[]:=abf hl.symm
  subst this
  exact .nil (by simp)
 |sl hb hle aR hs=>
  rename_i c o s cc
  rw[hl,←dp]
  refine sN (ad:=⟨c,o+0*1,none⟩) rfl (hM (.v b) rfl _ _ _ hb) (hr.lt ⟨_,_,_,hb⟩) (by rw[dp,←hl];exact hle) (by simp) λn row hi=>?_
  rw[aaY]at hi
  obtain⟨⟨fl,rows⟩,bp,e'⟩:=aa0.1 hi
  subst e'
  refine⟨rfl,λj x hx=>?_⟩
  cases j with
  |succ j=>simp at hx
  |zero=>
   simp at hx
   subst hx
   obtain⟨v,v1,v2,v3,v4⟩:=hr.Gb hb hn bp
   refine⟨rfl,v,by simpa using v1,?_⟩
   cases fl with
   |true=>
    have a_:(nth .dead h b).inner n=some (wd,rows,true):=by rw[hn];simp only[Blk.inner];rw[bp];rfl
    exact hr.q8 a_ (v3 rfl rfl).sY.2.2 (hM (.h b n) rfl) hL
   |false=>exact((v4 rfl).later hL).vA
theorem RA.back{b wd i len:Nat}{cap:Option Nat}{v:Value}{w':World}(h:RA w bX (.sl b wd i len cap) v)(hk:∀p,bX (.v b)=some p→ι (.v b)=some p):RA w' ι (.sl b wd i len cap) v:=by
 cases h with
 |sl hb hl aR hs=>exact .sl (hk _ hb) hl aR hs
 |db aR=>exact .db aR
theorem OH(b wd:Nat)(rows:List (List PV))(t:List (Nat×AV))(s:Nat):lk (u4 b wd rows t) s=AV.keep b wd rows (lk t s):=by
 induction t with
 |nil=>rfl
 |cons x r ih=>
  obtain⟨k,v⟩:=x
  simp only[u4,lk,ih]
  cases Nat.beq k s<;>rfl
theorem OI{b wd:Nat}{rows:List (List PV)}{t:List (Nat×AV)}(h:u5 b wd rows t)(s:Nat):∀i l c,lk t s=.sl b wd i l c→i+l≤rows.length:=by
 induction t with
 |nil=>intro i l c e;cases e
 |cons x r ih=>
  obtain⟨k,v⟩:=x
  intro i l c e
  have h:xJ b wd rows v (u5 b wd rows r):=h
  have hr:u5 b wd rows r:=by
   unfold xJ at h
   split at h
   ·rename_i b' b8 i' l' c' _
    cases hc:(Nat.beq b' b&&Nat.beq b8 wd)with
    |false=>rw[hc]at h;exact h
    |true=>rw[hc]at h;exact h.2
   ·exact h
  simp only[lk]at e
  cases hk:Nat.beq k s with
  |false=>rw[hk]at e;exact ih hr i l c e
  |true=>
   rw[hk]at e
   have e:v=_:=e
   subst e
   unfold xJ at h
   simp only[acF,Bool.and_self,cond_true]at h
   exact h.1
theorem OJ(hr:Rel cx ι st a w)(hf:jO bX ι st.heap){x:AV}{v:Value}(hx:RA w bX x v){k:St→PV→Prop}(h:vpure cx.E st x k):
 ∃aC st' y,k st' y∧Rel cx aC st' a w∧RP w aC.M y v∧jO bX aC st'.heap∧bc ι.M w w aC.M:=by
 unfold vpure at h
 split at h
 ·rename_i y
  exact⟨ι,st,y,Bk (k:=λx=>k st x) h,hr,(gW hx).later (hf.later w),hf,bc.refl _ _⟩
 ·rename_i b wd i len cap
  split at h
  ·rename_i b8 rows hn
   cases hw:(Nat.beq wd b8&&!cx.E.fx b)with
   |false=>rw[hw]at h;exact h.elim
   |true=>
    rw[hw]at h
    obtain⟨hw,gM⟩:=by simpa using hw
    subst hw
    obtain⟨rs,eW,hlen,hk⟩:=h
    have hb:b<st.heap.length:=hr.mem.hr.fO (by rw[hn];simp)
    obtain⟨hm,hL⟩:=hr.mem.mq (w':=w) hb gM (p:=none) (blk:=.dead) (c:=w.heap.size) (.inr (aaV _)) (by simp) (λ_ _ _ h=>h) (aaV _) ⟨rfl,rfl⟩ (λ_=>rfl)
    have bh:∀b',(Bn.v b).hit b'=false→∀q,ι b'=some q→(ι.cF b none) b'=some q:=λb' e q hq=>by rw[az.gL _ _ (Bn.oh e)];exact hq
    have key:∀{i len:Nat} {cap:Option Nat} {v:Value} {rs:List (List PV)},RA w ι (.sl b wd i len cap) v→(dropN i rows).take len=rs→rs.length=len→RP w (ι.cF b none).M (.aw wd rs cap) v:=by
     intro i len cap v rs hx eW hlen
     rw[gJ]at eW
     cases hx with
     |sl yr hl aR bU=>
      rename_i c o s cc
      rw[←hlen]
      refine sN (ad:=⟨c,o+i*wd,none⟩) rfl ?_ ?_ (by omega) aR λn row hi=>?_
      ·rintro (⟨b',o',s',a7⟩|hX)
       rotate_left
       ·exact hr.mem.hr.cD _ _ _ _ yr hX
       rcases az.mo a7 with⟨_,h1⟩|⟨e,h1⟩
       ·cases h1
       ·exact e (by rw[hr.mem.hr.inj _ _ _ _ _ _ _ h1 yr];rfl)
      ·exact hr.mem.hr.lt ⟨b,o,s,yr⟩
      ·have bp:rows[i+n]? =some row:=by
        have:((rows.drop i).take len)[n]? =some row:=by rw[eW];exact hi
        rw[ab5]at this
        split at this
        ·rwa [abJ]at this
        ·cases this
       obtain⟨h1,h2⟩:=hr.mem.hr.row yr hn bp
       refine⟨h1,λj x hx=>?_⟩
       obtain⟨h3,v,h4,h5⟩:=h2 j x hx
       exact⟨h3,v,by rw[←h4];congr 2;simp[aa6,aa9],h5.later hL⟩
     |db aR=>
      have:rs=[]:=abf hlen
      subst this
      exact .nil λk hk=>(aR k hk).symm
    have gd:RA w ι (.sl b wd i len cap) v:=hx.back λp hp=>by
     rcases hf.old _ _ hp with h1|h1
     ·exact h1
     ·exfalso;rw[show(Bn.v b).base=b from rfl,hn]at h1;cases h1
    rcases hk with hk|⟨aZ,hk⟩|hk
    ·exact⟨ι.cF b none,_,_,hk,⟨hm,oC hL bh hr.tm,hr.sz,hr.df⟩,(key gd eW hlen).vA,hf.yq hr.mem hb hm hL,hL⟩
    rotate_left
    ·exact⟨ι.cF b none,_,_,hk,⟨hm,oC hL bh hr.tm,hr.sz,hr.df⟩,key gd eW hlen,hf.yq hr.mem hb hm hL,hL⟩
    ·refine⟨ι.cF b none,_,_,hk,⟨hm,λs=>?_,hr.sz,hr.df⟩,(key gd eW hlen).vA,hf.yq hr.mem hb hm hL,hL⟩
     show RA w _ (lk (u4 b wd rows st.tmps) s) _
     rw[OH]
     have ht:=hr.tm s
     have hq:=OI aZ s
     revert ht hq
     generalize lk st.tmps s=x
     intro ht hq
     unfold AV.keep
     split
     ·rename_i b' b8 i' l' c'
      cases hc:(Nat.beq b' b&&Nat.beq b8 wd)with
      |false=>exact ht.kill hL bh
      |true=>
       obtain⟨e1,e2⟩:=by simpa using hc
       subst e1;subst e2
       have:=hq _ _ _ rfl
       exact .p (key ht rfl (by rw[gJ,abO,aca];omega)).vA
     ·exact ht.kill hL bh
  ·rename_i wo wi cells op hn
   cases hw:(Nat.beq wd wo&&Nat.beq wo 1&&!cx.E.fx b)with
   |false=>rw[hw]at h;exact h.elim
   |true=>
    rw[hw]at h
    obtain⟨⟨e1,e2⟩,gM⟩:=by simpa using hw
    subst e1;subst e2
    obtain⟨⟨rfl,rfl,hlen⟩,hk⟩:=h
    have hb:b<st.heap.length:=hr.mem.hr.fO (by rw[hn];simp)
    obtain⟨hm,hL⟩:=hr.mem.mq (w':=w) hb gM (p:=none) (blk:=.dead) (c:=w.heap.size) (.inr (aaV _)) (by simp) (λ_ _ _ h=>h) (aaV _) ⟨rfl,rfl⟩ (λ_=>rfl)
    have bh:∀b',(Bn.v b).hit b'=false→∀q,ι b'=some q→(ι.cF b none) b'=some q:=λb' e q hq=>by rw[az.gL _ _ (Bn.oh e)];exact hq
    refine⟨ι.cF b none,_,_,hk,⟨hm,oC hL bh hr.tm,hr.sz,hr.df⟩,?_,hf.yq hr.mem hb hm hL,hL⟩
    refine BS hr.mem.hr hn hlen (λx hx c o s hc hM=>?_) hL (hx.back λp hp=>?_)
    ·rcases hM with⟨b',o',s',a7⟩|hX
     ·rcases az.mo a7 with⟨_,h1⟩|⟨e,h1⟩
      ·cases h1
      ·exact e (by rw[hr.mem.hr.inj _ _ _ _ _ _ _ h1 hc];exact hx)
     ·exact hr.mem.hr.cD _ _ _ _ hc hX
    ·rcases hf.old _ _ hp with h1|h1
     ·exact h1
     ·exfalso
      rw[show(Bn.v b).base=b from rfl,hn]at h1
      cases h1
  ·exact h.elim
 ·exact h.elim
theorem BT{val:Nat→Value}:∀(xs:List AV) (n:Nat) {ι:az} {st:St} (hr:Rel cx ι st a w) (hf:jO bX ι st.heap)
 (hx:∀(i:Nat) x,xs[i]? =some x→RA w bX x (val (n+i))) {k:St→List PV→Prop} (h:pz cx.E st xs k),
 ∃aC st' ys,k st' ys∧Rel cx aC st' a w∧ys.length=xs.length∧(∀(i:Nat) y,ys[i]? =some y→RP w aC.M y (val (n+i)))∧jO bX aC st'.heap∧bc ι.M w w aC.M
 |[],n,ι,st,hr,hf,hx,k,h=>⟨ι,st,[],h,hr,rfl,by simp,hf,bc.refl _ _⟩
 |x::r,n,ι,st,hr,hf,hx,k,h=>by
  obtain⟨cg,st1,y,h1,bG,BU,oE,sZ⟩:=OJ hr hf (hx 0 x rfl) h
  obtain⟨bZ,st2,ys,h2,fh,dI,s4,BV,mw⟩:=BT r (n+1) bG oE (λi x hi=>by
   have:=hx (i+1) x (by simpa using hi)
   rw[aa9,acH 1 i];exact this) h1
  refine⟨bZ,st2,y::ys,h2,fh,by simp[dI],λi z hz=>?_,BV,⟨λ_ _ _ h=>h,λc hc=>?_,aaV _⟩⟩
  ·cases i with
   |zero=>simp at hz;subst hz;exact BU.later mw
   |succ i=>
    have:=s4 i z (by simpa using hz)
    rw[aa9,acH 1 i]at this;exact this
  ·rcases mw.new c hc with h3|h3
   ·exact sZ.new c h3
   ·exact .inr h3
theorem pR{α:Type}(l:List α)(k:Nat)(vs:List α)(hk:k+vs.length≤l.length)(n:Nat):
 (l.take k++vs++l.drop (k+vs.length))[n]? =if k≤n∧n<k+vs.length then vs[n - k]? else l[n]?:=by
 rw[abv]
 by_cases h1:n<k
 ·rw[aaR (by omega),abm (by simp;omega),acy h1]
 ·rw[abq (by simp;omega)]
  simp only[abO,aci (show k≤l.length by omega)]
  by_cases h2:n<k+vs.length
  ·rw[aaS (by omega),abm (by omega)]
  ·rw[aaR (by omega),abq (by omega),abJ]
   congr 1;omega
theorem s5{α:Type}(l:List α)(k:Nat)(vs:List α)(hk:k+vs.length≤l.length):(l.take k++vs++l.drop (k+vs.length)).length=l.length:=by
 simp;omega
theorem GY{E:En}{st:St}:∀(l:List PV) {k:St→List PV→Prop},k st l→pz E st (l.map .p) k
 |[],k,h=>h
 |x::r,k,h=>by
  have:pz E st (r.map .p) (λst ys=>k st (x::ys)):=GY r h
  cases x<;>exact this
theorem GZ{E:En}{st:St}{x:AV}{k:St→List PV→Prop}(h:vagg E st x k):pz E st (cellsOf x) k:=by
 unfold vagg at h
 split at h
 ·rename_i l;exact GY l h
 ·exact h
def dE(cs:Array Value)(k:Nat)(vs:List Value):Array Value:=(cs.toList.take k++vs++cs.toList.drop (k+vs.length)).toArray
theorem my(cs:Array Value)(k:Nat)(vs:List Value)(hk:k+vs.length≤cs.size)(n:Nat):(dE cs k vs)[n]? =if k≤n∧n<k+vs.length then vs[n - k]? else cs[n]?:=by
 unfold dE
 rw[ab8,pR _ _ _ (by simpa using hk)]
 simp
theorem eN(cs:Array Value)(k:Nat)(vs:List Value)(hk:k+vs.length≤cs.size):(dE cs k vs).size=cs.size:=by
 unfold dE
 rw[adn,s5 _ _ _ (by simpa using hk)]
 simp
theorem G0(hr:Rel cx ι st a w){o:Oper}{t:TypeId}{x v:Operand}{ax av:AV}{sz:Nat}(ho:o.op=.store t x v)(bN:RA w ι ax (a.eval x))(dr:RA w ι av (a.eval v))
 (hs:bI cx.P t=some sz) (hd:∀t,o.dst=some t→cx.bw t=true) {k:St→Prop} (h:vstore0 cx.E st ax av sz (λst=>k (st.put o.dst .undef)))
 {Q:Exit→Act→World→Prop}:o.wp cx.P a w (Kc cx k) Q:=by
 generalize OK:a.eval x=vx at bN
 generalize vB:a.eval v=vv at dr
 have run:∀(c off:Nat) (cs:Array Value) (ty:TypeId) (fz:Nat×Nat),vx=.pointer (some ⟨c,off,none⟩)→w.heap[c]? =some (.cells cs ty fz)→kK cs.size fz→vv.cells.size=sz→off+sz≤cs.size→
  (∀v∈vv.cells.toList,dQ v=true)→(execOp a.eval o).run cx.P w=.ok .skip (bB w c (.cells (dE cs off vv.cells.toList) ty fz)):=by
  intro c off cs ty fz BW hc ht bM vk bA
  have h1:=nA (P:=cx.P) c off ty fz vv.cells.toList 0 cs w hc (by simp;omega) ht bA
  simp only[Nat.add_zero]at h1
  simp only[execOp,ho,OK,vB,BW,Instr.storeAt,Instr.sureAddr,Sem.run_bind,Sem.run_pure,Result.andThen_ok,storeVar,run_sizeOf hs,bM,ne_eq,adN,abA,h1]
  rfl
 unfold vstore0 at h
 split at h
 ·rename_i b wd i j
  cases bN
  rename_i c o' s hb
  split at h
  ·rename_i cells hn
   split at h
   ·
    cases ka:(vok av&&Nat.beq (cellsOf av).length sz&&Nat.ble (j+sz) cells.length)with
    |false=>rw[ka]at h;exact h.elim
    |true=>
     rw[ka]at h
     simp only[cond_true,nh]at h
     simp only[aa2]at ka
     obtain⟨⟨aZ,e1⟩,e2⟩:=ka
     have e1:=abt e1
     have e2:=abj e2
     obtain⟨dB,dY⟩:=pL aZ dr
     have bq:=hr.mem.hr.blk b
     rw[hn,hb]at bq
     obtain⟨cs,ty,fz,hc,ht,bM,hlen,bn⟩:=bq.at
     simp only[acs,aaX]at*
     have mz:vv.cells.toList.length=sz:=by simp;omega
     have hbound:o'+j+vv.cells.toList.length≤cs.size:=by omega
     have aT:=run c (o'+j) cs ty fz rfl hc ht (by omega) (by omega) (λz hz=>by
      obtain⟨n,gx,rfl⟩:=acI hz
      have:=(dY n _ (aaU (by simp at gx;omega))).1
      simpa [show n<vv.cells.size by simpa using gx]using this)
     obtain⟨hm,hL⟩:=hr.mem.write hb (w':=bB w c (.cells (dE cs (o'+j) vv.cells.toList) ty fz))
      (blk:=.mx (cells.take j++cellsOf av++cells.drop (j+sz)))
      (λd z hd hz=>by rw[fg _ _ hd];exact hz) (by simp[bB]) ⟨rfl,rfl⟩ (λhL=>by
       have vC:fE w ι (dE cs (o'+j) vv.cells.toList) o' (.mx (cells.take j++cellsOf av++cells.drop (j+sz))):=by
        rw[←e1]
        refine⟨by rw[eN _ _ _ hbound,s5 _ _ _ (by omega)];exact hlen,λn z hz=>?_⟩
        rw[pR _ _ _ (by omega)]at hz
        rw[my _ _ _ hbound]
        split at hz
        ·rename_i a_
         rw[aaS (by omega)]
         obtain⟨g1,g2⟩:=dY _ _ hz
         have aq:n - j<vv.cells.size:=by omega
         refine⟨vv.cells[n - j],?_,?_,?_⟩
         ·rw[show o'+n - (o'+j)=n - j by omega];simp[aq]
         ·simpa [aq]using g1
         ·simpa [aq]using g2
        ·rename_i a_
         rw[aaR (by omega)]
         exact bn n z hz
       have:=(vC.later hL (λ_ _ h=>h)).rb (ty:=ty) (fz:=fz) (iH w c _ (aa8.1 hc).1) (by rw[eN _ _ _ hbound];exact ht)
       rw[eN _ _ _ hbound,bM]at this
       exact this) (by rw[hn];rfl)
     exact nw aT ⟨ι,_,Rel.put (st:=⟨st.tmps,setNth st.heap b (.mx (cells.take j++cellsOf av++cells.drop (j+sz)))⟩) ⟨hm,jf hL (λ_ _ h=>h) hr.tm,hr.sz,hr.df⟩ hd (.aE _),h⟩
   ·exact h.elim
  ·
   cases aZ:vok av with
   |false=>rw[aZ]at h;exact h.elim
   |true=>
    rw[aZ]at h
    simp only[cond_true]at h
    obtain⟨dB,dY⟩:=pL aZ dr
    have h:=GZ h
    obtain⟨aC,st',ys,h,aV,ZJ,Gu,hf,pS⟩:=BT (val:=λi=>vv.cells.getD i undef) (cellsOf av) 0 hr (jO.refl ι st.heap) (λi x hx=>by simpa using (dY i x hx).2) h
    split at h
    ·rename_i b8 rows gx
     cases hw:Nat.beq wd b8 with
     |false=>rw[hw]at h;exact h.elim
     |true=>
      rw[hw]at h
      obtain rfl:=abt hw
      obtain⟨row,bm,nC,q9,h⟩:=h
      have a7:aC b=some (c,o',s):=by
       rcases hf.old _ _ hb with h1|h1
       ·exact h1
       ·rw[show(Bn.v b).base=b from rfl,gx]at h1;cases h1
      have bq:=aV.mem.hr.blk b
      rw[gx,a7]at bq
      obtain⟨cs,ty,fz,hc,ht,bM,hlen,ct,bn⟩:=bq.at
      have pT:=ct i row bm
      have lK:i<rows.length:=(aaW.1 bm).1
      have G1:i*wd+wd≤rows.length*wd:=by
       have:=abz wd (show i+1≤rows.length from lK)
       rwa [aa6,abP]at this
      have mz:vv.cells.toList.length=sz:=by simp;omega
      have hbound:o'+(i*wd+j)+vv.cells.toList.length≤cs.size:=by omega
      have aT:=run c (o'+(i*wd+j)) cs ty fz rfl hc ht (by omega) (by omega) (λz hz=>by
       obtain⟨n,gx,rfl⟩:=acI hz
       have:=(dY n _ (aaU (by simp at gx;omega))).1
       simpa [show n<vv.cells.size by simpa using gx]using this)
      have BX:(row.take j++ys++row.drop (j+sz)).length=wd:=by
       rw[←nC,s5 _ _ _ (by omega)];exact pT
      obtain⟨hm,hL⟩:=aV.mem.write a7 (w':=bB w c (.cells (dE cs (o'+(i*wd+j)) vv.cells.toList) ty fz))
       (blk:=.pr wd (rows.set i (row.take j++ys++row.drop (j+sz))))
       (λd z hd hz=>by rw[fg _ _ hd];exact hz) (by simp[bB]) ⟨rfl,rfl⟩ (λhL=>by
        have vC:fE w aC (dE cs (o'+(i*wd+j)) vv.cells.toList) o' (.pr wd (rows.set i (row.take j++ys++row.drop (j+sz)))):=by
         refine⟨by rw[eN _ _ _ hbound,abp];exact hlen,λn r hr=>?_,λn r m z hr hz=>?_⟩
         ·rw[abd]at hr
          split at hr
          ·cases hr;exact BX
          ·exact ct n r hr
         ·rw[my _ _ _ hbound]
          rw[abd]at hr
          split at hr
          ·rename_i e
           subst e
           cases hr
           ·rw[←nC,pR _ _ _ (by omega)]at hz
            split at hz
            ·rename_i a_
             rw[aaS (by omega)]
             have aq:m - j<vv.cells.size:=by omega
             have g1:=Gu _ _ hz
             have g2:=(dY (m - j) _ (aaU (by omega))).1
             simp only[aaX]at g1
             refine⟨g1.pI g2,vv.cells.getD (m - j) undef,?_,g1⟩
             rw[show o'+(i*wd+m) - (o'+(i*wd+j))=m - j by omega]
             simp[aq]
            ·rename_i a_
             rw[aaR (by omega)]
             exact bn i row m z bm hz
          ·rename_i e
           have G2:m<wd:=by
            have:=(aaW.1 hz).1
            rw[ct n r hr]at this;exact this
           rw[aaR]
           ·exact bn n r m z hr hz
           ·rintro ⟨q1,q2⟩
            rcases adO e with h4|h4
            ·have:=abz wd (show i+1≤n from h4)
             rw[aa6,abP]at this
             omega
            ·have:=abz wd (show n+1≤i from h4)
             rw[aa6,abP]at this
             omega
        have:=(vC.later hL (λ_ _ h=>h)).rb (ty:=ty) (fz:=fz) (iH w c _ (aa8.1 hc).1) (by rw[eN _ _ _ hbound];exact ht)
        rw[eN _ _ _ hbound,bM]at this
        exact this) (by rw[gx];rfl)
      exact nw aT ⟨aC,_,Rel.put (st:=⟨st'.tmps,setNth st'.heap b (.pr wd (rows.set i (row.take j++ys++row.drop (j+sz))))⟩) ⟨hm,jf hL (λ_ _ h=>h) aV.tm,aV.sz,aV.df⟩ hd (.aE _),h⟩
    ·exact h.elim
  ·exact h.elim
 ·exact h.elim
theorem BY{α:Type}(l:List α)(n:Nat)(x y:α):setNth (setNth l n x) n y=setNth l n y:=by
 simp only[eA];exact ado ..
theorem yu{h:List Blk}(hr:bL ι h w){b:Nat}(aq:b<h.length)(lJ:(nth .dead h b).bare=true){x:Blk}(hx:x.bare=true)(b' i:Nat):HB w ι (ι (.v b')) (ι (.h b' i)) i (nth .dead (setNth h b x) b'):=by
 rw[dc _ _ _ _ _ aq]
 split
 ·rename_i e;subst e;exact HB.bare hx ((hr.hid b' i).none lJ)
 ·exact hr.hid b' i
theorem Mem.OM{h:List Blk}(hm:Mem cx ι h w){b n:Nat}{arr:List PV}{cells:List AV}(hn:nth .dead h b=.ax n arr cells):Mem cx ι (setNth h b (.mx (arr.map AV.p++cells))) w:=by
 have aq:b<h.length:=hm.hr.fO (by rw[hn];simp)
 refine hm.step ⟨hm.hr.gl,λb'=>?_,hm.hr.inj,hm.hr.cD,yu hm.hr aq (by rw[hn];rfl) rfl⟩ (λ_ _ _ h=>h) (λc h=>.inl h) (aaV _) ⟨rfl,rfl⟩ rfl rfl rfl rfl (λ_ _=>rfl) (by rw[eA];simpa using hm.kl) (λl r e=>?_)
 ·rw[dc _ _ _ _ _ aq]
  have h0:=hm.hr.blk b'
  split
  ·rename_i e;subst e;rw[hn]at h0;exact h0.2
  ·exact h0
 ·rw[dc _ _ _ _ _ aq]at e
  split at e
  ·cases e
  ·exact e
theorem Mem.ON{h:List Blk}{b n:Nat}{arr:List PV}{cells:List AV}(aq:b<h.length)(hm:Mem cx ι (setNth h b (.mx (arr.map AV.p++cells))) w)(hn:arr.length=n):Mem cx ι (setNth h b (.ax n arr cells)) w:=by
 have hl:∀x,(setNth h b x).length=h.length:=λx=>by rw[eA,abp]
 have G3:=yu (x:=.ax n arr cells) hm.hr (b:=b) (by rw[hl];exact aq) (by rw[dc _ _ _ _ _ aq,aaS rfl];rfl) rfl
 rw[BY]at G3
 refine hm.step ⟨hm.hr.gl,λb'=>?_,hm.hr.inj,hm.hr.cD,G3⟩ (λ_ _ _ h=>h) (λc h=>.inl h) (aaV _) ⟨rfl,rfl⟩ rfl rfl rfl rfl (λ_ _=>rfl) (by rw[hl,←hl (.mx (arr.map AV.p++cells))];exact hm.kl) (λl r e=>?_)
 ·rw[dc _ _ _ _ _ aq]
  have h0:=hm.hr.blk b'
  rw[dc _ _ _ _ _ aq]at h0
  split
  ·rename_i e;rw[aaS e]at h0;exact⟨hn,h0⟩
  ·rename_i e;rw[aaR e]at h0;exact h0
 ·rw[dc _ _ _ _ _ aq]at e ⊢
  split at e
  ·cases e
  ·rename_i bg;rw[aaR bg];exact e
theorem OO{n:Nat}{arr:List PV}{cells:List AV}(hn:arr.length=n){j sz:Nat}{v:AV}{k:List PV→List AV→Prop}(h:A9 n arr cells j v sz k):
 ∃jI gN,k jI gN∧jI.length=n∧(vok v&&Nat.beq (cellsOf v).length sz&&Nat.ble (j+sz) (arr.map AV.p++cells).length)=true∧
  (arr.map AV.p++cells).take j++cellsOf v++(arr.map AV.p++cells).drop (j+sz)=jI.map AV.p++gN:=by
 subst hn
 have later:∀{k:List PV→List AV→Prop},arr.length≤j→(bif vok v&&Nat.beq (cellsOf v).length sz&&Nat.ble (j - arr.length+sz) cells.length then k arr (cells.take (j - arr.length)++cellsOf v++cells.drop (j - arr.length+sz))else False)→
  ∃jI gN,k jI gN∧jI.length=arr.length∧(vok v&&Nat.beq (cellsOf v).length sz&&Nat.ble (j+sz) (arr.map AV.p++cells).length)=true∧
  (arr.map AV.p++cells).take j++cellsOf v++(arr.map AV.p++cells).drop (j+sz)=jI.map AV.p++gN:=by
  intro k hj h
  cases hc:(vok v&&Nat.beq (cellsOf v).length sz&&Nat.ble (j - arr.length+sz) cells.length)with
  |false=>rw[hc]at h;exact h.elim
  |true=>
   rw[hc]at h
   simp only[aa2]at hc
   have h2:=abj hc.2
   refine⟨arr,_,h,rfl,?_,?_⟩
   ·simp only[aa2]
    exact⟨hc.1,by simp only[acx];simp;omega⟩
   ·rw[adF,adh,ab6 (by simpa using hj),adi (by simp;omega),aa3]
    have:j+sz - arr.length=j - arr.length+sz:=by omega
    rw[this]
    simp
 unfold A9 at h
 cases h1:Nat.beq sz 1 with
 |true=>
  rw[h1]at h
  obtain rfl:=abt h1
  simp only[cond_true]at h
  rcases h with⟨hj,y,hy,h⟩|⟨hj,h⟩
  ·have aZ:vok v=true:=by
    cases v<;>first|rfl|(simp[cellsOf]at hy)
   refine⟨_,_,h,by simp,?_,?_⟩
   ·rw[aZ,hy]
    simp only[abZ,List.length_singleton,acF,acx]
    simp;omega
   ·rw[hy,acA (by simp;omega),aea (by simp;omega),aeb,aaS hj]
    simp
  ·exact later hj h
 |false=>
  rw[h1]at h
  simp only[cond_false]at h
  cases h2:Nat.ble arr.length j with
  |true=>rw[h2]at h;exact later (abj h2) h
  |false=>
   rw[h2]at h
   obtain⟨jI,rest,hc,⟨aZ,rfl,hl,bM,hle⟩,h⟩:=h
   refine⟨_,_,h,hl,?_,?_⟩
   ·rw[aZ,hc]
    have:(jI.map AV.p++rest).length=sz:=by simp;omega
    rw[this]
    simp only[abZ,acF,acx]
    simp;omega
   ·rw[hc,List.take_zero,List.nil_append,aaX,adh,adi (by simp;omega),aa3]
    have:sz - arr.length=rest.length:=by omega
    rw[this]
    simp
theorem Alike.pn{wo wd:Nat}{cells:List (Bool×List (List PV))}{op:Option Nat}{i:Nat}{rows:List (List PV)}{t:Bool}(hi:i<cells.length)(dw:op=none∨op=some i)(ht:t=false):
 Alike (.pn wo wd cells op) (.pn wo wd (cells.set i (true,rows)) (some i)) i wd rows t:=by
 subst ht
 refine⟨λj=>?_,λw ι p h=>?_,λw p j v h=>h,λl r h=>by cases h⟩
 ·simp only[Blk.inner,abd]
  by_cases e:j=i
  ·subst e;simp[hi]
  ·have e':¬i=j:=λh=>e h.symm
   rw[aaR e',aaR e]
   have h1:decide ((some i:Option Nat)=some j)=false:=by simp[e']
   have h2:decide (op=some j)=false:=by rcases dw with rfl|rfl<;>simp[e']
   rw[h1,h2]
 ·rcases h with⟨_,h0⟩|⟨c,o,s,cs,ty,fz,h1,h2,h3,h4,h5,h6⟩
  ·subst h0;simp at hi
  refine .inr ⟨c,o,s,cs,ty,fz,h1,h2,h3,h4,by rw[abp];exact h5,λj fl rs hj=>?_⟩
  rw[abd]at hj
  by_cases e:i=j
  ·rw[aaS e]at hj
   subst e
   rw[aaS hi]at hj
   cases hj
   obtain⟨v,v1,v2,_⟩:=h6 i cells[i].1 cells[i].2 (aaU hi)
   exact⟨v,v1,v2,λh=>by cases h⟩
  ·rw[aaR e]at hj;exact h6 j fl rs hj
theorem Alike.OP{wo wd:Nat}{cells:List (Bool×List (List PV))}{op:Option Nat}{i:Nat}{OQ rows:List (List PV)}(hi:cells[i]? =some (true,OQ)):
 Alike (.pn wo wd cells op) (.pn wo wd (cells.set i (true,rows)) op) i wd rows (!decide (op=some i)):=by
 have aq:=(aaW.1 hi).1
 refine⟨λj=>?_,λw ι p h=>?_,λw p j v h=>h,λl r h=>by cases h⟩
 ·simp only[Blk.inner,abd]
  by_cases e:j=i
  ·subst e;simp[aq]
  ·rw[aaR (λh=>e h.symm),aaR e]
 ·rcases h with⟨_,h0⟩|⟨c,o,s,cs,ty,fz,h1,h2,h3,h4,h5,h6⟩
  ·subst h0;simp at aq
  refine .inr ⟨c,o,s,cs,ty,fz,h1,h2,h3,h4,by rw[abp];exact h5,λj fl rs hj=>?_⟩
  rw[abd]at hj
  by_cases e:i=j
  ·rw[aaS e]at hj
   subst e
   rw[aaS aq]at hj
   cases hj
   obtain⟨v,v1,v2,_⟩:=h6 i _ _ hi
   exact⟨v,v1,v2,λh=>by cases h⟩
  ·rw[aaR e]at hj;exact h6 j fl rs hj
theorem G4{st:St}(hm:Mem cx ι st.heap w){b c o' s wo wd i:Nat}{cells:List (Bool×List (List PV))}{op:Option Nat}(hn:nth .dead st.heap b=.pn wo wd cells op)(hb:ι (.v b)=some (c,o',s)){rows:List (List PV)}
 (hi:cells[i]? =some (true,rows)) (dw:op=none∨op=some i) {v:Value} (hv:RA w ι (.cd b wd i rows.length) v):
 ∃cs ty fz,w.heap[c]? =some (.cells cs ty fz)∧kK cs.size fz∧o'+i+1≤cs.size∧
  Mem cx ι (setNth st.heap b (.pn wo wd cells none)) (bB w c (.cells (dE cs (o'+i) [v]) ty fz))∧bc ι.M w (bB w c (.cells (dE cs (o'+i) [v]) ty fz)) ι.M:=by
 have bq:=hm.hr.blk b
 rw[hn,hb]at bq
 rcases bq with⟨h0,_⟩|⟨c',o2,s2,cs,ty,fz,he,hc,ht,bM,hlen,bn⟩
 ·cases h0
 cases he
 have aq:i<cells.length:=(aaW.1 hi).1
 have hbound:o'+i+[v].length≤cs.size:=by simp;omega
 obtain⟨ho,_,nD⟩:=hv.sY
 have kc:=iH w c (.cells (dE cs (o'+i) [v]) ty fz) (aa8.1 hc).1
 have fe:∀j,(dE cs (o'+i) [v])[o'+j]? =if j=i then some v else cs[o'+j]?:=λj=>by
  rw[my _ _ _ hbound]
  by_cases e:j=i
  ·subst e;simp
  ·rw[aaR (by simp;omega),aaR e]
 refine⟨cs,ty,fz,hc,ht,by simpa using hbound,hm.BM hb (λd z hd hz=>by rw[fg _ _ hd];exact hz) (by simp[bB]) ⟨rfl,rfl⟩ (λhL=>?_) λhL aU j=>?_⟩
 ·refine .inr ⟨c,o',s,_,ty,fz,rfl,kc,by rw[eN _ _ _ hbound];exact ht,by rw[eN _ _ _ hbound];exact bM,hlen,λj fl rs hj=>?_⟩
  rw[fe]
  by_cases e:j=i
  ·subst e
   rw[hi]at hj;cases hj
   exact⟨v,by simp,ho,λh=>by cases h⟩
  ·rw[aaR e]
   obtain⟨u,u1,u2,u3⟩:=bn j fl rs hj
   exact⟨u,u1,u2,λh=>(u3 h).later hL⟩
 ·have h0:=hm.hr.hid b j
  unfold HB at h0 ⊢
  rw[hn]at h0
  simp only[Blk.inner]at h0 ⊢
  cases hj:cells[j]? with
  |none=>rw[hj]at h0;exact h0
  |some y=>
   obtain⟨fl,rs⟩:=y
   rw[hj]at h0
   cases fl with
   |false=>exact h0
   |true=>
    refine⟨h0.1.kL hL λc' o s hd=>aU j c' o s hd,λ_=>?_⟩
    by_cases e:j=i
    ·subst e
     rw[hi]at hj;cases hj
     exact⟨v,⟨c,o',s,rfl,by rw[cell_of kc,fe,aaS rfl]⟩,nD⟩
    ·have:(!decide (op=some j))=true:=by rcases dw with rfl|rfl<;>simp[abx e]
     obtain⟨u,⟨c2,o2,s2,q1,q2⟩,u2⟩:=h0.2 this
     rw[hb]at q1;cases q1
     exact⟨u,⟨c,o',s,rfl,by rw[cell_of kc,fe,aaR e];rw[cell_of hc]at q2;exact q2⟩,u2⟩
theorem OR(hr:Rel cx ι st a w){o:Oper}{t:TypeId}{x v:Operand}{av:AV}{b wo wd i:Nat}{cells:List (Bool×List (List PV))}{op:Option Nat}(hn:nth .dead st.heap b=.pn wo wd cells op){c o' s:Nat}(hb:ι (.v b)=some (c,o',s))
 (ho:o.op=.store t x v) (hx:a.eval x=.pointer (some ⟨c,o'+i,none⟩)) (dr:RA w ι av (a.eval v)) (hs:bI cx.P t=some 1) (hd:∀t,o.dst=some t→cx.bw t=true) {k:St→Prop}
 (h:vpnst cx.E st b wo wd cells op i av (λst=>k (st.put o.dst .undef))) {Q:Exit→Act→World→Prop}:o.wp cx.P a w (Kc cx k) Q:=by
 generalize vB:a.eval v=vv at dr
 have run:∀(cs:Array Value) (ty:TypeId) (fz:Nat×Nat),w.heap[c]? =some (.cells cs ty fz)→kK cs.size fz→o'+i+1≤cs.size→dQ vv=true→vv.cells= #[vv]→
  (execOp a.eval o).run cx.P w=.ok .skip (bB w c (.cells (dE cs (o'+i) [vv]) ty fz)):=by
  intro cs ty fz hc ht vk bA b0
  have h1:=nA (P:=cx.P) c (o'+i) ty fz [vv] 0 cs w hc (by simp;omega) ht (by simp[bA])
  simp only[Nat.add_zero]at h1
  simp only[execOp,ho,hx,vB,Instr.storeAt,Instr.sureAddr,Sem.run_bind,Sem.run_pure,Result.andThen_ok,storeVar,run_sizeOf hs,b0,ne_eq,adN,abA,adn,List.length_singleton,h1]
  rfl
 unfold vpnst at h
 split at h
 ·rename_i b' w' i' len
  cases hw:(Nat.beq b' b&&Nat.beq w' wd)with
  |false=>rw[hw]at h;exact h.elim
  |true=>
   rw[hw]at h
   obtain⟨e1,e2⟩:=by simpa using hw
   subst e1;subst e2
   obtain⟨⟨rfl,dw⟩,rows,hi,rfl,hk⟩:=h
   obtain⟨cs,ty,fz,hc,ht,hle,hm,hL⟩:=G4 hr.mem hn hb hi dw dr
   obtain⟨h1,h2,_⟩:=dr.sY
   exact nw (run cs ty fz hc ht hle h1 h2) ⟨ι,_,Rel.put (st:=⟨st.tmps,setNth st.heap b' (.pn wo w' cells none)⟩) ⟨hm,jf hL (λ_ _ h=>h) hr.tm,hr.sz,hr.df⟩ hd (.aE _),hk⟩
 ·rename_i m w' i0 len cap
  split at h
  ·rename_i w2 rows iG
   cases hw:(Nat.beq w' wd&&Nat.beq w2 wd&&!cx.E.fx m&&!Nat.beq m b)with
   |false=>rw[hw]at h;exact h.elim
   |true=>
    rw[hw]at h
    obtain⟨⟨⟨e1,e2⟩,vy⟩,jN⟩:=by simpa using hw
    subst e1;subst e2
    simp only[cond_true,nh]at h
    obtain⟨⟨hl,dw,aq⟩,hk⟩:=h
    have h_:b<st.heap.length:=hr.mem.hr.fO (by rw[hn];simp)
    have ha:Alike (nth .dead st.heap b) (.pn wo w2 (cells.set i (true,rows.drop i0)) (some i)) i w2 (rows.drop i0) false:=by rw[hn];exact Alike.pn aq dw rfl
    obtain⟨aC,hm,hL,hv,⟨a7,hD⟩,BZ⟩:=hr.mem.GS (λe=>by subst e;simp at jN) iG vy h_ dr hl ha (λh=>by cases h)
    rw[gJ]at hk
    let st1:St:=⟨killT m (killT (.h b i) st.tmps),setNth (setNth (killH m (killH (.h b i) st.heap)) m .dead) b (.pn wo w2 (cells.set i (true,rows.drop i0)) (some i))⟩
    have OT:b<(setNth (killH m (killH (.h b i) st.heap)) m .dead).length:=by rw[eA,abp,fc,fc];exact h_
    have nE:nth .dead st1.heap b=.pn wo w2 (cells.set i (true,rows.drop i0)) (some i):=by rw[dc _ _ _ _ _ OT,aaS rfl]
    have yv:(cells.set i (true,rows.drop i0))[i]? =some (true,rows.drop i0):=by rw[abd,aaS rfl,aaS aq]
    have OU:(rows.drop i0).length=len:=by simp;omega
    rw[←OU]at hv
    obtain⟨cs,ty,fz,hc,ht,hle,jy,mw⟩:=G4 (st:=st1) hm nE (a7.trans hb) yv (.inr rfl) hv
    obtain⟨h1,h2,_⟩:=hv.sY
    have e3:setNth st1.heap b (.pn wo w2 (cells.set i (true,rows.drop i0)) none)=setNth (setNth (killH m (killH (.h b i) st.heap)) m .dead) b (.pn wo w2 (cells.set i (true,rows.drop i0)) none):=BY _ _ _ _
    rw[e3]at jy
    exact nw (run cs ty fz hc ht hle h1 h2) ⟨aC,_,Rel.put (st:=⟨killT m (killT (.h b i) st.tmps),setNth (setNth (killH m (killH (.h b i) st.heap)) m .dead) b (.pn wo w2 (cells.set i (true,rows.drop i0)) none)⟩)
     ⟨jy,λs=>by rw[qO,qO];exact(BZ _ _ (hr.tm s)).later mw (λ_ _ h=>h),hr.sz,by rw[hD];exact hr.df⟩ hd (.aE _),hk⟩
  ·exact h.elim
 ·exact h.elim
theorem OV(hr:Rel cx ι st a w){o:Oper}{t:TypeId}{x v:Operand}{av:AV}{b wo wd i r j:Nat}{cells:List (Bool×List (List PV))}{op:Option Nat}(hn:nth .dead st.heap b=.pn wo wd cells op){c o' s:Nat}(hb:ι (.h b i)=some (c,o',s))
 (ho:o.op=.store t x v) (hx:a.eval x=.pointer (some ⟨c,o'+(r*wd+j),none⟩)) (dr:RA w ι av (a.eval v)) (hs:bI cx.P t=some 1) (hd:∀t,o.dst=some t→cx.bw t=true) {k:St→Prop} {rows:List (List PV)} {row:List PV} {y:PV}
 (hi:cells[i]? =some (true,rows)) (bm:rows[r]? =some row) (hj:j<row.length) (hy:cellsOf av=[.p y])
 (h:k ((⟨st.tmps,setNth st.heap b (.pn wo wd (cells.set i (true,rows.set r (row.set j y))) op)⟩:St).put o.dst .undef)) {Q:Exit→Act→World→Prop}:o.wp cx.P a w (Kc cx k) Q:=by
 generalize vB:a.eval v=vv at dr
 have aZ:vok av=true:=by cases av<;>first|rfl|(simp[cellsOf]at hy)
 obtain⟨dB,dY⟩:=pL aZ dr
 rw[hy]at dB
 have dB:vv.cells.size=1:=dB
 obtain⟨bA,dC⟩:=dY 0 (.p y) (by rw[hy];rfl)
 have a_:(nth .dead st.heap b).inner i=some (wd,rows,!decide (op=some i)):=by rw[hn];simp[Blk.inner,hi]
 have h0:=hr.mem.hr.hid b i
 unfold HB at h0
 rw[a_,hb]at h0
 rcases h0.1 with⟨h1,_⟩|⟨c',o2,s2,cs,ty,fz,he,hc,ht,bM,hlen,ct,bn⟩
 ·cases h1
 cases he
 have pT:=ct r row bm
 have lK:r<rows.length:=(aaW.1 bm).1
 have G1:r*wd+wd≤rows.length*wd:=by
  have:=abz wd (show r+1≤rows.length from lK)
  rwa [aa6,abP]at this
 have mz:vv.cells.toList.length=1:=by simpa using dB
 have hbound:o'+(r*wd+j)+vv.cells.toList.length≤cs.size:=by omega
 have aT:(execOp a.eval o).run cx.P w=.ok .skip (bB w c (.cells (dE cs (o'+(r*wd+j)) vv.cells.toList) ty fz)):=by
  have h1:=nA (P:=cx.P) c (o'+(r*wd+j)) ty fz vv.cells.toList 0 cs w hc (by simp;omega) ht (λz hz=>by
   obtain⟨n,gx,rfl⟩:=acI hz
   have e:n=0:=by omega
   subst e
   simpa [show 0<vv.cells.size by omega]using bA)
  simp only[Nat.add_zero]at h1
  simp only[execOp,ho,hx,vB,Instr.storeAt,Instr.sureAddr,Sem.run_bind,Sem.run_pure,Result.andThen_ok,storeVar,run_sizeOf hs,dB,ne_eq,adN,abA,h1]
  rfl
 obtain⟨hm,hL⟩:=hr.mem.stay (blk:=.pn wo wd (cells.set i (true,rows.set r (row.set j y))) op) a_ (rows':=rows.set r (row.set j y)) (by rw[hn];exact Alike.OP hi) (by simp) hb
  (w':=bB w c (.cells (dE cs (o'+(r*wd+j)) vv.cells.toList) ty fz)) (λd z hd hz=>by rw[fg _ _ hd];exact hz) (by simp[bB]) ⟨rfl,rfl⟩ (λhL=>by
   have vC:fE w ι (dE cs (o'+(r*wd+j)) vv.cells.toList) o' (.pr wd (rows.set r (row.set j y))):=by
    refine⟨by rw[eN _ _ _ hbound,abp];omega,λn q hq=>?_,λn q m z hq hz=>?_⟩
    ·rw[abd]at hq
     split at hq
     ·cases hq;rw[abp];exact pT
     ·exact ct n q hq
    ·rw[my _ _ _ hbound]
     rw[abd]at hq
     split at hq
     ·rename_i e
      subst e
      cases hq
      rw[abd]at hz
      by_cases e2:j=m
      ·subst e2
       rw[aaS rfl,aaS hj]at hz
       cases hz
       rw[aaS (by omega)]
       have g1:=gW dC
       refine⟨g1.pI bA,vv.cells.getD 0 undef,?_,g1⟩
       rw[acJ]
       simp[show 0<vv.cells.size by omega]
      ·rw[aaR e2]at hz
       rw[aaR (by omega)]
       exact bn r row m z bm hz
     ·rename_i e
      have G2:m<wd:=by
       have:=(aaW.1 hz).1
       rw[ct n q hq]at this;exact this
      rw[aaR]
      ·exact bn n q m z hq hz
      ·rintro ⟨q1,q2⟩
       rcases adO e with h4|h4
       ·have:=abz wd (show r+1≤n from h4)
        rw[aa6,abP]at this
        omega
       ·have:=abz wd (show n+1≤r from h4)
        rw[aa6,abP]at this
        omega
   have:=(vC.later hL (λ_ _ h=>h)).rb (ty:=ty) (fz:=fz) (iH w c _ (aa8.1 hc).1) (by rw[eN _ _ _ hbound];exact ht)
   rw[eN _ _ _ hbound,bM]at this
   exact this)
 exact nw aT ⟨ι,_,Rel.put (st:=⟨st.tmps,setNth st.heap b (.pn wo wd (cells.set i (true,rows.set r (row.set j y))) op)⟩) ⟨hm,jf hL (λ_ _ h=>h) hr.tm,hr.sz,hr.df⟩ hd (.aE _),h⟩
theorem OW(hr:Rel cx ι st a w){o:Oper}{t:TypeId}{x v:Operand}{x' v':aS}{sz:Nat}(ho:o.op=.store t x v)(hx:cOpd x=some x')(hv:cOpd v=some v')
 (hs:bI cx.P t=some sz) (hd:∀t,o.dst=some t→cx.bw t=true) {k:St→Prop} (h:iB cx.E false (.store x' v' sz) o.dst st k)
 {Q:Exit→Act→World→Prop}:o.wp cx.P a w (Kc cx k) Q:=by
 have bN:=bt hr.mem.hr.gl hr.tm hx
 have dr:=bt hr.mem.hr.gl hr.tm hv
 replace h:vstore cx.E st (ev st x') (ev st v') sz (λst=>k (st.put o.dst .undef)):=dj (k:=λv=>vstore cx.E st (ev st x') v sz (λst=>k (st.put o.dst .undef))) (dj (k:=λa=>force (ev st v') λv=>vstore cx.E st a v sz (λst=>k (st.put o.dst .undef))) h)
 generalize ev st x'=ax at h bN
 generalize ev st v'=av at h dr
 unfold vstore at h
 split at h
 ·rename_i b wd i j
  split at h
  ·rename_i wo wi cells op hn
   cases hw:(Nat.beq wd wo&&Nat.beq sz 1)with
   |false=>rw[hw]at h;exact h.elim
   |true=>
    rw[hw]at h
    obtain⟨e1,e2⟩:=by simpa using hw
    subst e1;subst e2
    generalize vD:a.eval x=vx at bN
    cases bN
    rename_i c o' s hb
    exact OR hr hn hb ho vD dr hs hd h
  ·rename_i n arr cells hn
   split at h
   ·have hlen:arr.length=n:=by
     have:=hr.mem.hr.blk b
     rw[hn]at this
     exact this.1
    have aq:b<st.heap.length:=hr.mem.hr.fO (by rw[hn];simp)
    obtain⟨jI,gN,hk,fF,hc,he⟩:=OO hlen h
    have jy:=hr.mem.OM hn
    let st2:St:=⟨st.tmps,setNth st.heap b (.mx (arr.map AV.p++cells))⟩
    have fh:Rel cx ι st2 a w:=⟨jy,hr.tm,hr.sz,hr.df⟩
    let k2:St→Prop:=λB1=>∃T,B1=(⟨st.tmps,T⟩:St).put o.dst .undef∧T=setNth st.heap b (.mx (jI.map AV.p++gN))
    have h2:vstore0 cx.E st2 (.ptr b wd 0 j) av sz (λst'=>k2 (st'.put o.dst .undef)):=by
     unfold vstore0
     simp only[st2,dc _ _ _ _ _ aq,abG,hc,cond_true]
     rw[nh,BY,he]
     exact⟨_,rfl,rfl⟩
    refine Oper.wp_mono ?_ (G0 (k:=k2) fh ho bN dr hs hd h2)
    rintro a' w' ⟨aC,st',aV,T,rfl,rfl⟩
    refine⟨aC,_,?_,hk⟩
    have G5:=aV.mem
    rw[pE]at G5
    refine⟨by rw[pE];exact Mem.ON aq G5 fF,λs=>?_,aV.sz,aV.df⟩
    have:=aV.tm s
    cases gk:o.dst with
    |none=>rw[gk]at this;exact this
    |some d=>rw[gk]at this;exact this
   ·exact h.elim
  ·exact G0 hr ho bN dr hs hd h
 ·rename_i b wd i r j
  split at h
  ·rename_i wo wi cells op hn
   cases hw:(Nat.beq wd wi&&Nat.beq sz 1)with
   |false=>rw[hw]at h;exact h.elim
   |true=>
    rw[hw]at h
    obtain⟨e1,e2⟩:=by simpa using hw
    subst e1;subst e2
    obtain⟨rows,row,y,⟨h1,h2,h3⟩,h4,hk⟩:=h
    generalize vD:a.eval x=vx at bN
    cases bN
    rename_i c o' s hb
    exact OV hr hn hb ho vD dr hs hd h1 h2 h3 h4 hk
  ·exact h.elim
 ·exact h.elim
end
def jh(w:World)(M:Nat→Prop)(esz:Nat)(rows:List (List PV))(vs:List Value):Prop:=
 vs.length=rows.length*esz∧(∀(i:Nat) row,rows[i]? =some row→row.length=esz)∧
 ∀(i:Nat) row (j:Nat) x,rows[i]? =some row→row[j]? =some x→x.one=true∧∃u,vs[i*esz+j]? =some u∧RP w M x u
theorem q_{esz n i j:Nat}(hi:i<n)(hj:j<esz):i*esz+j<n*esz:=by
 have:=abz esz (show i+1≤n from hi)
 rw[aa6,abP]at this
 omega
theorem B2{esz n m:Nat}(h:m<n*esz):∃i j,i<n∧j<esz∧m=i*esz+j:=by
 have ji:0<esz:=by
  rcases adp esz with h0|h0
  ·subst h0;simp at h
  ·exact h0
 refine⟨m / esz,m%esz,?_,ac4 _ ji,?_⟩
 ·exact Nat.div_lt_of_lt_mul (by rwa [adP])
 ·rw[adP];exact(Nat.div_add_mod m esz).symm
theorem jh.one{w:World}{M:Nat→Prop}{esz:Nat}{rows:List (List PV)}{vs:List Value}(h:jh w M esz rows vs):∀v∈vs,dQ v=true:=by
 intro v hv
 obtain⟨m,hm,rfl⟩:=acI hv
 obtain⟨i,j,hi,hj,rfl⟩:=B2 (by rw[←h.1];exact hm)
 have bm:=aaU hi
 have hl:=h.2.1 i _ bm
 have hx:rows[i][j]? =some rows[i][j]:=aaU (by omega)
 obtain⟨h1,u,h2,h3⟩:=h.2.2 i _ j _ bm hx
 rw[aaU hm]at h2
 cases h2
 exact h3.sE h1
theorem jh.append{w:World}{M:Nat→Prop}{esz:Nat}{r1 r2:List (List PV)}{v1 v2:List Value}(h1:jh w M esz r1 v1)(h2:jh w M esz r2 v2):
 jh w M esz (r1++r2) (v1++v2):=by
 refine⟨by simp[h1.1,h2.1,aa6],λi row hi=>?_,λi row j x hi hx=>?_⟩
 ·rw[abI]at hi
  split at hi
  ·exact h1.2.1 _ _ hi
  ·exact h2.2.1 _ _ hi
 ·rw[abI]at hi
  split at hi
  ·rename_i aq
   obtain⟨a,u,b,c⟩:=h1.2.2 i row j x hi hx
   refine⟨a,u,?_,c⟩
   rw[abm]
   ·exact b
   ·exact(aaW.1 b).1
  ·rename_i dH
   obtain⟨a,u,b,c⟩:=h2.2.2 _ row j x hi hx
   refine⟨a,u,?_,c⟩
   have e:i*esz+j=v1.length+((i - r1.length)*esz+j):=by
    rw[h1.1,←aa9,←aa6]
    congr 2;omega
   rw[e,abq (by omega)]
   rw[←b];congr 1;omega
theorem jh.blk{w:World}{ι:az}{esz:Nat}{rows:List (List PV)}{vs:List Value}(h:jh w ι.M esz rows vs)(rest:List Value):
 fE w ι (vs++rest).toArray 0 (.pr esz rows):=by
 refine⟨by simp[h.1],h.2.1,λi row j x hi hx=>?_⟩
 obtain⟨h1,u,h2,h3⟩:=h.2.2 i row j x hi hx
 refine⟨h1,u,?_,h3⟩
 have:=(aaW.1 h2).1
 simp only[aaX,ab8]
 rw[abm this];exact h2
section
variable {cx:Cx} {ι bX:az} {st:St} {a:Act} {w:World}
theorem oo.eZ{v:Value}{esz:Nat}{rows:List (List PV)}(h:oo w ι.M v esz rows):∃vs,jh w ι.M esz rows vs∧
 ∀(P:Program) n (w':World),n≤rows.length→Ext w w'→(Builtin.firstCells esz n v).run P w'=.ok (vs.take (n*esz)).toArray w':=by
 obtain⟨oa,cap,rfl,h⟩:=h
 rcases h with rfl|⟨ad,rfl,hs,bm⟩
 ·refine⟨[],⟨by simp,by simp,by simp⟩,λP n w' hn _=>?_⟩
  have:n=0:=by simpa using hn
  subst this
  cases oa<;>simp[Builtin.firstCells,loadCells,loadCellsFrom]
 ·have bn:∀m,m<rows.length*esz→∃v x,w.cell? ⟨ad.block,ad.off+m,none⟩=some v∧RP w ι.M x v∧x.one=true:=by
   intro m hm
   obtain⟨i,j,hi,hj,rfl⟩:=B2 hm
   obtain⟨h1,h2⟩:=bm i _ (aaU hi)
   obtain⟨h3,v,h4,h5⟩:=h2 j _ (aaU (by omega))
   exact⟨v,_,by rw[←aa9];exact h4,h5,h3⟩
  refine⟨(List.range (rows.length*esz)).map λm=>(w.cell? ⟨ad.block,ad.off+m,none⟩).getD undef,⟨by simp,λi row hi=>(bm i row hi).1,λi row j x hi hx=>?_⟩,λP n w' hn bQ=>?_⟩
  ·obtain⟨h1,h2⟩:=bm i row hi
   obtain⟨h3,v,h4,h5⟩:=h2 j x hx
   have bp:=(aaW.1 hi).1
   have d_:j<esz:=by rw[←h1];exact(aaW.1 hx).1
   refine⟨h3,v,?_,h5⟩
   rw[aa9]at h4
   simp[q_ bp d_,h4]
  ·have hle:n*esz≤rows.length*esz:=abz _ hn
   simp only[Builtin.firstCells]
   rw[run_loadCells (P:=P) w' ad (n*esz) (λm=>(w.cell? ⟨ad.block,ad.off+m,none⟩).getD undef) (λm hm=>by
    obtain⟨v,x,h1,_⟩:=bn m (by omega)
    rw[x7 hs,bQ.cell h1,h1];rfl)]
   rw[←adk,List.take_range,aci hle]
theorem vE(hr:Rel cx ι st a w){d:Option Nat}(hd:∀t,d=some t→cx.bw t=true){w':World}{cs:Array Value}{ty:TypeId}{fz:Nat×Nat}{blk:Blk}{av:AV}{v:Value}{k:St→Prop}{q:Bool}
 (bQ:w'.heap=w.heap.push (.cells cs ty fz)) (dq:w'.os=w.os∧w'.output=w.output) (ht:kK cs.size fz)
 (hb:fE w ι cs 0 blk) (hv:∀(aC:az),aC st.heap.length=some (w.heap.size,0,cs.size)→RA w' aC av v) (hk:k (iX st d av blk)):
 g_ cx q w k (a.put d v) w':=by
 have hold:∀(d:Nat) (x:Obj),w.heap[d]? =some x→w'.heap[d]? =some x:=λd x hx=>by
  rw[bQ];exact j8 w _ d x hx
 have jg:w'.heap[w.heap.size]? =some (.cells cs ty fz):=by rw[bQ];exact nv w _
 obtain⟨hm,hL,bh⟩:=hr.mem.lay (w':=w') (c:=w.heap.size) (o:=0) (s:=cs.size) (blk:=blk) (aaV _) hold dq
  (λhL bh=>(hb.later hL bh).rb jg ht) (λl r e=>by subst e;exact hb) hb.bare
 refine⟨⟨_,_,⟨?_,sJ (st:=⟨st.tmps,st.heap++[blk]⟩) (jf hL bh hr.tm) hr.sz.1 (λt ht=>cx.eI t (hd t ht)) (hv _ (az.oz _ _ _)),Sz.put hr.sz hd _,by rw[Act.sI];exact hr.df⟩,hk⟩,λ_=>hold⟩
 rw[pE];exact hm
theorem OX{l:List (Nat×Operand)}{n:Nat}{ops:List aS}(h:sM n l=some ops):ops.length=l.length∧cOpds (l.map (·.2))=some ops∧∀(i:Nat) p,l[i]? =some p→p.1=n+i:=by
 induction l generalizing n ops with
 |nil=>simp[sM]at h;subst h;simp[cOpds]
 |cons p r ih=>
  obtain⟨i,x⟩:=p
  simp only[sM]at h
  split at h
  ·rename_i e
   subst e
   split at h
   ·rename_i y l h1 h2
    cases h
    obtain⟨g1,g2,g3⟩:=ih h2
    refine⟨by simp[g1],by simp[cOpds,h1,g2],λi p hp=>?_⟩
    cases i with
    |zero=>simp at hp;subst hp;rfl
    |succ i=>simp at hp;rw[g3 i p hp];omega
   ·cases h
  ·cases h
theorem G6{esz:Nat}:∀(parts:List (Nat×Value)) (n:Nat) (cells:Array Value),(∀(i:Nat) p,parts[i]? =some p→p.1=n+i)→(∀p∈parts,p.2.cells.size=esz)→
 (n+parts.length)*esz≤cells.size→
 ∃gN,Instr.fill (λi=>some (i*esz,esz)) cells parts=some gN∧gN.size=cells.size∧(∀m,m<n*esz→gN[m]? =cells[m]?)∧
  ∀(i:Nat) p (j:Nat),parts[i]? =some p→j<esz→gN[(n+i)*esz+j]? =p.2.cells[j]?
 |[],n,cells,_,_,_=>⟨cells,rfl,rfl,λ_ _=>rfl,by simp⟩
 |(i0,v)::r,n,cells,h1,h2,h3=>by
  have e0:i0=n:=by simpa using h1 0 (i0,v) rfl
  subst e0
  have hv:v.cells.size=esz:=h2 (i0,v) (by simp)
  have hlen:(i0+1+r.length)*esz≤cells.size:=by simp at h3;rw[show i0+1+r.length=i0+(r.length+1) by omega];exact h3
  have ZK:i0*esz+esz≤cells.size:=by
   have:=abz esz (show i0+1≤i0+1+r.length by omega)
   rw[aa6,abP]at this;omega
  obtain⟨gN,g1,g2,g3,g4⟩:=G6 r (i0+1) (v.cells.zipIdx.foldl (λcs (c,j)=>cs.setIfInBounds (i0*esz+j) c) cells)
   (λi p hp=>by have:=h1 (i+1) p (by simpa using hp);omega) (λp hp=>h2 p (by simp[hp])) (by rw[sQ,Bu];exact hlen)
  refine⟨gN,?_,by rw[g2,sQ,Bu],λm hm=>?_,λi p j hp hj=>?_⟩
  ·simp only[Instr.fill]
   rw[aaR]
   ·exact g1
   ·simp only[acz,abk,not_or]
    exact⟨by simp[hv],by omega⟩
  ·rw[g3 m (by rw[aa6];omega),sQ,Bt,aaR (by omega)]
  ·cases i with
   |zero=>
    simp at hp;subst hp
    have e2:(i0+1)*esz=i0*esz+esz:=by rw[aa6,abP]
    rw[Nat.add_zero,g3 _ (by omega),sQ,Bt,aaS (by simp[hv];omega)]
    simp
   |succ i=>
    have:=g4 i p j (by simpa using hp) hj
    rw[show i0+(i+1)=i0+1+i by omega];exact this
theorem OY{x:AV}{k:St→List PV→Prop}(h:pz cx.E st (cellsOf x) k):vok x=true:=by
 cases x<;>first|rfl|exact h.elim
theorem G7{val:Nat→Value}:∀(xs:List AV) (n:Nat) {ι:az} {st:St} (hr:Rel cx ι st a w) (hf:jO bX ι st.heap)
 (hx:∀(i:Nat) x,xs[i]? =some x→RA w bX x (val (n+i))) {k:St→List (List PV)→Prop} (h:xK cx.E st xs k),
 ∃aC st' rows,k st' rows∧Rel cx aC st' a w∧rows.length=xs.length∧
  (∀(i:Nat) row,rows[i]? =some row→row.length=(val (n+i)).cells.size∧∀(j:Nat) y,row[j]? =some y→y.one=true∧RP w aC.M y ((val (n+i)).cells.getD j undef))∧
  jO bX aC st'.heap∧bc ι.M w w aC.M
 |[],n,ι,st,hr,hf,hx,k,h=>⟨ι,st,[],h,hr,rfl,by simp,hf,bc.refl _ _⟩
 |x::r,n,ι,st,hr,hf,hx,k,h=>by
  have h:pz cx.E st (cellsOf x) (λst row=>xK cx.E st r λst rows=>k st (row::rows)):=GZ h
  have aZ:=OY h
  obtain⟨dB,dY⟩:=pL aZ (hx 0 x rfl)
  obtain⟨cg,st1,row,h1,bG,cj,BU,oE,sZ⟩:=BT (val:=λj=>(val (n+0)).cells.getD j undef) (cellsOf x) 0 hr hf (λi y hy=>by simpa using (dY i y hy).2) h
  obtain⟨bZ,st2,rows,h2,fh,dI,s4,BV,mw⟩:=G7 r (n+1) bG oE (λi x hi=>by
   have:=hx (i+1) x (by simpa using hi)
   rw[aa9,acH 1 i];exact this) h1
  refine⟨bZ,st2,row::rows,h2,fh,by simp[dI],λi z hz=>?_,BV,⟨λ_ _ _ h=>h,λc hc=>?_,aaV _⟩⟩
  ·cases i with
   |zero=>
    simp at hz;subst hz
    refine⟨by rw[cj];exact dB.symm,λj y hy=>?_⟩
    have g1:=BU j y hy
    simp only[aaX]at g1
    have aq:j<(cellsOf x).length:=by rw[←cj];exact(aaW.1 hy).1
    have g2:=(dY j _ (aaU aq)).1
    exact⟨g1.pI g2,g1.later mw⟩
   |succ i=>
    have:=s4 i z (by simpa using hz)
    rw[aa9,acH 1 i]at this;exact this
  ·rcases mw.new c hc with h3|h3
   ·exact sZ.new c h3
   ·exact .inr h3
theorem OZ(hr:Rel cx ι st a w){o:Oper}{t e:TypeId}{len esz:Nat}{parts:Array (Nat×Operand)}{ops:List aS}(ho:o.op=.buildSlice t len parts)
 (hu:cx.P.underlying t=some (.slice e)) (hs:bI cx.P e=some esz) (hp:sM 0 parts.toList=some ops) (hlen:ops.length=len) (ZL:len*esz≤2^24) (ji:0<esz)
 (hz:(zeroT cx.P e).isSome=true) (hd:∀t,o.dst=some t→cx.bw t=true) {q:Bool} {k:St→Prop} (h:iB cx.E q (.xD esz ops) o.dst st k)
 {Q:Exit→Act→World→Prop}:o.wp cx.P a w (g_ cx q w k) Q:=by
 obtain⟨d1,d2,d3⟩:=OX hp
 obtain⟨e1,e2⟩:=x8 hr.mem.hr.gl hr.tm d2
 obtain⟨z,hz⟩:=ad8.1 hz
 obtain⟨i0,v0,fQ,nn,_,_,oD⟩:=qT (w:=w) (ι:=ι) hz
 obtain⟨aC,st',rows,⟨ct,hk⟩,aV,fF,sP,hf,hL⟩:=G7 (val:=λi=>((parts.toList.map (·.2)).map a.eval).toArray.getD i undef) (evL st ops) 0 hr (jO.refl _ _) (λi x hx=>by simpa using e2 i x hx) h
 have hn:rows.length=len:=by rw[fF,e1];simp at d1 ⊢;omega
 let pv:List (Nat×Value):=parts.toList.map λp=>(p.1,a.eval p.2)
 have kQ:pv.length=len:=by simp[pv];simp at d1;omega
 have ed:∀i p,pv[i]? =some p→((parts.toList.map (·.2)).map a.eval).toArray.getD i undef=p.2:=λi p hp=>by
  have h1:((parts.toList.map (·.2)).map a.eval)[i]? =some p.2:=by
   simp only[pv,aaY]at hp ⊢
   obtain⟨x,hx,rfl⟩:=aa0.1 hp
   rw[hx];rfl
  simp only[ach,ab8,h1,Option.getD_some]
 have bM:∀p∈pv,p.2.cells.size=esz:=λp hp=>by
  obtain⟨i,hi,rfl⟩:=acI hp
  have g:=ed i _ (aaU hi)
  have bp:i<rows.length:=by rw[hn,←kQ];exact hi
  have:=(sP i _ (aaU bp)).1
  simp only[aaX]at this
  rw[g]at this
  rw[←this];exact ct _ (abN bp)
 obtain⟨gN,g1,g2,g3,g4⟩:=G6 (esz:=esz) pv 0 ((Array.range (len*esz)).map λi=>(if len*esz=0 then(#[]:Array Value)else v0.cells)[i%(if len*esz=0 then(#[]:Array Value)else v0.cells).size]!)
  (λi p hp=>by
   simp only[pv,aaY]at hp
   obtain⟨x,hx,rfl⟩:=aa0.1 hp
   exact d3 i x hx) bM (by simp[kQ])
 have aT:(execOp a.eval o).run cx.P w=.ok (.value (.slice (some ⟨w.heap.size,0,none⟩) len len)) (dD w (.cells gN e)):=by
  have yw:Instr.fill (λi=>some (i*esz,esz)) ((Array.range (len*esz)).map λi=>(if len*esz=0 then(#[]:Array Value)else v0.cells)[i%(if len*esz=0 then(#[]:Array Value)else v0.cells).size]!)
   (parts.map λ(i,x)=>(i,a.eval x)).toList=some gN:=by
   rw[←g1];simp[pv]
  by_cases h0:len*esz=0
  ·simp only[h0,abG]at yw
   simp only[execOp,ho,Instr.buildSlice,Sem.run_bind,run_underlying hu,Result.andThen_ok,run_sizeOf hs,h0,abG,Sem.run_pure,yw,newRow,run_newObj,gt_iff_lt,acn,abA]
   rfl
  ·simp only[h0,abA]at yw
   simp only[execOp,ho,Instr.buildSlice,Sem.run_bind,run_underlying hu,Result.andThen_ok,run_sizeOf hs,aaR (show ¬len*esz>2^24 by omega),h0,abA,Sem.run_pure,oq fQ nn,yw,newRow,run_newObj]
   rfl
 have vF:jh w aC.M esz rows gN.toList:=by
  refine⟨by simp[g2,hn],λi row hi=>ct _ (aa_ hi),λi row j x hi hx=>?_⟩
  obtain⟨q1,q2⟩:=sP i row hi
  obtain⟨q3,q4⟩:=q2 j x hx
  have bp:i<pv.length:=by rw[kQ,←hn];exact(aaW.1 hi).1
  have d_:j<esz:=by rw[←ct _ (aa_ hi)];exact(aaW.1 hx).1
  have g5:=g4 i _ j (aaU bp) d_
  have g6:=ed i _ (aaU bp)
  simp only[aaX]at q4 g5
  rw[g6]at q4
  have O1:=bM _ (abN bp)
  refine⟨q3,pv[i].2.cells.getD j undef,?_,q4⟩
  rw[adg,g5]
  simp[O1,d_]
 have hb:=vF.blk []
 simp only[abR,Array.toArray_toList]at hb
 obtain⟨O2,jw⟩:=vE (q:=q) aV hd (w':=dD w (.cells gN e)) (fz:=(0,0)) rfl ⟨rfl,rfl⟩ (λo _ h=>by omega) hb
  (av:=.sl st'.heap.length esz 0 rows.length (some rows.length)) (v:=.slice (some ⟨w.heap.size,0,none⟩) len len) (λbZ h2=>by
   have:=RA.sl (w:=dD w (.cells gN e)) (ι:=bZ) (wd:=esz) (i:=0) (len:=len) (cc:=len) (cap:=some len) h2 (aaV _) (λk hk=>by cases hk;rfl) (by simp[g2])
   simpa [hn]using this) hk
 exact dO aT ⟨O2,jw⟩
end
section
variable {cx:Cx} {ι bX:az} {st:St} {a:Act} {w:World}
theorem G8{z:List PV}{v:Value}{esz:Nat}(hz:∀(i:Nat) x,z[i]? =some x→x.one=true∧RP w ι.M x (v.cells.getD i undef))(hs:v.cells.size=z.length)(hl:z.length=esz)(m:Nat):
 jh w ι.M esz (List.replicate m z) ((List.range (m*esz)).map λi=>v.cells[i%v.cells.size]!):=by
 refine⟨by simp,λi row hi=>?_,λi row j x hi hx=>?_⟩
 ·rw[acd]at hi
  split at hi
  ·cases hi;exact hl
  ·cases hi
 ·rw[acd]at hi
  split at hi
  ·rename_i aq
   cases hi
   obtain⟨h1,h2⟩:=hz j x hx
   have hj:j<esz:=by rw[←hl];exact(aaW.1 hx).1
   refine⟨h1,v.cells.getD j undef,?_,h2⟩
   rw[aaY,abC (q_ aq hj)]
   have O3:(i*esz+j)%v.cells.size=j:=by
    rw[hs,hl,adP,Nat.mul_add_mod,adQ hj]
   have d_:j<v.cells.size:=by omega
   simp[O3,d_]
  ·cases hi
theorem G9{n:Int}(h0:0≤n)(h1:n<9223372036854775808):IntKind.i64.wrap n=n:=by
 unfold IntKind.wrap IntKind.signed IntKind.bits
 simp
 omega
theorem O4(hr:Rel cx ι st a w){o:Oper}{t e:TypeId}{l c:Operand}{l' c':aS}{z:List PV}{esz bytes:Nat}(ho:o.op=.makeSlice t l c)
 (hu:cx.P.underlying t=some (.slice e)) (hl:cOpd l=some l') (hc:cOpd c=some c') (hz:zeroT cx.P e=some z) (hs:bI cx.P e=some esz) (hb:qQ cx.P e=some bytes)
 (nF:z.length=esz) (ji:0<esz) (hd:∀t,o.dst=some t→cx.bw t=true) {q:Bool} {k:St→Prop} (h:iB cx.E q (.xE z esz bytes l' c') o.dst st k)
 {Q:Exit→Act→World→Prop}:o.wp cx.P a w (g_ cx q w k) Q:=by
 have s6:=bt hr.mem.hr.gl hr.tm hl
 have dY:=bt hr.mem.hr.gl hr.tm hc
 obtain⟨i0,v0,fQ,nn,_,qZ,oD⟩:=qT (w:=w) (ι:=ι) hz
 have gZ:i0.bytes=bytes:=by unfold qQ at hb;rw[fQ]at hb;simpa using hb
 have h:Ba z esz bytes o.dst st (ev st l') (ev st c') k:=h
 generalize ev st l'=al at h s6
 generalize ev st c'=ac at h dY
 unfold Ba at h
 split at h
 ·rename_i k1 n k2 m
  obtain⟨⟨h0,h1,h2,h3⟩,h⟩:=h
  have e1:=jJ s6
  have e2:=jJ dY
  unfold cL at h2 h3
  have w1:IntKind.i64.wrap n=n:=G9 h0 (by omega)
  have w2:IntKind.i64.wrap m=m:=G9 (by omega) (by omega)
  have vF:=G8 (w:=w) (ι:=ι) qZ oD nF n.toNat
  have dB:(m.toNat*esz=0→m.toNat=0):=λh=>by
   rcases Nat.mul_eq_zero.1 h with h|h
   ·exact h
   ·omega
  have ZM:¬((bytes:Int)*m>2^48):=by
   rw[Int.mul_comm];omega
  have aT:(execOp a.eval o).run cx.P w=.ok (.value (.slice (some ⟨w.heap.size,0,none⟩) n.toNat m.toNat))
   (dD w (.cells ((List.range (m.toNat*esz)).map λi=>v0.cells[i%v0.cells.size]!).toArray e)):=by
   have ha:((Array.range (m.toNat*esz)).map λi=>v0.cells[i%v0.cells.size]!)=((List.range (m.toNat*esz)).map λi=>v0.cells[i%v0.cells.size]!).toArray:=by
    apply abF;simp
   have eO:¬(((m<0∨281474976710656<(bytes:Int)*m)∨n<0)∨m<n):=by omega
   by_cases hz:m.toNat*esz=0
   ·have gV:=dB hz
    simp[execOp,ho,Instr.makeSlice,run_underlying hu,e1,e2,asInt,asIntOf,run_typeInfo fQ,gZ,w1,w2,run_sizeOf hs,newRow,gV]
    rw[aaR eO]
    have em:(Array.map (λ_=>(default:Value)) (Array.range 0))= #[]:=by apply abF;simp
    rw[em];rfl
   ·simp[execOp,ho,Instr.makeSlice,run_underlying hu,e1,e2,asInt,asIntOf,run_typeInfo fQ,gZ,w1,w2,run_sizeOf hs,newRow,hz,oq fQ nn,ha]
    rw[aaR eO]
    rfl
  have hblk:=vF.blk ((List.range' (n.toNat*esz) (m.toNat*esz - n.toNat*esz)).map λi=>v0.cells[i%v0.cells.size]!)
  have iG:n.toNat*esz≤m.toNat*esz:=abz _ (by omega)
  rw[←abo,acT (n:=n.toNat*esz),show List.range' 0 (n.toNat*esz)++List.range' (n.toNat*esz) (m.toNat*esz - n.toNat*esz)=List.range (m.toNat*esz) by
   have:=List.range'_append_1 (s:=0) (m:=n.toNat*esz) (n:=m.toNat*esz - n.toNat*esz)
   rw[aaX]at this
   rw[this,acT]
   congr 1;omega]at hblk
  refine dO aT (vE (q:=q) hr hd rfl ⟨rfl,rfl⟩ (λo _ h=>by omega) hblk (λbZ h4=>?_) h)
  have:=RA.sl (w:=dD w (.cells ((List.range (m.toNat*esz)).map λi=>v0.cells[i%v0.cells.size]!).toArray e)) (ι:=bZ) (wd:=esz) (i:=0) (len:=n.toNat) (cc:=m.toNat) (cap:=some m.toNat) h4
   (by omega) (λk hk=>by cases hk;rfl) (by simp)
  simpa using this
 ·exact h.elim
theorem O5(hr:Rel cx ι st a w){o:Oper}{s t e:TypeId}{x:Operand}{x':aS}(ho:o.op=.convert s t x)
 (hs:cx.P.underlying s=some .string) (ht:cx.P.underlying t=some (.slice e)) (he:cx.P.underlying e=some (.int .u8)) (hx:cOpd x=some x')
 (hd:∀t,o.dst=some t→cx.bw t=true) {q:Bool} {k:St→Prop} (h:iB cx.E q (.bytesOf x') o.dst st k)
 {Q:Exit→Act→World→Prop}:o.wp cx.P a w (g_ cx q w k) Q:=by
 have bN:=bt hr.mem.hr.gl hr.tm hx
 have h:Bb o.dst st (ev st x') k:=h
 generalize ev st x'=ax at h bN
 unfold Bb at h
 split at h
 ·rename_i l
  have ex:=pG bN
  obtain⟨cap,aR,jP⟩:∃cap,l.length≤cap∧(choose (.appendCap l.length 0 e)).run cx.P w=.ok cap {w with drawn:=w.drawn+1}:=
   ⟨l.length+w.tape w.drawn (.appendCap l.length 0 e)%(2^63 - l.length),by omega,by simp only[run_choose,Question.forced,ab2,abA,Question.cut]⟩
  let cs:Array Value:=(l.map λb=>(Value.int .u8 b.toNat)).toArray++Array.replicate (cap - l.length) (.int .u8 0)
  have dB:cs.size=cap:=by simp[cs];omega
  let w':World:={w with drawn:=w.drawn+1,heap:=w.heap.push (.cells cs e (cap,cap+1))}
  have aT:(execOp a.eval o).run cx.P w=.ok (.value (.slice (some ⟨w.heap.size,0,none⟩) l.length cap)) w':=by
   have e1:(⟨⟨l⟩⟩:ByteArray).size=l.length:=rfl
   have e2:((⟨⟨l⟩⟩:ByteArray).data.map λb=>(Value.int .u8 b.toNat))=(l.map λb=>(Value.int .u8 b.toNat)).toArray:=by
    apply abF;simp
   have e3:({w with drawn:=w.drawn+1,heap:=w.heap.push (.cells cs e)}:World).shape? w.heap.size=some (e,cap):=by
    simp[World.shape?,dB]
   have e4:({w with drawn:=w.drawn+1,heap:=w.heap.push (.cells cs e)}:World).freeze ⟨w.heap.size,cap,none⟩ 1=w':=by
    simp only[World.freeze,w']
    rw[aaR (by omega)]
    congr 1
    apply adM
    intro j
    rw[acu]
    by_cases ej:w.heap.size=j
    ·subst ej;simp
    ·rw[aaR ej]
     by_cases aq:j<w.heap.size
     ·rw[acG aq,acG aq]
     ·rw[ab7 (by simp;omega),ab7 (by simp;omega)]
   simp only[execOp,ho,ex,convert,Sem.run_bind,run_underlying hs,run_underlying ht,run_underlying he,Result.andThen_ok,Conv.stringToBytes,e1,jP,e2,newRow,run_newObj,Sem.run_pure,markStringish,run_shape]
   have e5:({w with drawn:=w.drawn+1,heap:=w.heap.push (.cells ((l.map λb=>(Value.int .u8 b.toNat)).toArray++Array.replicate (cap - l.length) (.int .u8 0)) e)}:World).shape? w.heap.size=some (e,cap):=e3
   simp only[e5,run_freeze,Result.andThen_ok]
   exact aaT (Result.ok _) e4
  have vF:jh w ι.M 1 (l.map fY) (l.map λb=>(Value.int .u8 b.toNat)):=by
   refine⟨by simp,λi row hi=>?_,λi row j x hi hx=>?_⟩
   ·simp at hi;obtain⟨b,_,rfl⟩:=hi;rfl
   ·simp at hi
    obtain⟨b,hb,rfl⟩:=hi
    cases j with
    |zero=>simp[fY]at hx;subst hx;exact⟨rfl,.int .u8 b.toNat,by simp[hb],.int _ _⟩
    |succ j=>simp[fY]at hx
  have hblk:=vF.blk (List.replicate (cap - l.length) (Value.int .u8 0))
  have O6:((l.map λb:UInt8=>(Value.int .u8 b.toNat))++List.replicate (cap - l.length) (Value.int .u8 0)).toArray=cs:=by
   apply abF;simp[cs]
  rw[O6]at hblk
  refine dO aT (vE (q:=q) hr hd (fz:=(cap,cap+1)) rfl ⟨rfl,rfl⟩ (λo ZN h=>by omega) hblk (λbZ h4=>?_) h)
  have:=RA.sl (w:=w') (ι:=bZ) (wd:=1) (i:=0) (len:=l.length) (cc:=cap) (cap:=none) h4 aR (by simp) (by omega)
  simpa using this
 ·exact h.elim
end
structure Src(w:World)(M:Nat→Prop)(v:Value)(esz:Nat)(rows:List (List PV))(vs:List Value):Prop where
 eZ:jh w M esz rows vs
 len:∀(P:Program) (w':World),(Builtin.lenOf v).run P w'=.ok rows.length w'
 first:∀(P:Program) n (w':World),n≤rows.length→Ext w w'→(Builtin.firstCells esz n v).run P w'=.ok (vs.take (n*esz)).toArray w'
section
variable {cx:Cx} {ι bX:az} {st:St} {a:Act} {w:World}
theorem oo.src{v:Value}{esz:Nat}{rows:List (List PV)}(h:oo w ι.M v esz rows):∃vs,Src w ι.M v esz rows vs:=by
 obtain⟨vs,h1,h2⟩:=h.eZ
 obtain⟨oa,cap,rfl,_⟩:=h
 exact⟨vs,h1,λP w'=>rfl,h2⟩
theorem oF{h:List Blk}(hr:bL ι h w){x:AV}{v:Value}(hx:RA w ι x v){esz:Nat}{k:List (List PV)→Prop}(hv:lB h x esz k):
 ∃rows vs,k rows∧Src w ι.M v esz rows vs:=by
 obtain⟨rows,hk,h⟩:=NX hr hx hv
 rcases h with⟨l,rfl,rfl,rfl,rfl⟩|h
 ·refine⟨_,l.map λb=>.int .u8 b.toNat,hk,⟨by simp,λi row hi=>?_,λi row j x hi hx=>?_⟩,λP w'=>?_,λP n w' hn _=>?_⟩
  ·simp at hi;obtain⟨b,_,rfl⟩:=hi;rfl
  ·simp at hi
   obtain⟨b,hb,rfl⟩:=hi
   cases j with
   |zero=>simp[fY]at hx;subst hx;exact⟨rfl,.int .u8 b.toNat,by simp[hb],.int _ _⟩
   |succ j=>simp[fY]at hx
  ·simp[Builtin.lenOf];rfl
  ·simp only[Builtin.firstCells,Gh,Sem.run_pure]
   congr 1
   apply abF
   simp[adk]
 ·obtain⟨vs,hs⟩:=h.src
  exact⟨rows,vs,hk,hs⟩
theorem G_(nG:Nat)(hn:256≤nG):∀(r c:Nat),c≤2*nG→Builtin.growBy nG r c≤2*nG
 |0,c,h=>h
 |r+1,c,h=>by
  simp only[Builtin.growBy]
  split
  ·exact h
  ·exact G_ nG hn r _ (by omega)
theorem nextslicecap_le{nG old:Nat}(h:old<nG):Builtin.nextslicecap nG old≤2*nG:=by
 unfold Builtin.nextslicecap
 split
 ·omega
 ·split
  ·omega
  ·exact G_ nG (by omega) _ _ (by omega)
theorem B3{P:Program}{sT xT ty e:TypeId}{esz bytes sLen sCap n:Nat}{z:List PV}{base:Option Addr}{x:Value}{old new:List Value}
 (hu:P.underlying sT=some (.slice e)) (kR:(∃e',P.underlying xT=some (.slice e'))∨P.underlying xT=some .string) (hs:bI P e=some esz) (hb:qQ P e=some bytes) (hz:zeroT P e=some z) (nF:z.length=esz) (ji:0<bytes)
 (hlen:∀w',(Builtin.lenOf x).run P w'=.ok n w') (hold:∀w',Ext w w'→(Builtin.firstCells esz sLen (.slice base sLen sCap)).run P w'=.ok old.toArray w') (rh:old.length=sLen*esz)
 (eD:∀w',Ext w w'→(Builtin.firstCells esz n x).run P w'=.ok new.toArray w') (dS:new.length=n*esz)
 (iI:sCap<sLen+n) (gO:(sLen+n)*bytes≤cL):
 ∃(w':World) (cap:Nat) (rest:List Value),sLen+n≤cap∧w'.heap=w.heap.push (.cells (old++new++rest).toArray e (0,0))∧(w'.os=w.os∧w'.output=w.output)∧(old++new++rest).length=cap*esz∧
  (Builtin.append_ #[sT,xT] ty #[.slice base sLen sCap,x]).run P w=.ok (.slice (some ⟨w.heap.size,0,none⟩) (sLen+n) cap) w':=by
 obtain⟨i0,v0,fQ,nn,_,_,oD⟩:=qT (w:=w) (ι:=⟨λ_=>none,λ_=>False,λ_=>False,[],False⟩) hz
 have gZ:i0.bytes=bytes:=by unfold qQ at hb;rw[fQ]at hb;simpa using hb
 let w1:World:={w with drawn:=w.drawn+1}
 have jw:Ext w w1:=λc o h=>h
 obtain⟨cap,aR,jP⟩:∃cap,sLen+n≤cap∧(choose (.appendCap (sLen+n) sCap e)).run P w=.ok cap w1:=
  ⟨sLen+n+w.tape w.drawn (.appendCap (sLen+n) sCap e)%(2^63 - (sLen+n)),by omega,by simp only[run_choose,Question.forced,ab2,abA,Question.cut];rfl⟩
 let rest:List Value:=((List.range ((cap - (sLen+n))*v0.cells.size)).map λi=>v0.cells[i%v0.cells.size]!)
 have pM:Builtin.zeroCells v0.cells (cap - (sLen+n))=rest.toArray:=by
  apply abF;simp[Builtin.zeroCells,rest]
 have Ha:¬(Builtin.nextslicecap (sLen+n) sCap*bytes>2^48):=by
  have h1:=nextslicecap_le iI
  have h2:=abz bytes h1
  rw[Nat.mul_assoc]at h2
  unfold cL at gO
  omega
 refine⟨{w1 with heap:=w.heap.push (.cells (old++new++rest).toArray e (0,0))},cap,rest,aR,rfl,⟨rfl,rfl⟩,?_,?_⟩
 ·simp only[aa7,rh,dS,rest,aa3,ab3,oD,nF]
  rw[←aa6,←aa6]
  congr 1
  omega
 ·have h2:¬sLen+n≤sCap:=by omega
  have h3:¬bytes=0:=by omega
  have h4:=hold w1 jw
  have h5:=eD w1 jw
  rcases kR with⟨e',hd⟩|hd
  ·simp only[Builtin.append_,ab8,List.getElem?_cons_zero,List.getElem?_cons_succ,Sem.run_bind,run_underlying hu,run_underlying hd,Result.andThen_ok,run_sizeOf hs,Sem.run_pure,
    ab2,abA,hlen,aaR h2,run_typeInfo fQ,gZ,h3,or_self,and_false,aaR Ha,jP,run_askRoom,h4,h5,adq,abG,oq fQ nn,pM,newRow,run_newObj]
   congr 1
   simp[w1]
  ·simp only[Builtin.append_,ab8,List.getElem?_cons_zero,List.getElem?_cons_succ,Sem.run_bind,run_underlying hu,run_underlying hd,Result.andThen_ok,run_sizeOf hs,Sem.run_pure,
    ab2,abA,hlen,aaR h2,run_typeInfo fQ,gZ,h3,or_self,and_false,aaR Ha,jP,run_askRoom,h4,h5,adq,abG,oq fQ nn,pM,newRow,run_newObj]
   congr 1
   simp[w1]
theorem s7{P:Program}{sT xT ty e:TypeId}{esz sLen sCap n:Nat}{base:Option Addr}{x:Value}{new:List Value}
 (hu:P.underlying sT=some (.slice e)) (kR:(∃e',P.underlying xT=some (.slice e'))∨P.underlying xT=some .string) (hs:bI P e=some esz)
 (hlen:∀w',(Builtin.lenOf x).run P w'=.ok n w') (eD:∀w',Ext w w'→(Builtin.firstCells esz n x).run P w'=.ok new.toArray w') (iI:sLen+n≤sCap):
 (Builtin.append_ #[sT,xT] ty #[.slice base sLen sCap,x]).run P w=
  match base with
  |some a=>((storeCells (a.add (sLen*esz)) new).run P w).andThen λ_ w'=>.ok (.slice base (sLen+n) sCap) w'
  |none=>.ok (.slice base (sLen+n) sCap) w:=by
 have h5:=eD w (Ext.refl w)
 rcases kR with⟨e',hd⟩|hd
 ·cases base<;>
   simp only[Builtin.append_,ab8,List.getElem?_cons_zero,List.getElem?_cons_succ,Sem.run_bind,run_underlying hu,run_underlying hd,Result.andThen_ok,run_sizeOf hs,Sem.run_pure,
    ab2,abA,hlen,aaS iI,h5,adq,abG]
 ·cases base<;>
   simp only[Builtin.append_,ab8,List.getElem?_cons_zero,List.getElem?_cons_succ,Sem.run_bind,run_underlying hu,run_underlying hd,Result.andThen_ok,run_sizeOf hs,Sem.run_pure,
    ab2,abA,hlen,aaS iI,h5,adq,abG]
theorem O7{h:List Blk}(hr:bL ι h w){b wd i len:Nat}{cap:Option Nat}{v:Value}(hx:RA w ι (.sl b wd i len cap) v){rows:List (List PV)}(hn:nth .dead h b=.pr wd rows)
 (hlen:i+len≤rows.length):oo w ι.M v wd ((rows.drop i).take len):=by
 have hl:((rows.drop i).take len).length=len:=by simp;omega
 cases hx with
 |sl hb fF aR bU=>
  rename_i c o s cc
  refine⟨_,_,by rw[hl],.inr ⟨_,rfl,rfl,λn row hi=>?_⟩⟩
  have bp:rows[i+n]? =some row:=by
   rw[ab5]at hi
   split at hi
   ·rwa [abJ]at hi
   ·cases hi
  obtain⟨h1,h2⟩:=hr.row hb hn bp
  exact⟨h1,h2.later (by simp[aa6,aa9])⟩
 |db aR=>exact⟨_,_,by rw[hl],.inl (abf hl)⟩
theorem RA.Hb{b wd i len:Nat}{v:Value}(h:pC (ι (.h b i)) wd len v):RA w ι (.cd b wd i len) v:=by
 rcases h with⟨c,o,s,cc,q,rfl,ql,qs⟩|⟨q,oa,rfl⟩
 ·exact .cd q ql qs
 ·subst q;exact .iC
theorem Alike.O8{ag:Bool}{ks:List CK}{wd i:Nat}{ents:List (PV×List (List PV))}{x:PV}{r0 rows:List (List PV)}(hi:ents[i]? =some (x,r0)):
 Alike (.bF ag ks wd ents none) (.bF ag ks wd (ents.set i (x,rows)) (some i)) i wd rows false:=by
 have aq:i<ents.length:=(aaW.1 hi).1
 refine⟨λj=>?_,λw ι p h=>?_,λw p j v h=>?_,λl r h=>by cases h⟩
 ·simp only[Blk.inner,abd]
  by_cases e:j=i
  ·subst e;simp[aq]
  ·have e':¬i=j:=λh=>e h.symm
   rw[aaR e',aaR e]
   have h1:decide ((some i:Option Nat)=some j)=false:=by simp[e']
   rw[h1]
   simp
 ·obtain⟨c,o,s,h1,es,h2,h3,h4⟩:=h
  refine⟨c,o,s,h1,es,by simpa using h2,by simpa using h3,λj k rs hj=>?_⟩
  rw[abd]at hj
  by_cases e:i=j
  ·subst e
   rw[aaS rfl,aaS aq]at hj
   cases hj
   exact h4 i x r0 hi
  ·rw[aaR e]at hj;exact h4 j k rs hj
 ·obtain⟨c,o,s,es,e,h1,h2,h3⟩:=h
  exact⟨c,o,s,es,e,h1,by simpa using h2,h3⟩
theorem Hc(hr:Rel cx ι st a w){o:Oper}{s x:Operand}{s' x':aS}{sT xT e:TypeId}{esz bytes:Nat}{z:List PV}{c:Call}(ho:o.op=.call c)(eY:c.callee=.builtin .append)
 (cV:c.args= #[s,x]) (kO:c.argTypes= #[sT,xT])
 (hu:cx.P.underlying sT=some (.slice e)) (kR:(∃e',cx.P.underlying xT=some (.slice e'))∨cx.P.underlying xT=some .string) (hs:bI cx.P e=some esz) (hb:qQ cx.P e=some bytes)
 (hz:zeroT cx.P e=some z) (nF:z.length=esz) (ji:0<bytes) (ZO:0<esz) (dB:cOpd s=some s') (B4:cOpd x=some x') (hd:∀t,o.dst=some t→cx.bw t=true)
 {k:St→Prop} (h:iB cx.E false (.app s' x' esz bytes) o.dst st k) {Q:Exit→Act→World→Prop}:o.wp cx.P a w (Kc cx k) Q:=by
 have fj:=bt hr.mem.hr.gl hr.tm dB
 have bN:=bt hr.mem.hr.gl hr.tm B4
 have h:vapp cx.E st (ev st s') (ev st x') esz bytes o.dst k:=dj (k:=λx=>vapp cx.E st (ev st s') x esz bytes o.dst k) (dj (k:=λs=>force (ev st x') λx=>vapp cx.E st s x esz bytes o.dst k) h)
 generalize ev st s'=as at h fj
 generalize ev st x'=ax at h bN
 have run:∀v w',(Builtin.append_ #[sT,xT] o.type #[a.eval s,a.eval x]).run cx.P w=.ok v w'→(execOp a.eval o).run cx.P w=.ok (.value v) w':=λv w' h1=>by
  simp[execOp,ho,resolve,eY,cV,kO,invoke,builtin,h1]
 generalize Hd:a.eval s=vs at fj run
 generalize hex:a.eval x=vx at bN run
 have grow:∀(old:List Value) (yx bz:List (List PV)) (new:List Value) (base:Option Addr) (sLen sCap:Nat),vs=.slice base sLen sCap→
  jh w ι.M esz yx old→yx.length=sLen→(∀w',Ext w w'→(Builtin.firstCells esz sLen (.slice base sLen sCap)).run cx.P w'=.ok old.toArray w')→Src w ι.M vx esz bz new→
  sCap<sLen+bz.length→(sLen+bz.length)*bytes≤cL→
  ∃(w':World) (cs:Array Value) (cap:Nat),w'.heap=w.heap.push (.cells cs e (0,0))∧(w'.os=w.os∧w'.output=w.output)∧fE w ι cs 0 (.pr esz (yx++bz))∧
   sLen+bz.length≤cap∧cap*esz=cs.size∧(execOp a.eval o).run cx.P w=.ok (.value (.slice (some ⟨w.heap.size,0,none⟩) (sLen+bz.length) cap)) w':=by
  intro old yx bz new base sLen sCap c5 hold rh O9 b5 iI gO
  subst c5
  have dS:=b5.eZ.1
  obtain⟨w',cap,rest,h1,h2,h3,h4,h5⟩:=B3 (w:=w) (ty:=o.type) (base:=base) hu kR hs hb hz nF ji (λw'=>b5.len cx.P w') O9 (by rw[hold.1,rh])
   (λw' bQ=>by have:=b5.first cx.P bz.length w' (aaV _) bQ;rwa [←dS,abi]at this) dS iI gO
  refine⟨w',_,cap,h2,h3,?_,h1,by rw[adn];exact h4.symm,run _ _ h5⟩
  exact(hold.append b5.eZ).blk rest
 have place:∀(q:Option (Nat×Nat×Nat)) (len:Nat) (rows bz:List (List PV)) (new:List Value),pC q esz len vs→RB w ι q (.pr esz rows)→rows.length=len→Src w ι.M vx esz bz new→(len+bz.length)*bytes≤cL→
  ∃(w':World) (q':Option (Nat×Nat×Nat)) (c:Nat) (pU:Value),(execOp a.eval o).run cx.P w=.ok (.value pU) w'∧((∃o s,q=some (c,o,s))∨w.heap.size≤c)∧(∀c' o s,q'=some (c',o,s)→c'=c)∧
   (∀(d:Nat) (x:Obj),d≠c→w.heap[d]? =some x→w'.heap[d]? =some x)∧w.heap.size≤w'.heap.size∧(w'.os=w.os∧w'.output=w.output)∧
   (∀aC:az,bc ι.M w w' aC.M→RB w' aC q' (.pr esz (rows++bz)))∧pC q' esz (len+bz.length) pU:=by
  intro q len rows bz new nD bq hlen b5 gO
  have dC:oo w ι.M vs esz rows:=by
   rcases nD with⟨c,o',s,cc,rfl,rfl,hl,bU⟩|⟨h0,oa,rfl⟩
   ·refine⟨_,_,by rw[hlen],.inr ⟨_,rfl,rfl,λn row hi=>?_⟩⟩
    rcases bq with⟨h0,_⟩|⟨c',o2,s',cs,ty,fz,he,h1,hf,h2,h3,h4,h5⟩
    ·cases h0
    cases he
    refine⟨h4 n row hi,λj x hx=>?_⟩
    obtain⟨h6,v,h7,h8⟩:=h5 n row j x hi hx
    exact⟨h6,v,by rw[cell_of h1];simpa [aa9]using h7,h8⟩
   ·exact⟨_,_,by rw[hlen,h0],.inl (abf (by omega))⟩
  obtain⟨old,kS⟩:=dC.src
  obtain⟨base,sCap,c5,vj⟩:∃base sCap,vs=.slice base len sCap∧len≤sCap:=by
   rcases nD with⟨c,o',s,cc,_,h1,hl,_⟩|⟨h0,oa,h1⟩
   ·exact⟨_,_,h1,hl⟩
   ·exact⟨_,0,by rw[h1,h0],by omega⟩
  by_cases iI:len+bz.length≤sCap
  ·have aT:=s7 (w:=w) (ty:=o.type) (base:=base) (sLen:=len) (sCap:=sCap) hu kR hs (λw'=>b5.len cx.P w')
    (λw' bQ=>by have:=b5.first cx.P bz.length w' (aaV _) bQ;rw[←b5.eZ.1,abi]at this;exact this) iI
   rcases nD with⟨c,o',s,cc,rfl,h1,hl,bU⟩|⟨h0,oa,h1⟩
   ·rw[h1]at c5;cases c5
    rcases bq with⟨h0,_⟩|⟨c',o2,s',cs,ty,fz,he,hc,ht,bM,ri,ct,bn⟩
    ·cases h0
    cases he
    have hmul:(len+bz.length)*esz≤sCap*esz:=abz _ iI
    have O_:(len+bz.length)*esz=len*esz+bz.length*esz:=aa6 ..
    have dS:=b5.eZ.1
    have hbound:o'+len*esz+new.length≤cs.size:=by omega
    have aU:=nA (P:=cx.P) c (o'+len*esz) ty fz new 0 cs w hc (by omega) ht b5.eZ.one
    simp only[Nat.add_zero]at aU
    have fR:(execOp a.eval o).run cx.P w=.ok (.value (.slice (some ⟨c,o',none⟩) (len+bz.length) sCap)) (bB w c (.cells (dE cs (o'+len*esz) new) ty fz)):=by
     apply run
     rw[h1,aT]
     simp only[gK,aU]
     rfl
    refine⟨_,some (c,o',s),c,_,fR,.inl ⟨_,_,rfl⟩,λc' o s h=>by cases h;rfl,λd z gk hz=>by rw[fg _ _ gk];exact hz,by simp[bB],⟨rfl,rfl⟩,λaC hL=>?_,.inl ⟨c,o',s,sCap,rfl,rfl,iI,bU⟩⟩
    refine .inr ⟨c,o',s,_,ty,fz,rfl,iH w c _ (aa8.1 hc).1,by rw[eN _ _ _ hbound];exact ht,by rw[eN _ _ _ hbound];exact bM,?_,λn r aV=>?_,λn r j z aV hz=>?_⟩
    ·rw[aa7,hlen];omega
    ·rw[abI]at aV
     split at aV
     ·exact ct _ _ aV
     ·exact b5.eZ.2.1 _ _ aV
    ·rw[my _ _ _ hbound]
     rw[abI,hlen]at aV
     split at aV
     ·rename_i aq
      have hj:j<esz:=by rw[←ct _ _ aV];exact(aaW.1 hz).1
      have:=q_ aq hj
      rw[aaR (by omega)]
      obtain⟨g1,u,g2,g3⟩:=bn _ _ j z aV hz
      exact⟨g1,u,g2,g3.later hL⟩
     ·rename_i dH
      obtain⟨g1,u,g2,g3⟩:=b5.eZ.2.2 _ _ j z aV hz
      have aq:=(aaW.1 g2).1
      have e3:n*esz=len*esz+(n - len)*esz:=by rw[←aa6];congr 1;omega
      rw[aaS (by omega)]
      exact⟨g1,u,by rw[←g2];congr 1;omega,g3.later hL⟩
   ·rw[h1]at c5
    cases c5
    have hm:bz=[]:=abf (by omega)
    subst hm
    have gy:rows=[]:=abf hlen
    have B5:new=[]:=abf (by rw[b5.eZ.1];simp)
    subst B5
    have fR:(execOp a.eval o).run cx.P w=.ok (.value (.slice base 0 0)) w:=by
     apply run
     rw[h1,aT]
     cases base with
     |none=>rfl
     |some ad=>simp[storeCells]
    exact⟨w,none,w.heap.size,_,fR,.inr (aaV _),by simp,λ_ _ _ h=>h,aaV _,⟨rfl,rfl⟩,λaC _=>.inl ⟨rfl,by rw[gy];rfl⟩,.inr ⟨rfl,_,rfl⟩⟩
  ·obtain⟨w',cs,cap,h1,h2,h3,h4,h5,h6⟩:=grow old rows bz new base len sCap c5 kS.eZ hlen (λw' bQ=>by
    have:=kS.first cx.P len w' (by omega) bQ
    rw[←hlen,←kS.eZ.1,abi,c5]at this
    rw[hlen]at this;exact this) b5 (by omega) gO
   have jg:w'.heap[w.heap.size]? =some (.cells cs e (0,0)):=by rw[h1];exact nv w _
   have hold:∀(d:Nat) (x:Obj),w.heap[d]? =some x→w'.heap[d]? =some x:=λd x hx=>by rw[h1];exact j8 w _ d x hx
   exact⟨w',some (w.heap.size,0,cs.size),w.heap.size,_,h6,.inr (aaV _),λc' o s h=>by cases h;rfl,λd z _ hz=>hold d z hz,Ext.size hold,h2,
    λaC hL=>(h3.kL hL).rb jg (λo _ h=>by omega),.inl ⟨w.heap.size,0,cs.size,cap,rfl,rfl,h4,by omega⟩⟩
 have B6:∀{b wi n len:Nat} {w0:Nat} {vG:Option Nat} {cells:List (Bool×List (List PV))} {new:List Value},esz=1→RA w ι (.sl b 1 0 len vG) vs→nth .dead st.heap b=.pn 1 wi cells none→cx.E.fx b=false→
  len=cells.length→(len+n)*bytes≤cL→Src w ι.M vx 1 (List.replicate n [.aw w0 [] (some 0)]) new→
  k ((⟨killT b st.tmps,setNth (killH b st.heap) b (.pn 1 wi (cells++List.replicate n (true,[])) none)⟩:St).put o.dst (.sl b 1 0 (len+n) none))→o.wp cx.P a w (Kc cx k) Q:=by
  intro b wi n len w0 vG cells new Pa fj hn gM hlen gO b5 hk
  subst Pa
  have dS:new.length=n:=by have:=b5.eZ.1;simpa using this
  have eD:∀j,j<n→∃oa,new[j]? =some (.slice oa 0 0):=λj hj=>by
   obtain⟨_,u,g2,g3⟩:=b5.eZ.2.2 j [.aw w0 [] (some 0)] 0 (.aw w0 [] (some 0)) (by rw[acd,aaS hj]) rfl
   obtain⟨oa,c0,hv,_,aR,_⟩:=lF g3
   have:c0=0:=aR 0 rfl
   subst this
   refine⟨oa,?_⟩
   have hv:u=.slice oa 0 0:=by simpa using hv
   rw[←hv,←g2];simp
  have ZP:(Builtin.lenOf vx).run cx.P w=.ok n w:=by have:=b5.len cx.P w;simpa using this
  have oG:∀w',(Builtin.lenOf vx).run cx.P w'=.ok n w':=λw'=>by have:=b5.len cx.P w';simpa using this
  have yy:∀w',Ext w w'→(Builtin.firstCells 1 n vx).run cx.P w'=.ok new.toArray w':=λw' bQ=>by
   have:=b5.first cx.P n w' (by simp) bQ
   rw[ab0,←dS,abi]at this
   rw[←dS];exact this
  have bA:∀v∈new,dQ v=true:=λv hv=>by
   obtain⟨j,hj,rfl⟩:=acI hv
   obtain⟨oa,ho⟩:=eD j (by omega)
   rw[aaU hj]at ho
   have:=adr ho
   show dQ new[j]=true
   rw[this];rfl
  have cut:∀j fl rows,(cells++List.replicate n (true,([]:List (List PV))))[j]? =some (fl,rows)→(j<len∧cells[j]? =some (fl,rows))∨(len≤j∧j<len+n∧fl=true):=λj fl rows hj=>by
   rw[abI]at hj
   split at hj
   ·exact .inl ⟨by omega,hj⟩
   ·rw[acd]at hj
    split at hj
    ·cases hj;exact .inr ⟨by omega,by omega,rfl⟩
    ·cases hj
  have B7:=hr.mem.hr.blk b
  rw[hn]at B7
  obtain⟨w',q',c,pU,aT,hc,hp,dd,cw,dq,B8,dC⟩:∃(w':World) (q':Option (Nat×Nat×Nat)) (c:Nat) (pU:Value),(execOp a.eval o).run cx.P w=.ok (.value pU) w'∧((∃o s,ι (.v b)=some (c,o,s))∨w.heap.size≤c)∧(∀c' o s,q'=some (c',o,s)→c'=c)∧
   (∀(d:Nat) (x:Obj),d≠c→w.heap[d]? =some x→w'.heap[d]? =some x)∧w.heap.size≤w'.heap.size∧(w'.os=w.os∧w'.output=w.output)∧
   ((q'=none∧len+n=0)∨∃c1 o1 s1 cs ty fz,q'=some (c1,o1,s1)∧w'.heap[c1]? =some (.cells cs ty fz)∧kK cs.size fz∧cs.size=s1∧o1+(len+n)≤s1∧
     (∀j,j<len→∀c2 o2 s2,ι (.v b)=some (c2,o2,s2)→cs[o1+j]? =w.cell? ⟨c2,o2+j,none⟩)∧∀j,j<n→cs[o1+(len+j)]? =new[j]?)∧
   ∀aC:az,aC (.v b)=q'→RA w' aC (.sl b 1 0 (len+n) none) pU:=by
   cases fj with
   |db aR=>
    rename_i oa
    have gP:cells=[]:=abf hlen.symm
    by_cases h0:n=0
    ·subst h0
     have oH:new=[]:=abf dS
     have aT:=s7 (w:=w) (ty:=o.type) (base:=oa) (sLen:=0) (sCap:=0) hu kR hs oG yy (aaV _)
     refine⟨w,none,w.heap.size,.slice oa 0 0,run _ _ ?_,.inr (aaV _),by simp,λ_ _ _ h=>h,aaV _,⟨rfl,rfl⟩,.inl ⟨rfl,rfl⟩,λaC _=>.db (by simp)⟩
     rw[aT,oH]
     cases oa with
     |none=>rfl
     |some ad=>simp[storeCells]
    ·obtain⟨w',cap,rest,g1,g2,g3,g4,g5⟩:=B3 (w:=w) (ty:=o.type) (base:=oa) (sLen:=0) (sCap:=0) (old:=[]) hu kR hs hb hz nF ji oG (λw' _=>by cases oa<;>simp[Builtin.firstCells,loadCells,loadCellsFrom]) (by simp) yy (by omega) (by omega) (by simpa using gO)
     have jg:w'.heap[w.heap.size]? =some (.cells (([]++new++rest).toArray) e (0,0)):=by rw[g2];exact nv w _
     have hold:∀(d:Nat) (x:Obj),w.heap[d]? =some x→w'.heap[d]? =some x:=λd x hx=>by rw[g2];exact j8 w _ d x hx
     refine⟨w',some (w.heap.size,0,cap),w.heap.size,_,run _ _ g5,.inr (aaV _),λc' o s h=>by cases h;rfl,λd z _ hz=>hold d z hz,Ext.size hold,g3,.inr ⟨_,_,_,_,_,_,rfl,jg,λo _ h=>by omega,by simpa using g4,by omega,λj hj=>by omega,λj hj=>?_⟩,λaC vH=>?_⟩
     ·simp only[aaX,List.nil_append,ab8]
      rw[abm (by omega)]
     ·have:=RA.sl (w:=w') (wd:=1) (i:=0) (len:=0+n) (cc:=cap) (cap:=none) vH g1 (by simp) (by simp)
      simpa using this
   |sl gZ hl aR bU=>
    rename_i c o' s sCap
    rw[gZ]at B7
    rcases B7 with⟨h0,_⟩|⟨c',o2,s2,cs,ty,fz,he,hc,ht,bM,hle,bn⟩
    ·cases h0
    cases he
    by_cases iI:len+n≤sCap
    ·have aT:=s7 (w:=w) (ty:=o.type) (base:=some ⟨c,o'+0*1,none⟩) (sLen:=len) (sCap:=sCap) hu kR hs oG yy iI
     have hbound:o'+len+new.length≤cs.size:=by omega
     have aU:=nA (P:=cx.P) c (o'+len) ty fz new 0 cs w hc (by omega) ht bA
     simp only[Nat.add_zero]at aU
     have kc:=iH w c (.cells (dE cs (o'+len) new) ty fz) (aa8.1 hc).1
     refine⟨bB w c (.cells (dE cs (o'+len) new) ty fz),some (c,o',s),c,.slice (some ⟨c,o'+0*1,none⟩) (len+n) sCap,run _ _ ?_,.inl ⟨_,_,gZ⟩,λc' o s h=>by cases h;rfl,λd z gk hz=>by rw[fg _ _ gk];exact hz,by simp[bB],⟨rfl,rfl⟩,
      .inr ⟨c,o',s,_,ty,fz,rfl,kc,by rw[eN _ _ _ hbound];exact ht,by rw[eN _ _ _ hbound];exact bM,by omega,λj hj c2 o2 s2 h2=>?_,λj hj=>?_⟩,λaC vH=>.sl vH iI (by simp) bU⟩
     ·rw[aT]
      simp only[ab0,Nat.add_zero,gK,aU]
      rfl
     ·rw[gZ]at h2;cases h2
      rw[cell_of hc,my _ _ _ hbound,aaR (by omega)]
     ·rw[my _ _ _ hbound,aaS (by omega)]
      congr 1;omega
    ·obtain⟨w',cap,rest,g1,g2,g3,g4,g5⟩:=B3 (w:=w) (ty:=o.type) (base:=some ⟨c,o'+0*1,none⟩) (sLen:=len) (sCap:=sCap) (old:=(List.range len).map λm=>(w.cell? ⟨c,o'+m,none⟩).getD undef) hu kR hs hb hz nF ji oG (λw' bQ=>by
      simp only[Builtin.firstCells,ab0,Nat.add_zero]
      exact run_loadCells (P:=cx.P) w' ⟨c,o',none⟩ len (λm=>(w.cell? ⟨c,o'+m,none⟩).getD undef) (λm hm=>by
       have aq:o'+m<cs.size:=by omega
       have:w.cell? ⟨c,o'+m,none⟩=some cs[o'+m]:=by rw[cell_of hc];exact abu aq
       rw[gK,bQ.cell this,this];rfl)) (by simp) yy (by omega) (by omega) gO
     have jg:=nv w (.cells (((List.range len).map λm=>(w.cell? ⟨c,o'+m,none⟩).getD undef)++new++rest).toArray e (0,0))
     have jg:w'.heap[w.heap.size]? =some (.cells (((List.range len).map λm=>(w.cell? ⟨c,o'+m,none⟩).getD undef)++new++rest).toArray e (0,0)):=by rw[g2];exact jg
     have hold:∀(d:Nat) (x:Obj),w.heap[d]? =some x→w'.heap[d]? =some x:=λd x hx=>by rw[g2];exact j8 w _ d x hx
     refine⟨w',some (w.heap.size,0,cap),w.heap.size,_,run _ _ g5,.inr (aaV _),λc' o s h=>by cases h;rfl,λd z _ hz=>hold d z hz,Ext.size hold,g3,.inr ⟨_,_,_,_,_,_,rfl,jg,λo _ h=>by omega,by simpa using g4,by omega,λj hj c2 o2 s2 h2=>?_,λj hj=>?_⟩,λaC vH=>?_⟩
     ·rw[gZ]at h2;cases h2
      have aq:o'+j<cs.size:=by omega
      have:w.cell? ⟨c,o'+j,none⟩=some cs[o'+j]:=by rw[cell_of hc];exact abu aq
      simp only[aaX,ab8]
      rw[abv,abm (by simpa using hj),aaY,abC hj]
      simp[this]
     ·simp only[aaX,ab8]
      rw[abv,abq (by simp),abm (by simp;omega)]
      congr 1;simp
     ·have:=RA.sl (w:=w') (wd:=1) (i:=0) (len:=len+n) (cc:=cap) (cap:=none) vH g1 (by simp) (by simp)
      simpa using this
  have Pb:∀j fl rows,j<len→cells[j]? =some (fl,rows)→∃c2 o2 s2 v,ι (.v b)=some (c2,o2,s2)∧w.cell? ⟨c2,o2+j,none⟩=some v∧dQ v=true∧(fl=false→RP w ι.M (.aw wi rows (some rows.length)) v):=λj fl rows hj hx=>by
   have h0:=hr.mem.hr.blk b
   rw[hn]at h0
   rcases h0 with⟨_,h0⟩|⟨c2,o2,s2,cs,ty,fz,he,h1,_,_,_,h4⟩
   ·rw[h0]at hx;cases hx
   ·obtain⟨v,v1,v2,v3⟩:=h4 j fl rows hx
    exact⟨c2,o2,s2,v,he,by rw[cell_of h1];exact v1,v2,v3⟩
  have fe:∀i,i<cells.length→∃fl rows,cells[i]? =some (fl,rows):=λi hi=>⟨_,_,aaU hi⟩
  obtain⟨hm,hL⟩:=hr.mem.outer (n:=n) hn gM hc hp dd cw dq (λhL=>by
   rcases B8 with⟨h1,h2⟩|⟨c1,o1,s1,cs,ty,fz,h1,h2,h3,h4,h5,h6,h7⟩
   ·refine .inl ⟨h1,?_⟩
    have oH:n=0:=by omega
    have gP:cells=[]:=abf (by omega)
    rw[oH,gP];rfl
   ·refine .inr ⟨c1,o1,s1,cs,ty,fz,h1,h2,h3,h4,by simp only[aa7,acU];omega,λj fl rows hj=>?_⟩
    rcases cut j fl rows hj with⟨h8,h9⟩|⟨h8,h9,kd⟩
    ·obtain⟨c2,o2,s2,v,v1,v2,v3,v4⟩:=Pb j fl rows h8 h9
     exact⟨v,by rw[h6 j h8 _ _ _ v1];exact v2,v3,λh=>(v4 h).later hL⟩
    ·obtain⟨oa,ho⟩:=eD (j - len) (by omega)
     refine⟨.slice oa 0 0,?_,rfl,λh=>by rw[kd]at h;cases h⟩
     have:=h7 (j - len) (by omega)
     rw[ho,show len+(j - len)=j by omega]at this
     exact this) (λi v hi hv=>by
   rcases B8 with⟨h1,h2⟩|⟨c1,o1,s1,cs,ty,fz,h1,h2,h3,h4,h5,h6,h7⟩
   ·omega
   ·obtain⟨c2,o2,s2,v1,v2⟩:=hv
    exact⟨c1,o1,s1,h1,by rw[cell_of h2,h6 i (by omega) _ _ _ v1];exact v2⟩) (λi yv ZQ=>by
   rcases B8 with⟨h1,h2⟩|⟨c1,o1,s1,cs,ty,fz,h1,h2,h3,h4,h5,h6,h7⟩
   ·omega
   ·obtain⟨oa,ho⟩:=eD (i - len) (by omega)
    have:=h7 (i - len) (by omega)
    rw[ho,show len+(i - len)=i by omega]at this
    exact⟨oa,c1,o1,s1,h1,by rw[cell_of h2];exact this⟩)
  have bh:∀b',(Bn.v b).hit b'=false→∀p,ι b'=some p→(ι.j_ b q') b'=some p:=λb' e p hq=>by
   rw[az.q7 _ _ (λe2=>Bn.oh e (by rw[e2];rfl))];exact hq
  exact dO aT ⟨_,_,Rel.put (st:=⟨killT b st.tmps,setNth (killH b st.heap) b (.pn 1 wi (cells++List.replicate n (true,[])) none)⟩) ⟨hm,oC hL bh hr.tm,hr.sz,hr.df⟩ hd (dC _ (az.ym _ _ _)),hk⟩
 unfold vapp at h
 split at h
 ·
  rename_i wd
  obtain⟨bz,new,⟨gO,hk⟩,b5⟩:=oF hr.mem.hr bN h
  obtain⟨oa,c0,c5,hc,aR,_⟩:=lF (gW fj)
  have gP:c0=0:=aR 0 rfl
  subst gP
  simp only[List.length_nil]at c5
  by_cases hm:bz.length=0
  ·
   have oI:bz=[]:=abf hm
   subst oI
   have aT:=s7 (w:=w) (ty:=o.type) (base:=oa) (sLen:=0) (sCap:=0) hu kR hs (λw'=>b5.len cx.P w') (λw' bQ=>b5.first cx.P 0 w' (aaV _) bQ) (by simp)
   have fR:(execOp a.eval o).run cx.P w=.ok (.value (.slice oa 0 0)) w:=by
    apply run
    rw[c5,aT]
    cases oa with
    |none=>rfl
    |some ad=>simp[storeCells]
   refine dO fR ⟨ι,iX st o.dst (.sl st.heap.length esz 0 0 none) (.pr esz []),⟨?_,sJ (st:=⟨st.tmps,st.heap++[Blk.pr esz []]⟩) hr.tm hr.sz.1 (λt ht=>cx.eI t (hd t ht)) (RA.db (b:=st.heap.length) (wd:=esz) (i:=0) (cap:=none) (oa:=oa) (by simp)),Sz.put hr.sz hd _,by rw[Act.sI];exact hr.df⟩,hk⟩
   rw[iX,pE]
   have Pc:ι st.heap.length=none:=by
    cases hq:ι st.heap.length with
    |none=>rfl
    |some q=>
     obtain⟨c',o',s'⟩:=q
     obtain⟨ob,_,hd⟩:=hr.mem.hr.size hq
     exact absurd (hr.mem.hr.fO hd) (acm _)
   refine hr.mem.step ⟨hr.mem.hr.gl,λb=>?_,hr.mem.hr.inj,hr.mem.hr.cD,GP hr.mem.hr rfl⟩ (λd x _ h=>h) (λc h=>.inl h) (aaV _) ⟨rfl,rfl⟩ rfl rfl rfl rfl (λ_ _=>rfl)
    (by rw[aa7];exact abg hr.mem.kl (adL _ _)) (λl r hl=>?_)
   ·rw[pD]
    by_cases e:b=st.heap.length
    ·rw[aaS e,e,Pc];exact .inl ⟨rfl,rfl⟩
    ·rw[aaR e];exact hr.mem.hr.blk b
   ·rw[pD]at hl
    split at hl
    ·cases hl
    ·exact hl
  ·obtain⟨w',cs,cap,h1,h2,h3,h4,h5,h6⟩:=grow [] [] bz new oa 0 0 c5 ⟨by simp,by simp,by simp⟩ rfl (λw' _=>by cases oa<;>simp[Builtin.firstCells,loadCells,loadCellsFrom]) b5 (by omega) (by simpa using gO)
   simp only[aaX,List.nil_append]at*
   refine dO h6 (vE (q:=false) hr hd h1 h2 (λo _ h=>by omega) h3 (λbZ h7=>?_) hk).1
   have:=RA.sl (w:=w') (ι:=bZ) (wd:=esz) (i:=0) (len:=bz.length) (cc:=cap) (cap:=none) h7 h4 (by simp) (by simp[h5])
   simpa using this
 ·
  rename_i wd rows c0 bg
  obtain⟨bz,new,⟨⟨iI,gO⟩,hk⟩,b5⟩:=oF hr.mem.hr bN h
  cases hw:Nat.beq wd esz with
  |false=>rw[hw]at hk;exact hk.elim
  |true=>
   rw[hw]at hk
   obtain rfl:=abt hw
   obtain⟨oa,cc,c5,hc,aR,pT⟩:=lF (gW fj)
   have jc:cc=c0:=aR c0 rfl
   subst jc
   have dC:oo w ι.M vs wd rows:=⟨oa,cc,c5,pT.imp id λ⟨ad,h1,h2,h3,h4,h5⟩=>⟨ad,h1,h2,h5⟩⟩
   obtain⟨old,kS⟩:=dC.src
   obtain⟨w',cs,cap,h1,h2,h3,h4,h5,h6⟩:=grow old rows bz new oa rows.length cc c5 kS.eZ rfl (λw' bQ=>by
    have:=kS.first cx.P rows.length w' (aaV _) bQ
    rw[←kS.eZ.1,abi,c5]at this;exact this) b5 iI gO
   refine dO h6 (vE (q:=false) hr hd h1 h2 (λo _ h=>by omega) h3 (λbZ h7=>?_) hk).1
   have:=RA.sl (w:=w') (ι:=bZ) (wd:=wd) (i:=0) (len:=rows.length+bz.length) (cc:=cap) (cap:=none) h7 h4 (by simp) (by simp[h5])
   simpa using this
 ·
  rename_i wd rows
  obtain⟨bz,new,⟨oI,hk⟩,b5⟩:=oF hr.mem.hr bN h
  subst oI
  obtain⟨oa,cc,c5,hc,aR,pT⟩:=lF (gW fj)
  have aT:=s7 (w:=w) (ty:=o.type) (base:=oa) (sLen:=rows.length) (sCap:=cc) hu kR hs (λw'=>b5.len cx.P w') (λw' bQ=>b5.first cx.P 0 w' (aaV _) bQ) (by simpa using hc)
  have fR:(execOp a.eval o).run cx.P w=.ok (.value vs) w:=by
   apply run
   rw[c5,aT]
   cases oa with
   |none=>rfl
   |some ad=>simp[storeCells]
  exact dO fR ⟨ι,_,hr.put hd fj,hk⟩
 ·rename_i b wd i len vG
  split at h
  ·rename_i b8 rows hn
   cases hw:(Nat.beq wd b8&&Nat.beq wd esz&&!cx.E.fx b)with
   |false=>rw[hw]at h;exact h.elim
   |true=>
    rw[hw]at h
    simp only[cond_true]at h
    obtain⟨⟨e1,e2⟩,gM⟩:=by simpa using hw
    subst e1;subst e2
    obtain⟨bz,new,⟨B9,gO,hk⟩,b5⟩:=oF hr.mem.hr bN h
    rw[nh]at hk
    have h_:b<st.heap.length:=hr.mem.hr.fO (by rw[hn];simp)
    have dC:=O7 hr.mem.hr fj hn (by omega)
    have Pd:(rows.drop i).take len=rows.drop i:=ab6 (by simp;omega)
    rw[Pd]at dC
    have hlen:(rows.drop i).length=len:=by simp;omega
    rw[gJ]at hk
    obtain⟨old,kS⟩:=dC.src
    have Pe:∃base sCap,vs=.slice base len sCap∧len≤sCap:=by
     cases fj with
     |sl hb hl aR bU=>exact⟨_,_,rfl,hl⟩
     |db aR=>exact⟨_,_,rfl,aaV _⟩
    obtain⟨base,sCap,c5,vj⟩:=Pe
    by_cases iI:len+bz.length≤sCap
    ·
     have aT:=s7 (w:=w) (ty:=o.type) (base:=base) (sLen:=len) (sCap:=sCap) hu kR hs (λw'=>b5.len cx.P w')
      (λw' bQ=>by have:=b5.first cx.P bz.length w' (aaV _) bQ;rw[←b5.eZ.1,abi]at this;exact this) iI
     cases fj with
     |db aR=>
      cases c5
      have hm:bz=[]:=abf (by omega)
      subst hm
      have He:rows.drop i=[]:=abf hlen
      have B5:new=[]:=abf (by rw[b5.eZ.1];simp)
      subst B5
      have fR:(execOp a.eval o).run cx.P w=.ok (.value (.slice base 0 0)) w:=by
       apply run
       rw[aT]
       cases base with
       |none=>rfl
       |some ad=>simp[storeCells]
      obtain⟨hm,hL⟩:=hr.mem.mq (w':=w) h_ gM (p:=none) (blk:=.pr wd (rows.drop i++[])) (c:=w.heap.size) (.inr (aaV _)) (by simp) (λ_ _ _ h=>h) (aaV _) ⟨rfl,rfl⟩
       (λ_=>.inl ⟨rfl,by rw[He];rfl⟩)
      have bh:∀b',(Bn.v b).hit b'=false→∀q,ι b'=some q→(ι.cF b none) b'=some q:=λb' e q hq=>by rw[az.gL _ _ (Bn.oh e)];exact hq
      exact dO fR ⟨_,_,Rel.put (st:=⟨killT b st.tmps,setNth (killH b st.heap) b (.pr wd (rows.drop i++[]))⟩) ⟨hm,oC hL bh hr.tm,hr.sz,hr.df⟩ hd (.db (cap:=none) (by simp)),hk⟩
     |sl hb hl aR bU=>
      rename_i c o' s cc
      cases c5
      have bq:=hr.mem.hr.blk b
      rw[hn,hb]at bq
      obtain⟨cs,ty,fz,hc,ht,bM,ri,ct,bn⟩:=bq.at
      have hmul:(i+(len+bz.length))*wd≤(i+sCap)*wd:=abz _ (by omega)
      have O_:(i+(len+bz.length))*wd=i*wd+len*wd+bz.length*wd:=by rw[aa6,aa6,aa9]
      have dS:=b5.eZ.1
      have hbound:o'+i*wd+len*wd+new.length≤cs.size:=by omega
      have aU:=nA (P:=cx.P) c (o'+i*wd+len*wd) ty fz new 0 cs w hc (by omega) ht b5.eZ.one
      simp only[Nat.add_zero]at aU
      have fR:(execOp a.eval o).run cx.P w=.ok (.value (.slice (some ⟨c,o'+i*wd,none⟩) (len+bz.length) sCap)) (bB w c (.cells (dE cs (o'+i*wd+len*wd) new) ty fz)):=by
       apply run
       rw[aT]
       simp only[gK,aU]
       rfl
      have hblk:fE w ι (dE cs (o'+i*wd+len*wd) new) (o'+i*wd) (.pr wd (rows.drop i++bz)):=by
       refine⟨?_,λn r aV=>?_,λn r j z aV hz=>?_⟩
       ·rw[eN _ _ _ hbound,aa7,hlen,aa6];omega
       ·rw[abI]at aV
        split at aV
        ·rw[abJ]at aV;exact ct _ _ aV
        ·exact b5.eZ.2.1 _ _ aV
       ·rw[my _ _ _ hbound]
        rw[abI,hlen]at aV
        split at aV
        ·rename_i aq
         rw[abJ]at aV
         have hj:j<wd:=by rw[←ct _ _ aV];exact(aaW.1 hz).1
         have:=q_ aq hj
         rw[aaR (by omega)]
         obtain⟨g1,u,g2,g3⟩:=bn _ _ j z aV hz
         exact⟨g1,u,by rw[←g2];congr 1;rw[aa6];omega,g3⟩
        ·rename_i dH
         obtain⟨g1,u,g2,g3⟩:=b5.eZ.2.2 _ _ j z aV hz
         have aq:=(aaW.1 g2).1
         have e3:n*wd=len*wd+(n - len)*wd:=by rw[←aa6];congr 1;omega
         rw[aaS (by omega)]
         exact⟨g1,u,by rw[←g2];congr 1;omega,g3⟩
      obtain⟨hm,hL⟩:=hr.mem.mq (w':=bB w c (.cells (dE cs (o'+i*wd+len*wd) new) ty fz)) h_ gM (p:=some (c,o'+i*wd,s)) (blk:=.pr wd (rows.drop i++bz)) (c:=c)
       (.inl ⟨o',s,hb⟩) (λc' o2 s2 h=>by cases h;rfl) (λd z gk hz=>by rw[fg _ _ gk];exact hz) (by simp[bB]) ⟨rfl,rfl⟩
       (λhL=>by
        have:=(hblk.kL hL).rb (ty:=ty) (fz:=fz) (iH w c _ (aa8.1 hc).1) (by rw[eN _ _ _ hbound];exact ht)
        rw[eN _ _ _ hbound,bM]at this
        exact this)
      have bh:∀b',(Bn.v b).hit b'=false→∀q,ι b'=some q→(ι.cF b (some (c,o'+i*wd,s))) b'=some q:=λb' e q hq=>by rw[az.gL _ _ (Bn.oh e)];exact hq
      refine dO fR ⟨_,_,Rel.put (st:=⟨killT b st.tmps,setNth (killH b st.heap) b (.pr wd (rows.drop i++bz))⟩) ⟨hm,oC hL bh hr.tm,hr.sz,hr.df⟩ hd ?_,hk⟩
      have:=RA.sl (w:=bB w c (.cells (dE cs (o'+i*wd+len*wd) new) ty fz)) (ι:=ι.cF b (some (c,o'+i*wd,s))) (wd:=wd) (i:=0) (len:=len+bz.length) (cc:=sCap) (cap:=none)
       (az.oz _ _ _) iI (by simp) (by rw[aaX];rw[aa6]at bU;omega)
      simpa using this
    ·
     obtain⟨w',cs,cap,h1,h2,h3,h4,h5,h6⟩:=grow old (rows.drop i) bz new base len sCap c5 kS.eZ hlen (λw' bQ=>by
      have:=kS.first cx.P len w' (by omega) bQ
      rw[←hlen,←kS.eZ.1,abi,c5]at this
      rw[hlen]at this;exact this) b5 (by omega) gO
     have jg:w'.heap[w.heap.size]? =some (.cells cs e (0,0)):=by rw[h1];exact nv w _
     have hold:∀(d:Nat) (x:Obj),w.heap[d]? =some x→w'.heap[d]? =some x:=λd x hx=>by rw[h1];exact j8 w _ d x hx
     obtain⟨hm,hL⟩:=hr.mem.mq (w':=w') h_ gM (p:=some (w.heap.size,0,cs.size)) (blk:=.pr wd (rows.drop i++bz)) (c:=w.heap.size)
      (.inr (aaV _)) (λc' o2 s2 h=>by cases h;rfl) (λd z _ hz=>hold d z hz) (Ext.size hold) h2
      (λhL=>(h3.kL hL).rb jg (λo _ h=>by omega))
     have bh:∀b',(Bn.v b).hit b'=false→∀q,ι b'=some q→(ι.cF b (some (w.heap.size,0,cs.size))) b'=some q:=λb' e q hq=>by rw[az.gL _ _ (Bn.oh e)];exact hq
     refine dO h6 ⟨_,_,Rel.put (st:=⟨killT b st.tmps,setNth (killH b st.heap) b (.pr wd (rows.drop i++bz))⟩) ⟨hm,oC hL bh hr.tm,hr.sz,hr.df⟩ hd ?_,hk⟩
     have:=RA.sl (w:=w') (ι:=ι.cF b (some (w.heap.size,0,cs.size))) (wd:=wd) (i:=0) (len:=len+bz.length) (cc:=cap) (cap:=none)
      (az.oz _ _ _) h4 (by simp) (by simp[h5])
     simpa using this
  ·rename_i wo wi cells op hn
   cases hw:(Nat.beq wd wo&&Nat.beq wo esz&&Nat.beq esz 1&&!cx.E.fx b)with
   |false=>rw[hw]at h;exact h.elim
   |true=>
    rw[hw]at h
    obtain⟨⟨⟨e1,e2⟩,e3⟩,gM⟩:=by simpa using hw
    subst e1;subst e2
    simp only[cond_true]at h
    obtain⟨bz,new,⟨n,w0,rfl,⟨rfl,rfl,hlen,gO⟩,hk⟩,b5⟩:=oF hr.mem.hr bN h
    rw[nh]at hk
    subst e3
    exact B6 rfl fj hn gM hlen gO b5 hk
  ·exact h.elim
 ·rename_i b wd i len
  have nD:=fj.sY.2.2
  split at h
  ·rename_i wo b8 cells op hn
   cases hw:(Nat.beq wd b8&&Nat.beq wd esz)with
   |false=>rw[hw]at h;exact h.elim
   |true=>
    rw[hw]at h
    obtain⟨e1,e2⟩:=by simpa using hw
    subst e1;subst e2
    simp only[cond_true]at h
    obtain⟨bz,new,⟨rows,hi,⟨rfl,hlen,gO⟩,hk⟩,b5⟩:=oF hr.mem.hr bN h
    rw[nh]at hk
    have h_:b<st.heap.length:=hr.mem.hr.fO (by rw[hn];simp)
    have aq:i<cells.length:=(aaW.1 hi).1
    have h0:=hr.mem.hr.hid b i
    unfold HB at h0
    rw[hn]at h0
    simp only[Blk.inner,hi]at h0
    obtain⟨w',q',c',pU,aT,hc,hp,dd,cw,dq,bq,B_⟩:=place _ len rows bz new nD h0.1 hlen b5 gO
    obtain⟨hm,hL⟩:=hr.mem.inner (b:=b) (i:=i) h_ (rows':=rows++bz) (blk:=.pn wo wd (cells.set i (true,rows++bz)) (some i)) (by rw[hn];exact Alike.pn aq (.inl rfl) rfl) hc hp dd cw dq (λhL=>bq _ hL)
    have bh:∀b',(Bn.h b i).hit b'=false→∀p,ι b'=some p→(ι.gw b i q') b'=some p:=λb' e p hq=>by rw[az.oA _ _ (Bn.yk e)];exact hq
    exact dO aT ⟨_,_,Rel.put (st:=⟨killT (.h b i) st.tmps,setNth (killH (.h b i) st.heap) b (.pn wo wd (cells.set i (true,rows++bz)) (some i))⟩) ⟨hm,oC hL bh hr.tm,hr.sz,hr.df⟩ hd (RA.Hb (by rw[az.vw];exact B_)),hk⟩
  ·rename_i ag ks b8 ents op hn
   cases hw:(Nat.beq wd b8&&Nat.beq wd esz)with
   |false=>rw[hw]at h;exact h.elim
   |true=>
    rw[hw]at h
    obtain⟨e1,e2⟩:=by simpa using hw
    subst e1;subst e2
    simp only[cond_true]at h
    obtain⟨bz,new,⟨y,rows,hi,⟨rfl,hlen,gO⟩,hk⟩,b5⟩:=oF hr.mem.hr bN h
    rw[nh]at hk
    have h_:b<st.heap.length:=hr.mem.hr.fO (by rw[hn];simp)
    have h0:=hr.mem.hr.hid b i
    unfold HB at h0
    rw[hn]at h0
    simp only[Blk.inner,hi]at h0
    obtain⟨w',q',c',pU,aT,hc,hp,dd,cw,dq,bq,B_⟩:=place _ len rows bz new nD h0.1 hlen b5 gO
    obtain⟨hm,hL⟩:=hr.mem.inner (b:=b) (i:=i) h_ (rows':=rows++bz) (blk:=.bF ag ks wd (ents.set i (y,rows++bz)) (some i)) (by rw[hn];exact Alike.O8 hi) hc hp dd cw dq (λhL=>bq _ hL)
    have bh:∀b',(Bn.h b i).hit b'=false→∀p,ι b'=some p→(ι.gw b i q') b'=some p:=λb' e p hq=>by rw[az.oA _ _ (Bn.yk e)];exact hq
    exact dO aT ⟨_,_,Rel.put (st:=⟨killT (.h b i) st.tmps,setNth (killH (.h b i) st.heap) b (.bF ag ks wd (ents.set i (y,rows++bz)) (some i))⟩) ⟨hm,oC hL bh hr.tm,hr.sz,hr.df⟩ hd (RA.Hb (by rw[az.vw];exact B_)),hk⟩
  ·exact h.elim
 ·exact h.elim
end
section
variable {cx:Cx} {ι bX:az} {st:St} {a:Act} {w:World}
theorem jh.take{M:Nat→Prop}{esz:Nat}{rows:List (List PV)}{vs:List Value}(h:jh w M esz rows vs)(n:Nat)(hn:n≤rows.length):
 jh w M esz (rows.take n) (vs.take (n*esz)):=by
 have hle:=abz esz hn
 refine⟨by rw[abO,abO,h.1,aci hle,aci hn],λi row hi=>?_,λi row j x hi hx=>?_⟩
 ·rw[ab5]at hi
  split at hi
  ·exact h.2.1 _ _ hi
  ·cases hi
 ·rw[ab5]at hi
  split at hi
  ·rename_i aq
   obtain⟨g1,u,g2,g3⟩:=h.2.2 i row j x hi hx
   have hj:j<esz:=by rw[←h.2.1 _ _ hi];exact(aaW.1 hx).1
   exact⟨g1,u,by rw[acy (q_ aq hj)];exact g2,g3⟩
  ·cases hi
theorem yz{P:Program}{dT sT ty e:TypeId}{esz dLen dCap n:Nat}{base:Option Addr}{x:Value}{rows:List (List PV)}{vs:List Value}
 (hu:P.underlying dT=some (.slice e)) (hs:bI P e=some esz) (b5:Src w ι.M x esz rows vs) (hn:n=min rows.length dLen):
 (Builtin.copy_ #[dT,sT] ty #[.slice base dLen dCap,x]).run P w=
  match base with
  |some a=>((storeCells a (vs.take (n*esz))).run P w).andThen λ_ w'=>.ok (goInt n) w'
  |none=>.ok (goInt n) w:=by
 have h5:=b5.first P n w (by omega) (Ext.refl w)
 have gx:Nat.min rows.length dLen=n:=hn.symm
 cases base<;>
  simp only[Builtin.copy_,ab8,List.getElem?_cons_zero,List.getElem?_cons_succ,Sem.run_bind,run_underlying hu,Result.andThen_ok,b5.len,gx,run_sizeOf hs,h5,Sem.run_pure]
theorem Pf(hr:Rel cx ι st a w){o:Oper}{s x:Operand}{s' x':aS}{dT sT e:TypeId}{esz:Nat}{c:Call}(ho:o.op=.call c)(eY:c.callee=.builtin .copy)
 (cV:c.args= #[s,x]) (kO:c.argTypes= #[dT,sT])
 (hu:cx.P.underlying dT=some (.slice e)) (hs:bI cx.P e=some esz) (dB:cOpd s=some s') (B4:cOpd x=some x') (hd:∀t,o.dst=some t→cx.bw t=true)
 {k:St→Prop} (h:iB cx.E false (.copy s' x' esz) o.dst st k) {Q:Exit→Act→World→Prop}:o.wp cx.P a w (Kc cx k) Q:=by
 have fj:=bt hr.mem.hr.gl hr.tm dB
 have bN:=bt hr.mem.hr.gl hr.tm B4
 have h:vcopy st (ev st s') (ev st x') esz o.dst k:=dj (k:=λx=>vcopy st (ev st s') x esz o.dst k) (dj (k:=λs=>force (ev st x') λx=>vcopy st s x esz o.dst k) h)
 generalize ev st s'=as at h fj
 generalize ev st x'=ax at h bN
 have run:∀v w',(Builtin.copy_ #[dT,sT] o.type #[a.eval s,a.eval x]).run cx.P w=.ok v w'→(execOp a.eval o).run cx.P w=.ok (.value v) w':=λv w' h1=>by
  simp[execOp,ho,resolve,eY,cV,kO,invoke,builtin,h1]
 generalize Hd:a.eval s=vs at fj run
 generalize hex:a.eval x=vx at bN run
 unfold vcopy at h
 split at h
 ·rename_i b wd i len vG
  split at h
  ·rename_i b8 rows hn
   cases hw:(Nat.beq wd b8&&Nat.beq wd esz)with
   |false=>rw[hw]at h;exact h.elim
   |true=>
    rw[hw]at h
    simp only[cond_true]at h
    obtain⟨e1,e2⟩:=by simpa using hw
    subst e1;subst e2
    obtain⟨bz,new,⟨B9,hk⟩,b5⟩:=oF hr.mem.hr bN h
    generalize hm:min bz.length len=m at hk
    have eK:(bz.take m).length=m:=by simp;omega
    have ed:=b5.eZ.take m (by omega)
    have mz:=ed.1
    rw[eK]at mz
    cases fj with
    |db aR=>
     rename_i oa
     have gV:m=0:=by omega
     subst gV
     have aT:=yz (w:=w) (ι:=ι) (dT:=dT) (sT:=sT) (ty:=o.type) (base:=oa) (dLen:=0) (dCap:=0) (n:=0) hu hs b5 (by omega)
     have fR:(execOp a.eval o).run cx.P w=.ok (.value (.int .i64 (0:Nat))) w:=by
      apply run
      rw[aT]
      cases oa with
      |none=>rfl
      |some ad=>simp[storeCells,goInt]
     have dd:Mem cx ι (setNth st.heap b (.pr wd (rows.take i++bz.take 0++rows.drop (i+0)))) w:=by
      have:rows.take i++bz.take 0++rows.drop (i+0)=rows:=by simp
      rw[this]
      have:setNth st.heap b (.pr wd rows)=st.heap:=by
       rw[eA]
       apply abw
       intro j
       rw[abd]
       split
       ·rename_i e
        subst e
        rw[iD]at hn
        cases hq:st.heap[b]? with
        |none=>rw[hq]at hn;cases hn
        |some q=>
         rw[hq]at hn
         simp at hn
         subst hn
         simp[(aaW.1 hq).1]
       ·rfl
      rw[this];exact hr.mem
     exact dO fR ⟨ι,_,Rel.put (st:=⟨st.tmps,setNth st.heap b (.pr wd (rows.take i++bz.take 0++rows.drop (i+0)))⟩) ⟨dd,hr.tm,hr.sz,hr.df⟩ hd (.p (.int _ _)),hk⟩
    |sl hb hl aR bU=>
     rename_i c o' s cc
     have bq:=hr.mem.hr.blk b
     rw[hn,hb]at bq
     obtain⟨cs,ty,fz,hc,ht,bM,ri,ct,bn⟩:=bq.at
     have hmul:(i+m)*wd≤rows.length*wd:=abz _ (by omega)
     rw[aa6]at hmul
     have hbound:o'+i*wd+(new.take (m*wd)).length≤cs.size:=by omega
     have aU:=nA (P:=cx.P) c (o'+i*wd) ty fz (new.take (m*wd)) 0 cs w hc (by omega) ht ed.one
     simp only[Nat.add_zero]at aU
     have aT:=yz (w:=w) (ι:=ι) (dT:=dT) (sT:=sT) (ty:=o.type) (base:=some ⟨c,o'+i*wd,none⟩) (dLen:=len) (dCap:=cc) (n:=m) hu hs b5 (by omega)
     have fR:(execOp a.eval o).run cx.P w=.ok (.value (.int .i64 (m:Nat))) (bB w c (.cells (dE cs (o'+i*wd) (new.take (m*wd))) ty fz)):=by
      apply run
      rw[aT]
      simp only[aU]
      rfl
     have hblk:fE w ι (dE cs (o'+i*wd) (new.take (m*wd))) o' (.pr wd (rows.take i++bz.take m++rows.drop (i+m))):=by
      refine⟨?_,λn r aV=>?_,λn r j z aV hz=>?_⟩
      ·rw[eN _ _ _ hbound]
       have:=s5 rows i (bz.take m) (by omega)
       rw[eK]at this
       rw[this];exact ri
      ·have hg:=pR rows i (bz.take m) (by omega) n
       rw[eK]at hg
       rw[hg]at aV
       split at aV
       ·exact ed.2.1 _ _ aV
       ·exact ct _ _ aV
      ·rw[my _ _ _ hbound,mz]
       have hg:=pR rows i (bz.take m) (by omega) n
       rw[eK]at hg
       rw[hg]at aV
       split at aV
       ·rename_i a_
        obtain⟨g1,u,g2,g3⟩:=ed.2.2 _ _ j z aV hz
        have aq:=(aaW.1 g2).1
        have e3:n*wd=i*wd+(n - i)*wd:=by rw[←aa6];congr 1;omega
        rw[aaS (by omega)]
        exact⟨g1,u,by rw[←g2];congr 1;omega,g3⟩
       ·rename_i B6
        have hj:j<wd:=by rw[←ct _ _ aV];exact(aaW.1 hz).1
        rw[aaR]
        ·exact bn n r j z aV hz
        ·rintro ⟨q1,q2⟩
         rcases abL n i with h4|h4
         ·have:=q_ h4 hj;omega
         ·have h5:i+m≤n:=by omega
          have:=abz wd h5
          rw[aa6]at this
          omega
     obtain⟨fS,hL⟩:=hr.mem.write hb (w':=bB w c (.cells (dE cs (o'+i*wd) (new.take (m*wd))) ty fz)) (blk:=.pr wd (rows.take i++bz.take m++rows.drop (i+m)))
      (λd z gk hz=>by rw[fg _ _ gk];exact hz) (by simp[bB]) ⟨rfl,rfl⟩
      (λhL=>by
       have:=(hblk.kL hL).rb (ty:=ty) (fz:=fz) (iH w c _ (aa8.1 hc).1) (by rw[eN _ _ _ hbound];exact ht)
       rw[eN _ _ _ hbound,bM]at this
       exact this) (by rw[hn];rfl)
     exact dO fR ⟨ι,_,Rel.put (st:=⟨st.tmps,setNth st.heap b (.pr wd (rows.take i++bz.take m++rows.drop (i+m)))⟩) ⟨fS,jf hL (λ_ _ h=>h) hr.tm,hr.sz,hr.df⟩ hd (.p (.int _ _)),hk⟩
  ·exact h.elim
 ·rename_i b wd i j e' len
  split at h
  ·rename_i b8 rows hn
   cases hw:(Nat.beq wd b8&&Nat.beq e' esz&&Nat.beq e' 1)with
   |false=>rw[hw]at h;exact h.elim
   |true=>
    rw[hw]at h
    simp only[cond_true]at h
    obtain⟨⟨e1,e2⟩,e3⟩:=by simpa using hw
    subst e1;subst e2;subst e3
    obtain⟨bz,new,⟨row,ys,bm,B9,nC,hk⟩,b5⟩:=oF hr.mem.hr bN h
    generalize hm:min bz.length len=m at hk nC
    have eK:(bz.take m).length=m:=by simp;omega
    have nH:ys.length=m:=by have:=aaT List.length nC;rw[eK]at this;simpa using this.symm
    have ed:=b5.eZ.take m (by omega)
    have mz:(new.take (m*1)).length=m:=by have:=ed.1;rw[eK]at this;omega
    cases fj with
    |i_=>
     rename_i cc oa
     have gV:m=0:=by omega
     subst gV
     have aT:=yz (w:=w) (ι:=ι) (dT:=dT) (sT:=sT) (ty:=o.type) (base:=oa) (dLen:=0) (dCap:=cc) (n:=0) hu hs b5 (by omega)
     have fR:(execOp a.eval o).run cx.P w=.ok (.value (.int .i64 (0:Nat))) w:=by
      apply run
      rw[aT]
      cases oa with
      |none=>rfl
      |some ad=>simp[storeCells,goInt]
     have vI:ys=[]:=abf nH
     subst vI
     have dd:Mem cx ι (setNth st.heap b (.pr wd (rows.set i (row.take j++[]++row.drop (j+0))))) w:=by
      have:row.take j++[]++row.drop (j+0)=row:=by simp
      rw[this]
      have:rows.set i row=rows:=by
       apply abw
       intro n
       rw[abd]
       split
       ·rename_i e;subst e;rw[bm];simp[(aaW.1 bm).1]
       ·rfl
      rw[this]
      have:setNth st.heap b (.pr wd rows)=st.heap:=by
       rw[eA]
       apply abw
       intro j
       rw[abd]
       split
       ·rename_i e
        subst e
        rw[iD]at hn
        cases hq:st.heap[b]? with
        |none=>rw[hq]at hn;cases hn
        |some q=>
         rw[hq]at hn
         simp at hn
         subst hn
         simp[(aaW.1 hq).1]
       ·rfl
      rw[this];exact hr.mem
     exact dO fR ⟨ι,_,Rel.put (st:=⟨st.tmps,setNth st.heap b (.pr wd (rows.set i (row.take j++[]++row.drop (j+0))))⟩) ⟨dd,hr.tm,hr.sz,hr.df⟩ hd (.p (.int _ _)),hk⟩
    |aF hb hl=>
     rename_i c o' s cc
     have bq:=hr.mem.hr.blk b
     rw[hn,hb]at bq
     obtain⟨cs,ty,fz,hc,ht,bM,ri,ct,bn⟩:=bq.at
     have pT:=ct i row bm
     have lK:i<rows.length:=(aaW.1 bm).1
     have G1:i*wd+wd≤rows.length*wd:=by
      have:=abz wd (show i+1≤rows.length from lK)
      rwa [aa6,abP]at this
     have hbound:o'+(i*wd+j)+(new.take (m*1)).length≤cs.size:=by omega
     have aU:=nA (P:=cx.P) c (o'+(i*wd+j)) ty fz (new.take (m*1)) 0 cs w hc (by omega) ht ed.one
     simp only[Nat.add_zero]at aU
     have aT:=yz (w:=w) (ι:=ι) (dT:=dT) (sT:=sT) (ty:=o.type) (base:=some ⟨c,o'+(i*wd+j),none⟩) (dLen:=len) (dCap:=cc) (n:=m) hu hs b5 (by omega)
     have fR:(execOp a.eval o).run cx.P w=.ok (.value (.int .i64 (m:Nat))) (bB w c (.cells (dE cs (o'+(i*wd+j)) (new.take (m*1))) ty fz)):=by
      apply run
      rw[aT]
      simp only[aU]
      rfl
     have BX:(row.take j++ys++row.drop (j+m)).length=wd:=by
      rw[←nH,s5 _ _ _ (by omega)];exact pT
     have hblk:fE w ι (dE cs (o'+(i*wd+j)) (new.take (m*1))) o' (.pr wd (rows.set i (row.take j++ys++row.drop (j+m)))):=by
      refine⟨by rw[eN _ _ _ hbound,abp];exact ri,λn r hr=>?_,λn r q z hr hz=>?_⟩
      ·rw[abd]at hr
       split at hr
       ·cases hr;exact BX
       ·exact ct n r hr
      ·rw[my _ _ _ hbound,mz]
       rw[abd]at hr
       split at hr
       ·rename_i e
        subst e
        cases hr
        rw[←nH,pR _ _ _ (by omega)]at hz
        split at hz
        ·rename_i a_
         rw[aaS (by omega)]
         have Pg:(bz.take m)[q - j]? =some [z]:=by rw[nC];simp[hz]
         obtain⟨g1,u,g2,g3⟩:=ed.2.2 _ _ 0 z Pg rfl
         exact⟨g1,u,by rw[←g2];congr 1;omega,g3⟩
        ·rename_i a_
         rw[aaR (by omega)]
         exact bn i row q z bm hz
       ·rename_i e
        have G2:q<wd:=by
         have:=(aaW.1 hz).1
         rw[ct n r hr]at this;exact this
        rw[aaR]
        ·exact bn n r q z hr hz
        ·rintro ⟨q1,q2⟩
         rcases adO e with h4|h4
         ·have:=abz wd (show i+1≤n from h4)
          rw[aa6,abP]at this
          omega
         ·have:=abz wd (show n+1≤i from h4)
          rw[aa6,abP]at this
          omega
     obtain⟨fS,hL⟩:=hr.mem.write hb (w':=bB w c (.cells (dE cs (o'+(i*wd+j)) (new.take (m*1))) ty fz)) (blk:=.pr wd (rows.set i (row.take j++ys++row.drop (j+m))))
      (λd z gk hz=>by rw[fg _ _ gk];exact hz) (by simp[bB]) ⟨rfl,rfl⟩
      (λhL=>by
       have:=(hblk.kL hL).rb (ty:=ty) (fz:=fz) (iH w c _ (aa8.1 hc).1) (by rw[eN _ _ _ hbound];exact ht)
       rw[eN _ _ _ hbound,bM]at this
       exact this) (by rw[hn];rfl)
     exact dO fR ⟨ι,_,Rel.put (st:=⟨st.tmps,setNth st.heap b (.pr wd (rows.set i (row.take j++ys++row.drop (j+m))))⟩) ⟨fS,jf hL (λ_ _ h=>h) hr.tm,hr.sz,hr.df⟩ hd (.p (.int _ _)),hk⟩
  ·exact h.elim
 ·exact h.elim
end
theorem fZ.len:∀{xs ys:List PV},fZ xs ys→xs.length=ys.length
 |_,_,.refl _=>rfl
 |_,_,.cons _ h=>by simp[h.len]
theorem kH.len:∀{xs ys:List (List PV)},kH xs ys→xs.length=ys.length
 |_,_,.refl _=>rfl
 |_,_,.cons _ h=>by simp[h.len]
theorem cQ.one{x y:PV}(h:cQ x y)(h1:x.one=true):y.one=true:=by
 cases h<;>first|exact h1|rfl
theorem fZ.get:∀{xs ys:List PV},fZ xs ys→∀(i:Nat) y,ys[i]? =some y→∃x,xs[i]? =some x∧cQ x y
 |_,_,.refl _,i,y,h=>⟨y,h,.refl y⟩
 |_,_,.cons h0 h1,i,y,h=>by
  cases i with
  |zero=>simp at h;subst h;exact⟨_,rfl,h0⟩
  |succ i=>simp at h;simpa using h1.get i y h
theorem kH.get:∀{xs ys:List (List PV)},kH xs ys→∀(i:Nat) y,ys[i]? =some y→∃x,xs[i]? =some x∧fZ x y
 |_,_,.refl _,i,y,h=>⟨y,h,.refl y⟩
 |_,_,.cons h0 h1,i,y,h=>by
  cases i with
  |zero=>simp at h;subst h;exact⟨_,rfl,h0⟩
  |succ i=>simp at h;simpa using h1.get i y h
section
variable {w:World} {M:Nat→Prop}
theorem cQ.sound{x:PV}{v:Value}(h:RP w M x v):∀{y:PV},cQ x y→RP w M y v:=by
 induction h with
 |int k n=>intro y h;cases h;exact .int k n
 |b x=>intro y h;cases h;exact .b x
 |str l=>intro y h;cases h;exact .str l
 |lit v h=>intro y h';cases h';exact .lit v h
 |nil h=>
  intro y hle
  cases hle with
  |refl=>exact .nil h
  |aw hr hc=>
   have:=hr.len
   rename_i rows' _
   have e:rows'=[]:=abf (by simpa using this.symm)
   subst e
   exact .nil λk hk=>h k (by rcases hc with rfl|rfl;cases hk;exact hk)
  |nil hc=>exact .nil λk hk=>h k (by rcases hc with rfl|rfl;cases hk;exact hk)
 |aw hs hM hb hc aR bm bA bn dv ih=>
  intro y hle
  cases hle with
  |refl=>exact .aw hs hM hb hc aR bm bA bn dv
  |aw hr jc=>
   rename_i wd rows cap a c cv rows' gH
   have hlen:=hr.len
   have:=RP.aw (rows:=rows') (cap:=gH) (cv:=cv) (wd:=wd) (c:=c) hs hM hb (by omega) (λk hk=>aR k (by rcases jc with rfl|rfl;cases hk;exact hk))
    (λi row hi=>by obtain⟨r0,h0,h1⟩:=hr.get i row hi;rw[←h1.len];exact bm i r0 h0)
    (λi row j x hi hx=>by
     obtain⟨r0,h0,h1⟩:=hr.get i row hi
     obtain⟨x0,g0,g1⟩:=h1.get j x hx
     exact g1.one (bA i r0 j x0 h0 g0))
    (λi row j x hi hx=>by
     obtain⟨r0,h0,h1⟩:=hr.get i row hi
     obtain⟨x0,g0,g1⟩:=h1.get j x hx
     exact bn i r0 j x0 h0 g0)
    (λi row j x hi hx=>by
     obtain⟨r0,h0,h1⟩:=hr.get i row hi
     obtain⟨x0,g0,g1⟩:=h1.get j x hx
     exact ih i r0 j x0 h0 g0 g1)
   rw[hlen];exact this
  |nil jc=>exact .nil λk hk=>aR k (by rcases jc with rfl|rfl;cases hk;exact hk)
 |b7 hs hM hb bA bn dv ih=>intro y h;cases h;exact .b7 hs hM hb bA bn dv
 |agg hl bA h ih=>
  intro y hle
  cases hle with
  |refl=>exact .agg hl bA h
  |agg hL=>
   refine .agg (by rw[hl,hL.len]) (λi y hy=>?_) (λi y hy=>?_)
   all_goals obtain⟨x0,g0,g1⟩:=hL.get i y hy
   ·exact g1.one (bA i x0 g0)
   ·exact ih i x0 g0 g1
 |fn h1 h2 h3 h4 iY iZ=>intro y h;cases h;exact .fn h1 h2 h3 h4
 |bK h ih=>intro y h';cases h';exact .bK h
end
theorem ak.get{h:List Blk}{fz kp:Nat→Bool}:∀{xs ys:List AV},ak h fz kp xs ys→xs.length=ys.length∧∀(i:Nat) y,ys[i]? =some y→∃x,xs[i]? =some x∧ah h fz kp x y
 |_,_,.nil=>⟨rfl,by simp⟩
 |_,_,.cons h0 h1=>⟨by simp[h1.get.1],λi y hy=>by
  cases i with
  |zero=>simp at hy;subst hy;exact⟨_,rfl,h0⟩
  |succ i=>simp at hy;simpa using h1.get.2 i y hy⟩
section
variable {w:World} {ι bZ:az} {h:List Blk} {fz kp:Nat→Bool}
theorem ah.sound(hr:bL ι h w)(oJ:∀x:Bn,fz x.base=true→∀c o s,ι x=some (c,o,s)→¬bZ.M c)(s8:∀b:Nat,kp b=true→∀p,ι b=some p→bZ b=some p)
 (hM:∀c,bZ.M c→ι.M c) {x:AV} {v:Value} (hx:RA w ι x v):∀{y:AV},ah h fz kp x y→RA w bZ y v:=by
 have hL:bc ι.M w w bZ.M:=⟨λ_ _ _ h=>h,λc hc=>.inl (hM c hc),aaV _⟩
 induction hx with
 |p hp=>
  intro y hle
  cases hle with
  |p jj=>exact .p (jj.sound (hp.later hL))
  |aE=>exact .aE _
 |aE v=>
  intro y hle
  cases hle with
  |aE=>exact .aE _
 |ptr hb=>
  intro y hle
  cases hle with
  |aE=>exact .aE _
  |ptr hk=>exact .ptr (s8 _ hk _ hb)
  |A8 hf hn hi=>
   rename_i b wd i j c o s rows row
   obtain⟨h1,h2⟩:=hr.row hb hn hi
   have:=x9 (w:=w) (M:=bZ.M) (row:=row) (c:=c) (off:=o+i*wd) (λj x hx=>by
    obtain⟨h3,v,h4,h5⟩:=h2 j x hx
    exact⟨h3,v,by rw[←h4],h5.later hL⟩) (oJ (.v b) hf _ _ _ hb) (hr.lt ⟨b,o,s,hb⟩) j
   rw[aa9]at this
   exact .p this
  |od hf hn=>
   rename_i b wd j c o s row
   have h0:=hr.blk b
   rw[hn,hb]at h0
   obtain⟨c',o',s',cs,ty,Ph,he,h1,_,_,_,h4⟩:=h0
   cases he
   have:=x9 (w:=w) (M:=bZ.M) (row:=row) (c:=c) (off:=o) (λj x hx=>by
    obtain⟨v,v1,v2,v3⟩:=h4 j (.p x) (by rw[aaY,hx];rfl)
    have hp:=gW v3
    refine⟨hp.pI v2,v,?_,hp.later hL⟩
    simp[World.cell?,h1,v1]) (oJ (.v b) hf _ _ _ hb) (hr.lt ⟨b,o,s,hb⟩) j
   refine .p ?_
   have e:o+(0*wd+j)=o+j:=by omega
   rw[e]
   exact this
  |sC hf hn=>
   rename_i b wd j c o s n arr row
   have h0:=hr.blk b
   rw[hn,hb]at h0
   obtain⟨_,c',o',s',cs,ty,Ph,he,h1,_,_,_,h4⟩:=h0
   cases he
   have:=x9 (w:=w) (M:=bZ.M) (row:=arr++row) (c:=c) (off:=o) (λj x hx=>by
    obtain⟨v,v1,v2,v3⟩:=h4 j (.p x) (by rw[←abo,aaY,hx];rfl)
    have hp:=gW v3
    refine⟨hp.pI v2,v,?_,hp.later hL⟩
    simp[World.cell?,h1,v1]) (oJ (.v b) hf _ _ _ hb) (hr.lt ⟨b,o,s,hb⟩) j
   refine .p ?_
   have e:o+(0*wd+j)=o+j:=by omega
   rw[e]
   exact this
 |sl hb hl aR hs=>
  intro y hle
  rename_i b wd i len c o s cc cap
  cases hle with
  |aE=>exact .aE _
  |sl hk hc=>exact .sl (s8 _ hk _ hb) hl (λk hk=>aR k (by rcases hc with rfl|rfl;cases hk;exact hk)) hs
  |dJ hf hn eW hlen hp=>
   rename_i rows rs y
   refine .p (hp.sound ?_)
   rw[gJ]at eW
   rw[←hlen]
   refine sN (ad:=⟨c,o+i*wd,none⟩) rfl (oJ (.v b) hf _ _ _ hb) (hr.lt ⟨b,o,s,hb⟩) (by omega) (by simp) λn row hi=>?_
   have bp:rows[i+n]? =some row:=by
    have:((rows.drop i).take len)[n]? =some row:=by rw[eW];exact hi
    rw[ab5]at this
    split at this
    ·rwa [abJ]at this
    ·cases this
   obtain⟨h1,h2⟩:=hr.row hb hn bp
   refine⟨h1,λj x hx=>?_⟩
   obtain⟨h3,v,h4,h5⟩:=h2 j x hx
   exact⟨h3,v,by rw[←h4];congr 2;simp[aa6,aa9],h5.later hL⟩
  |xN hf hn fF hp=>exact .p (hp.sound (BS hr hn fF (λx hx=>oJ x (by rw[hx];exact hf)) hL (.sl hb hl aR hs)))
 |db aR=>
  intro y hle
  cases hle with
  |aE=>exact .aE _
  |sl hk hc=>exact .db (λk hk=>aR k (by rcases hc with rfl|rfl;cases hk;exact hk))
  |dJ hf hn eW hlen hp=>
   rename_i rows rs y
   have e:rs=[]:=abf hlen
   subst e
   exact .p (hp.sound (.nil (by simp)))
  |xN hf hn fF hp=>exact .p (hp.sound (BS hr hn fF (λx hx=>oJ x (by rw[hx];exact hf)) hL (.db aR)))
 |cd hb hl hs=>
  intro y hle
  cases hle with
  |aE=>exact .aE _
 |iC=>
  intro y hle
  cases hle with
  |aE=>exact .aE _
 |ip hb=>
  intro y hle
  cases hle with
  |aE=>exact .aE _
 |aF hb hl=>
  intro y hle
  cases hle with
  |aE=>exact .aE _
  |aF hk=>exact .aF (s8 _ hk _ hb) hl
 |i_=>
  intro y hle
  cases hle with
  |aE=>exact .aE _
  |aF hk=>exact .i_
 |mpr hb=>
  intro y hle
  cases hle with
  |aE=>exact .aE _
  |mpr hk=>exact .mpr (s8 _ hk _ hb)
 |agg hl bA hx ih=>
  intro y hle
  cases hle with
  |aE=>exact .aE _
  |agg hK=>
   obtain⟨e,g⟩:=hK.get
   refine .agg (by rw[hl,e]) (λi y hy=>?_) (λi y hy=>?_)
   all_goals obtain⟨x0,g0,g1⟩:=g i y hy
   ·exact bA i x0 g0
   ·exact ih i x0 g0 g1
  |qJ hK=>
   obtain⟨e,g⟩:=hK.get
   rename_i cells cs ys
   have key:∀(i:Nat) y,ys[i]? =some y→dQ (cs.getD i undef)=true∧RP w bZ.M y (cs.getD i undef):=λi y hy=>by
    obtain⟨x0,g0,g1⟩:=g i (.p y) (by rw[aaY,hy];rfl)
    exact And.intro (bA i x0 g0) (gW (ih i x0 g0 g1))
   exact .p (.agg (by rw[hl,e];simp) (λi y hy=>(key i y hy).2.pI (key i y hy).1) (λi y hy=>(key i y hy).2))
 |aD hl hx ih=>
  intro y hle
  cases hle with
  |aE=>exact .aE _
  |aD hK=>
   obtain⟨e,g⟩:=hK.get
   refine .aD (by rw[hl,e]) (λi y hy=>?_)
   obtain⟨x0,g0,g1⟩:=g i y hy
   exact ih i x0 g0 g1
 |fn h1 h2 h3 h4 iY iZ=>
  intro y hle
  cases hle with
  |aE=>exact .aE _
  |fn ha hc=>
   obtain⟨e1,g1⟩:=ha.get
   obtain⟨e2,g2⟩:=hc.get
   refine .fn (by rw[h1,e1]) (by rw[h2,e2]) (λi y hy=>?_) (λi y hy=>?_)
   ·obtain⟨x0,q0,q1⟩:=g1 i y hy;exact iY i x0 q0 q1
   ·obtain⟨x0,q0,q1⟩:=g2 i y hy;exact iZ i x0 q0 q1
  |nf ha hc=>
   obtain⟨e1,g1⟩:=ha.get
   obtain⟨e2,g2⟩:=hc.get
   refine .p (.fn (by rw[h1,e1];simp) (by rw[h2,e2];simp) (λi y hy=>?_) (λi y hy=>?_))
   ·obtain⟨x0,q0,q1⟩:=g1 i (.p y) (by rw[aaY,hy];rfl);exact gW (iY i x0 q0 q1)
   ·obtain⟨x0,q0,q1⟩:=g2 i (.p y) (by rw[aaY,hy];rfl);exact gW (iZ i x0 q0 q1)
 |bK hx ih=>
  intro y hle
  cases hle with
  |aE=>exact .aE _
  |bK hK=>exact .bK (ih hK)
  |Nq hK=>exact .p (.bK (gW (ih hK)))
end
def fG(w:World)(ι:az)(args:List AV)(vs:Array Value):Prop:=vs.size=args.length∧∀(i:Nat) x,args[i]? =some x→RA w ι x (vs.getD i undef)
def Fn(P:Program):FC:=λf args H mv cI=>
 (∃fn,P.funcs[f]? =some fn∧fn.name≠ "runtime.NumGoroutine" ∧fn.body.isSome=true)∧
 ∀(w:World) (ι:az) (vs:Array Value),¬ι.G→(∀c,ι.X c→c<w.heap.size)→bL ι H w→fG w ι args vs→
  Calls P f vs w λe w'=>∃r v aC H',e=.returned v∧cI r H'∧H.length≤H'.length∧bL aC H' w'∧RA w' aC r v∧(aC.X=ι.X∧¬aC.G)∧
   (∀c (o:Obj),¬ι.I c→w.heap[c]? =some o→w'.heap[c]? =some o)∧w.heap.size≤w'.heap.size∧(∀c,aC.I c→ι.I c∨w.heap.size≤c)∧
   (w'.os=w.os∧w'.output=w.output)∧∀b,b<H.length→memN mv b=false→aC b=ι b
def Ca(w:World)(M:Nat→Prop)(xs:List PV)(vs:Array Value):Prop:=vs.size=xs.length∧∀(i:Nat) x,xs[i]? =some x→RP w M x (vs.getD i undef)
def Cb(P:Program)(X0:Nat→Prop)(J:Jn)(l:Nat):Prop:=
 ∀(y:List PV) (r:List (List PV)) (w:World) (T S X:Nat→Prop) (vs:Array Value),J (some (y::r)) w T S→(∀c,X0 c→X c)→(∀c,S c→X c)→Ca w (λc=>T c∨X c) y vs→
  YieldAt Fence.wide 0 P l vs w λe w'=>∃S',qP S w w' S'∧((e=.returned (.bool true)∧J (some r) w' T S')∨(e=.returned (.bool false)∧J none w' T S'))
def dU(P:Program)(g:Nat)(bu:List PV)(en:Bool)(ys:List (List PV)):Prop:=
 (∃fn,P.funcs[g]? =some fn∧fn.name≠ "runtime.NumGoroutine" ∧fn.body.isSome=true)∧
 ∀(l:Nat) (w:World) (X S:Nat→Prop) (J:Jn) (vs:Array Value),(∀c,S c→X c)→(∀c,X c→c<w.heap.size)→J.va→(en=true→∀w T S,¬J (some []) w T S)→Cb P X J l→ga w X→J (some ys) w (λ_=>False) S→Ca w X bu vs→
  Calls P g (#[.func (.yield l) #[] #[]]++vs) w λe w'=>(∃v,e=.returned v)∧∃S',qP S w w' S'∧(J (some []) w' (λ_=>False) S'∨J none w' (λ_=>False) S')
theorem vJ{l:List Nat}{n:Nat}:memN l n=true↔n∈l:=by
 induction l with
 |nil=>simp[memN]
 |cons x r ih=>simp[memN,ih];constructor<;>rintro (h|h)<;>simp_all
theorem Cc{l:List Nat}{n:Nat}:memN l n=false↔n∉l:=by
 rw[←vJ];simp
theorem Pj{l:List Nat}(h:lD l=true):l.Nodup:=by
 induction l with
 |nil=>simp
 |cons x r ih=>
  simp only[lD,aa2,abW]at h
  exact ace.2 ⟨Cc.1 h.1,ih h.2⟩
theorem Pk{l m:List Nat}(h:ng l m=true):∀x∈m,x∉l:=by
 induction m with
 |nil=>simp
 |cons y r ih=>
  simp only[ng,aa2,abW]at h
  intro x hx
  rcases abb.1 hx with rfl|hx
  ·exact Cc.1 h.1
  ·exact ih h.2 x hx
theorem Pm{h:List Blk}{l:List Nat}(hl:liveIds h l=true):∀b∈l,nth .dead h b≠.dead:=by
 induction l with
 |nil=>simp
 |cons y r ih=>
  simp only[liveIds,aa2]at hl
  intro x hx
  rcases abb.1 hx with rfl|hx
  ·intro e;rw[e]at hl;simp at hl
  ·exact ih hl.2 x hx
theorem Pn{h:List Blk}{l:List Nat}(hl:liveIds h l=true):∀b∈l,∀n r,nth .dead h b≠.gh n r:=by
 induction l with
 |nil=>simp
 |cons y r ih=>
  simp only[liveIds,aa2]at hl
  intro x hx
  rcases abb.1 hx with rfl|hx
  ·intro n q e;rw[e]at hl;simp at hl
  ·exact ih hl.2 x hx
theorem Po{h:List Blk}{l:List Nat}(hl:liveIds h l=true):∀b∈l,∀m n r,nth .dead h b≠.mi m n r:=by
 induction l with
 |nil=>simp
 |cons y r ih=>
  simp only[liveIds,aa2]at hl
  intro x hx
  rcases abb.1 hx with rfl|hx
  ·intro m n q e;rw[e]at hl;simp at hl
  ·exact ih hl.2 x hx
theorem Cd{h:List Blk}{l:List Nat}(hl:liveIds h l=true):∀b∈l,(nth .dead h b).bare=true:=by
 induction l with
 |nil=>simp
 |cons y r ih=>
  simp only[liveIds,aa2]at hl
  intro x hx
  rcases abb.1 hx with rfl|hx
  ·cases hn:nth Blk.dead h x<;>rw[hn]at hl<;>first|rfl|(simp at hl)
  ·exact ih hl.2 x hx
theorem Bn.pV(f:Nat→Nat)(x:Bn):(x.map f).base=f x.base:=by cases x<;>rfl
theorem Bn.map_congr{f g:Nat→Nat}{x:Bn}(h:f x.base=g x.base):x.map f=x.map g:=by cases x<;>simp only[Bn.map,Bn.base]at* <;>rw[h]
theorem Bn.oK{f g:Nat→Nat}{x:Bn}(h:g (f x.base)=x.base):(x.map f).map g=x:=by cases x<;>simp only[Bn.map,Bn.base]at* <;>rw[h]
theorem HB.ren{w:World}{ι:az}{p q:Option (Nat×Nat×Nat)}{i:Nat}{x:Blk}(ids:List Nat)(n:Nat)(h:HB w ι p q i x):HB w ι p q i (x.ren ids n):=by
 cases x<;>exact h
theorem Hf{n:Nat}{l:List Nat}(h:og n l=true):∀b∈l,b<n:=by
 induction l with
 |nil=>simp
 |cons y r ih=>
  simp only[og,aa2,acr]at h
  intro x hx
  rcases abb.1 hx with rfl|hx
  ·exact h.1
  ·exact ih h.2 x hx
theorem Hg{fx:Nat→Bool}{l:List Nat}(h:oe fx l=true):∀b∈l,fx b=false:=by
 induction l with
 |nil=>simp
 |cons y r ih=>
  simp only[oe,aa2,abW]at h
  intro x hx
  rcases abb.1 hx with rfl|hx
  ·exact h.1
  ·exact ih h.2 x hx
theorem rj{ids:List Nat}{n b:Nat}(h:b<ids.length):renB ids n b=nth 0 ids b:=by
 induction ids generalizing b with
 |nil=>simp at h
 |cons x r ih=>cases b with
  |zero=>rfl
  |succ b=>simp[renB,nth];exact ih (by simpa using h)
theorem s9{ids:List Nat}{n b:Nat}(h:ids.length≤b):renB ids n b=n+(b - ids.length):=by
 induction ids generalizing b with
 |nil=>rfl
 |cons x r ih=>cases b with
  |zero=>simp at h
  |succ b=>simp[renB];exact ih (by simpa using h)
theorem oL{ids:List Nat}{b:Nat}(h:b<ids.length):nth 0 ids b∈ids:=by
 rw[iD,aaU h];exact abN h
def idxN:List Nat→Nat→Nat
 |[],_=>0
 |x::r,n=>if x=n then 0 else idxN r n+1
theorem Ce{l:List Nat}{n:Nat}(h:n∈l):idxN l n<l.length∧nth 0 l (idxN l n)=n:=by
 induction l with
 |nil=>cases h
 |cons x r ih=>
  unfold idxN
  by_cases e:x=n
  ·simp[e,nth]
  ·rw[aaR e]
   have:=ih ((abb.1 h).resolve_left (abx e))
   simp[nth,this]
theorem Cf{l:List Nat}(hd:l.Nodup){k:Nat}(h:k<l.length):idxN l (nth 0 l k)=k:=by
 induction l generalizing k with
 |nil=>simp at h
 |cons x r ih=>
  obtain⟨h1,h2⟩:=ace.1 hd
  cases k with
  |zero=>simp[nth,idxN]
  |succ k=>
   have hk:k<r.length:=by simpa using h
   have e0:nth 0 (x::r) (k+1)=nth 0 r k:=rfl
   rw[e0]
   unfold idxN
   rw[aaR,ih h2 hk]
   intro e
   exact h1 (e▸oL hk)
theorem jz(ids:List Nat)(n:Nat)(l:List AV)(i:Nat):(AV.dX ids n l)[i]? =(l[i]?).map (AV.ren ids n):=by
 induction l generalizing i with
 |nil=>simp[AV.dX]
 |cons x r ih=>cases i<;>simp[AV.dX,ih]
theorem oM(ids:List Nat)(n:Nat):∀l:List PV,AV.dX ids n (l.map .p)=l.map .p
 |[]=>rfl
 |x::r=>by simp[AV.dX,AV.ren,oM ids n r]
theorem Cg(ids:List Nat)(n:Nat)(l m:List AV):AV.dX ids n (l++m)=AV.dX ids n l++AV.dX ids n m:=by
 induction l with
 |nil=>rfl
 |cons x r ih=>simp[AV.dX,ih]
theorem jA(ids:List Nat)(n:Nat)(l:List AV):(AV.dX ids n l).length=l.length:=by
 induction l with
 |nil=>rfl
 |cons x r ih=>simp[AV.dX,ih]
theorem rk(ids:List Nat)(n:Nat)(h:List Blk)(b:Nat):nth .dead (fA ids n h) b=(nth .dead h b).ren ids n:=by
 induction h generalizing b with
 |nil=>rfl
 |cons x r ih=>cases b with
  |zero=>rfl
  |succ b=>simp[fA,nth,ih]
theorem Hh(ids:List Nat)(n:Nat)(h:List Blk):(fA ids n h).length=h.length:=by
 induction h with
 |nil=>rfl
 |cons x r ih=>simp[fA,ih]
theorem Hi(h:List Blk)(ids:List Nat)(b:Nat)(hb:b<ids.length):nth .dead (getIds h ids) b=nth .dead h (nth 0 ids b):=by
 induction ids generalizing b with
 |nil=>simp at hb
 |cons x r ih=>cases b with
  |zero=>rfl
  |succ b=>simp[getIds,nth];exact ih b (by simpa using hb)
theorem Pp(h:List Blk):∀(ids:List Nat) (new:List Blk),ids.length≤new.length→(backH h ids new).length=h.length+(new.length - ids.length):=by
 intro ids
 induction ids generalizing h with
 |nil=>intro new _;simp[backH]
 |cons i r ih=>
  intro new hl
  cases new with
  |nil=>simp at hl
  |cons x s=>
   simp only[backH]
   rw[ih _ s (by simpa using hl)]
   simp[eA]
theorem Pq(h:List Blk):∀(ids:List Nat) (new:List Blk) (b:Nat),ids.Nodup→(∀i∈ids,i<h.length)→ids.length≤new.length→
 nth .dead (backH h ids new) b=if b∈ids then nth .dead new (idxN ids b)else if h.length≤b then nth .dead new (ids.length+(b - h.length))else nth .dead h b:=by
 intro ids
 induction ids generalizing h with
 |nil=>
  intro new b _ _ _
  simp only[backH,ads,abA,List.length_nil,aaX]
  rw[iD,iD,iD,abI]
  by_cases hb:b<h.length
  ·rw[aaS hb,aaR (by omega)]
  ·rw[aaR hb,aaS (by omega)]
 |cons i r ih=>
  intro new b hd aq hl
  obtain⟨h1,h2⟩:=ace.1 hd
  cases new with
  |nil=>simp at hl
  |cons x s=>
   have hi:i<h.length:=aq i (by simp)
   simp only[backH]
   rw[ih (setNth h i x) s b h2 (λj hj=>by rw[eA,abp];exact aq j (by simp[hj])) (by simpa using hl)]
   have hlen:(setNth h i x).length=h.length:=by rw[eA,abp]
   rw[hlen]
   by_cases e:b=i
   ·subst e
    rw[aaR h1,aaR (by omega),aaS (by simp),dc _ _ _ _ _ hi,aaS rfl]
    simp[idxN,nth]
   ·by_cases hm:b∈r
    ·rw[aaS hm,aaS (by simp[hm])]
     simp[idxN,abx e,nth]
    ·have fS:¬b∈i::r:=by simp[e,hm]
     simp only[aaR hm,aaR fS]
     by_cases dH:h.length≤b
     ·rw[aaS dH,aaS dH]
      simp only[List.length_cons]
      rw[show r.length+1+(b - h.length)=(r.length+(b - h.length))+1 by omega]
      rfl
     ·rw[aaR dH,aaR dH,dc _ _ _ _ _ hi,aaR e]
theorem RA.Ch{w:World}{ι fT:az}{ids:List Nat}{n:Nat}(hm:∀b p,ι (Bn.map (renB ids n) b)=some p→fT b=some p)(hM:∀c,fT.M c→ι.M c):
 ∀(x:AV) {v:Value},RA w ι (AV.ren ids n x) v→RA w fT x v:=by
 have hL:bc ι.M w w fT.M:=⟨λ_ _ _ h=>h,λc hc=>.inl (hM c hc),aaV _⟩
 have main:∀(y:AV) {v:Value},RA w ι y v→∀x,y=AV.ren ids n x→RA w fT x v:=by
  intro y v h
  induction h with
  |p hp=>intro x e;cases x<;>simp only[AV.ren]at e<;>first|(cases e;exact .p (hp.later hL))|(cases e)
  |aE v=>intro x e;cases x<;>simp only[AV.ren]at e<;>first|exact .aE _|(cases e)
  |ptr hb=>intro x e;cases x<;>simp only[AV.ren]at e<;>first|(cases e;exact .ptr (hm (.v _) _ hb))|(cases e)
  |sl hb hl aR hs=>intro x e;cases x<;>simp only[AV.ren]at e<;>first|(cases e;exact .sl (hm (.v _) _ hb) hl aR hs)|(cases e)
  |db aR=>intro x e;cases x<;>simp only[AV.ren]at e<;>first|(cases e;exact .db aR)|(cases e)
  |aF hb hl=>intro x e;cases x<;>simp only[AV.ren]at e<;>first|(cases e;exact .aF (hm (.v _) _ hb) hl)|(cases e)
  |i_=>intro x e;cases x<;>simp only[AV.ren]at e<;>first|(cases e;exact .i_)|(cases e)
  |mpr hb=>intro x e;cases x<;>simp only[AV.ren]at e<;>first|(cases e;exact .mpr (hm (.v _) _ hb))|(cases e)
  |cd hb hl hs=>intro x e;cases x<;>simp only[AV.ren]at e<;>first|(cases e;exact .cd (hm (.h _ _) _ hb) hl hs)|(cases e)
  |iC=>intro x e;cases x<;>simp only[AV.ren]at e<;>first|(cases e;exact .iC)|(cases e)
  |ip hb=>intro x e;cases x<;>simp only[AV.ren]at e<;>first|(cases e;exact .ip (hm (.h _ _) _ hb))|(cases e)
  |agg hl bA h ih=>
   intro x e
   cases x<;>simp only[AV.ren]at e<;>first|(cases e;done)|skip
   rename_i l
   cases e
   refine .agg (by rw[hl,jA]) (λi y hy=>bA i (AV.ren ids n y) (by rw[jz,hy];rfl)) (λi y hy=>ih i (AV.ren ids n y) (by rw[jz,hy];rfl) y rfl)
  |aD hl h ih=>
   intro x e
   cases x<;>simp only[AV.ren]at e<;>first|(cases e;done)|skip
   rename_i l
   cases e
   refine .aD (by rw[hl,jA]) (λi y hy=>ih i (AV.ren ids n y) (by rw[jz,hy];rfl) y rfl)
  |fn h1 h2 h3 h4 iY iZ=>
   intro x e
   cases x<;>simp only[AV.ren]at e<;>first|(cases e;done)|skip
   cases e
   refine .fn (by rw[h1,jA]) (by rw[h2,jA]) (λi y hy=>iY i (AV.ren ids n y) (by rw[jz,hy];rfl) y rfl) (λi y hy=>iZ i (AV.ren ids n y) (by rw[jz,hy];rfl) y rfl)
  |bK h ih=>
   intro x e
   cases x<;>simp only[AV.ren]at e<;>first|(cases e;done)|skip
   cases e
   exact .bK (ih _ rfl)
 exact λx v h=>main _ h x rfl
theorem RA.ren{w:World}{ι fT:az}{ids:List Nat}{n:Nat}(hm:∀b p,fT b=some p→ι (Bn.map (renB ids n) b)=some p)(hM:∀c,ι.M c→fT.M c){x:AV}{v:Value}(h:RA w fT x v):
 RA w ι (AV.ren ids n x) v:=by
 have hL:bc fT.M w w ι.M:=⟨λ_ _ _ h=>h,λc hc=>.inl (hM c hc),aaV _⟩
 induction h with
 |p hp=>exact .p (hp.later hL)
 |aE v=>exact .aE v
 |ptr hb=>exact .ptr (hm (.v _) _ hb)
 |sl hb hl aR hs=>exact .sl (hm (.v _) _ hb) hl aR hs
 |db aR=>exact .db aR
 |aF hb hl=>exact .aF (hm (.v _) _ hb) hl
 |i_=>exact .i_
 |mpr hb=>exact .mpr (hm (.v _) _ hb)
 |cd hb hl hs=>exact .cd (hm (.h _ _) _ hb) hl hs
 |iC=>exact .iC
 |ip hb=>exact .ip (hm (.h _ _) _ hb)
 |agg hl bA h ih=>
  refine .agg (by rw[hl,jA]) (λi y hy=>?_) (λi y hy=>?_)
  all_goals
   rw[jz]at hy
   obtain⟨z,hz,rfl⟩:=aa0.1 hy
  ·exact bA i z hz
  ·exact ih i z hz
 |aD hl h ih=>
  refine .aD (by rw[hl,jA]) (λi y hy=>?_)
  rw[jz]at hy
  obtain⟨z,hz,rfl⟩:=aa0.1 hy
  exact ih i z hz
 |fn h1 h2 h3 h4 iY iZ=>
  refine .fn (by rw[h1,jA]) (by rw[h2,jA]) (λi y hy=>?_) (λi y hy=>?_)
  all_goals
   rw[jz]at hy
   obtain⟨z,hz,rfl⟩:=aa0.1 hy
  ·exact iY i z hz
  ·exact iZ i z hz
 |bK h ih=>exact .bK ih
theorem Ci{l:List PV}(h:flatPL l=true):∀x∈l,flatP x=true:=by
 induction l with
 |nil=>simp
 |cons y r ih=>
  simp only[flatPL,aa2]at h
  intro x hx
  rcases abb.1 hx with rfl|hx
  ·exact h.1
  ·exact ih h.2 x hx
theorem Ps{l:List AV}(h:xO l=true):∀x∈l,flatV x=true:=by
 induction l with
 |nil=>simp
 |cons y r ih=>
  simp only[xO,aa2]at h
  intro x hx
  rcases abb.1 hx with rfl|hx
  ·exact h.1
  ·exact ih h.2 x hx
theorem RP.flat{w w':World}{M M':Nat→Prop}{x:PV}{v:Value}(h:RP w M x v):flatP x=true→RP w' M' x v:=by
 induction h with
 |int k n=>intro _;exact .int k n
 |b x=>intro _;exact .b x
 |str l=>intro _;exact .str l
 |lit v h=>intro _;exact .lit v h
 |nil h=>intro hf;simp[flatP]at hf
 |aw=>intro hf;simp[flatP]at hf
 |b7=>intro hf;simp[flatP]at hf
 |agg hl bA h ih=>
  intro hf
  simp only[flatP]at hf
  exact .agg hl bA λi x hx=>ih i x hx (Ci hf _ (aa_ hx))
 |fn h1 h2 h3 h4 iY iZ=>
  intro hf
  simp only[flatP,aa2]at hf
  exact .fn h1 h2 (λi x hx=>iY i x hx (Ci hf.1 _ (aa_ hx))) (λi x hx=>iZ i x hx (Ci hf.2 _ (aa_ hx)))
 |bK h ih=>intro hf;simp only[flatP]at hf;exact .bK (ih hf)
theorem RA.flat{w w':World}{ι aC:az}{x:AV}{v:Value}(h:RA w ι x v):flatV x=true→∀ids n,RA w' aC (AV.ren ids n x) v:=by
 induction h with
 |p h=>intro hf ids n;exact .p (h.flat hf)
 |aD hl h ih=>
  intro hf ids n
  simp only[flatV]at hf
  refine .aD (by rw[hl,jA]) (λi y hy=>?_)
  rw[jz]at hy
  obtain⟨z,hz,rfl⟩:=aa0.1 hy
  exact ih i z hz (Ps hf _ (aa_ hz)) ids n
 |_=>intro hf;simp[flatV]at hf
def AV.kills:List Nat→AV→AV
 |[],x=>x
 |b::r,x=>AV.kills r (x.kill b)
def AV.killsL:List Nat→List AV→List AV
 |[],x=>x
 |b::r,x=>AV.killsL r (AV.killL b x)
def Blk.kills:List Nat→Blk→Blk
 |[],x=>x
 |b::r,x=>Blk.kills r (x.kill b)
theorem Pt(k1 k2:List Nat)(x:AV):AV.kills (k1++k2) x=AV.kills k2 (AV.kills k1 x):=by
 induction k1 generalizing x with
 |nil=>rfl
 |cons b r ih=>exact ih _
theorem Hj(k1 k2:List Nat)(x:Blk):Blk.kills (k1++k2) x=Blk.kills k2 (Blk.kills k1 x):=by
 induction k1 generalizing x with
 |nil=>rfl
 |cons b r ih=>exact ih _
theorem vK(ks:List Nat)(l:List AV)(i:Nat):(AV.killsL ks l)[i]? =(l[i]?).map (AV.kills ks):=by
 induction ks generalizing l with
 |nil=>simp[AV.killsL,AV.kills]
 |cons b r ih=>simp only[AV.killsL,ih,sF,Option.map_map];rfl
theorem s_(ks:List Nat)(l:List AV):(AV.killsL ks l).length=l.length:=by
 induction ks generalizing l with
 |nil=>rfl
 |cons b r ih=>simp[AV.killsL,ih,qL]
theorem rl(ks:List Nat):AV.kills ks .undef=.undef:=by
 induction ks with
 |nil=>rfl
 |cons b r ih=>exact ih
theorem Pu(ks:List Nat)(x:PV):AV.kills ks (.p x)=.p x:=by
 induction ks with
 |nil=>rfl
 |cons b r ih=>exact ih
theorem Pv(ks:List Nat)(l:List AV):AV.kills ks (.agg l)=.agg (AV.killsL ks l):=by
 induction ks generalizing l with
 |nil=>rfl
 |cons b r ih=>exact ih _
theorem Px(ks:List Nat)(l:List AV):AV.kills ks (.aD l)=.aD (AV.killsL ks l):=by
 induction ks generalizing l with
 |nil=>rfl
 |cons b r ih=>exact ih _
theorem Py(ks:List Nat)(f:Nat)(x y:List AV):AV.kills ks (.fn f x y)=.fn f (AV.killsL ks x) (AV.killsL ks y):=by
 induction ks generalizing x y with
 |nil=>rfl
 |cons b r ih=>exact ih _ _
theorem Pz(ks:List Nat)(t:TypeId)(x:AV):AV.kills ks (.bK t x)=.bK t (AV.kills ks x):=by
 induction ks generalizing x with
 |nil=>rfl
 |cons b r ih=>exact ih _
theorem PA(ks:List Nat)(b w i j:Nat):AV.kills ks (.ptr b w i j)=if b∈ks then .undef else .ptr b w i j:=by
 induction ks with
 |nil=>simp[AV.kills]
 |cons c r ih=>
  by_cases e:b=c
  ·subst e;simp[AV.kills,AV.kill,rl,Bn.hitV]
  ·simp[AV.kills,AV.kill,Bn.hitV,f_ e,ih,e]
theorem Hl(ks:List Nat)(b w i l:Nat)(c:Option Nat):AV.kills ks (.sl b w i l c)=if b∈ks then .undef else .sl b w i l c:=by
 induction ks with
 |nil=>simp[AV.kills]
 |cons c' r ih=>
  by_cases e:b=c'
  ·subst e;simp[AV.kills,AV.kill,rl,Bn.hitV]
  ·simp[AV.kills,AV.kill,Bn.hitV,f_ e,ih,e]
theorem Hm(ks:List Nat)(b w i j e l:Nat):AV.kills ks (.aF b w i j e l)=if b∈ks then .undef else .aF b w i j e l:=by
 induction ks with
 |nil=>simp[AV.kills]
 |cons c' r ih=>
  by_cases e':b=c'
  ·subst e';simp[AV.kills,AV.kill,rl,Bn.hitV]
  ·simp[AV.kills,AV.kill,Bn.hitV,f_ e',ih,e']
theorem PC(ks:List Nat)(b:Nat):AV.kills ks (.mpr b)=if b∈ks then .undef else .mpr b:=by
 induction ks with
 |nil=>simp[AV.kills]
 |cons c' r ih=>
  by_cases e':b=c'
  ·subst e';simp[AV.kills,AV.kill,rl,Bn.hitV]
  ·simp[AV.kills,AV.kill,Bn.hitV,f_ e',ih,e']
theorem Hn(ks:List Nat)(b w i l:Nat):AV.kills ks (.cd b w i l)=if b∈ks then .undef else .cd b w i l:=by
 induction ks with
 |nil=>simp[AV.kills]
 |cons c' r ih=>
  by_cases e':b=c'
  ·subst e';simp[AV.kills,AV.kill,rl,Bn.hitH]
  ·simp[AV.kills,AV.kill,Bn.hitH,f_ e',ih,e']
theorem PD(ks:List Nat)(b w i r j:Nat):AV.kills ks (.ip b w i r j)=if b∈ks then .undef else .ip b w i r j:=by
 induction ks with
 |nil=>simp[AV.kills]
 |cons c' r ih=>
  by_cases e':b=c'
  ·subst e';simp[AV.kills,AV.kill,rl,Bn.hitH]
  ·simp[AV.kills,AV.kill,Bn.hitH,f_ e',ih,e']
theorem RA.kills{w w':World}{ι aC:az}{ks:List Nat}(hL:bc ι.M w w' aC.M)(bh:∀b:Bn,b.base∉ks→∀p,ι b=some p→aC b=some p){x:AV}{v:Value}(h:RA w ι x v):
 RA w' aC (x.kills ks) v:=by
 induction h with
 |p h=>rw[Pu];exact .p (h.later hL)
 |aE v=>rw[rl];exact .aE v
 |ptr h=>rw[PA];split;exact .aE _;exact .ptr (bh (.v _) (by assumption) _ h)
 |sl h hl aR hs=>rw[Hl];split;exact .aE _;exact .sl (bh (.v _) (by assumption) _ h) hl aR hs
 |db aR=>rw[Hl];split;exact .aE _;exact .db aR
 |aF h hl=>rw[Hm];split;exact .aE _;exact .aF (bh (.v _) (by assumption) _ h) hl
 |i_=>rw[Hm];split;exact .aE _;exact .i_
 |mpr h=>rw[PC];split;exact .aE _;exact .mpr (bh (.v _) (by assumption) _ h)
 |cd h hl hs=>rw[Hn];split;exact .aE _;exact .cd (bh (.h _ _) (by assumption) _ h) hl hs
 |iC=>rw[Hn];split;exact .aE _;exact .iC
 |ip h=>rw[PD];split;exact .aE _;exact .ip (bh (.h _ _) (by assumption) _ h)
 |agg hl bA h ih=>
  rw[Pv]
  refine .agg (by rw[hl,s_]) (λi y hy=>?_) (λi y hy=>?_)
  all_goals rw[vK]at hy;obtain⟨z,hz,rfl⟩:=aa0.1 hy
  ·exact bA i z hz
  ·exact ih i z hz
 |aD hl h ih=>
  rw[Px]
  refine .aD (by rw[hl,s_]) (λi y hy=>?_)
  rw[vK]at hy;obtain⟨z,hz,rfl⟩:=aa0.1 hy
  exact ih i z hz
 |fn h1 h2 h3 h4 iY iZ=>
  rw[Py]
  refine .fn (by rw[h1,s_]) (by rw[h2,s_]) (λi y hy=>?_) (λi y hy=>?_)
  all_goals rw[vK]at hy;obtain⟨z,hz,rfl⟩:=aa0.1 hy
  ·exact iY i z hz
  ·exact iZ i z hz
 |bK h ih=>rw[Pz];exact .bK ih
theorem ta(ks:List Nat):Blk.kills ks .dead=.dead:=by
 induction ks with
 |nil=>rfl
 |cons b r ih=>exact ih
theorem Ho(ks:List Nat)(wd:Nat)(rows:List (List PV)):Blk.kills ks (.pr wd rows)=.pr wd rows:=by
 induction ks with
 |nil=>rfl
 |cons b r ih=>exact ih
theorem Hp(ks:List Nat)(l:List AV):Blk.kills ks (.mx l)=.mx (AV.killsL ks l):=by
 induction ks generalizing l with
 |nil=>rfl
 |cons b r ih=>exact ih _
theorem Hq(ks:List Nat)(ag:Bool)(k:List CK)(e:List (PV×PV)):Blk.kills ks (.mp ag k e)=.mp ag k e:=by
 induction ks with
 |nil=>rfl
 |cons b r ih=>exact ih
theorem Hr(ks:List Nat)(l:Nat)(r:Option (List (List PV))):Blk.kills ks (.gh l r)=.gh l r:=by
 induction ks with
 |nil=>rfl
 |cons b r ih=>exact ih
theorem Hs(ks:List Nat)(n:Nat)(a:List PV)(l:List AV):Blk.kills ks (.ax n a l)=.ax n a (AV.killsL ks l):=by
 induction ks generalizing l with
 |nil=>rfl
 |cons b r ih=>exact ih _
theorem Ht(ks:List Nat)(wo wd:Nat)(c:List (Bool×List (List PV)))(op:Option Nat):Blk.kills ks (.pn wo wd c op)=.pn wo wd c op:=by
 induction ks with
 |nil=>rfl
 |cons b r ih=>exact ih
theorem Hu(ks:List Nat)(ag:Bool)(k:List CK)(wd:Nat)(e:List (PV×List (List PV)))(op:Option Nat):Blk.kills ks (.bF ag k wd e op)=.bF ag k wd e op:=by
 induction ks with
 |nil=>rfl
 |cons b r ih=>exact ih
theorem Hv(ks:List Nat)(m:Option Nat)(n:Nat)(s:List Nat):Blk.kills ks (.mi m n s)=.mi (match m with|some b=>if b∈ks then none else some b|none=>none) n s:=by
 induction ks generalizing m with
 |nil=>cases m<;>simp[Blk.kills]
 |cons b r ih=>
  cases m with
  |none=>exact ih none
  |some m=>
   by_cases e:m=b
   ·subst e;simp[Blk.kills,Blk.kill,Bn.hitV,ih]
   ·simp[Blk.kills,Blk.kill,Bn.hitV,f_ e,ih,e]
theorem HB.kills{w:World}{ι:az}{p q:Option (Nat×Nat×Nat)}{i:Nat}(ks:List Nat){x:Blk}(h:HB w ι p q i x):HB w ι p q i (x.kills ks):=by
 induction ks generalizing x with
 |nil=>exact h
 |cons b r ih=>exact ih (h.kill _)
theorem Hw(ks:List Nat)(a:List PV)(l:List AV):AV.killsL ks (a.map AV.p++l)=a.map AV.p++AV.killsL ks l:=by
 induction ks generalizing l with
 |nil=>rfl
 |cons b r ih=>
  show AV.killsL r (AV.killL b (a.map AV.p++l))=_
  rw[F2,F1];exact ih _
theorem Hx{ks:List Nat}{x:Blk}{l:Nat}{r:Option (List (List PV))}(h:x.kills ks=.gh l r):x=.gh l r:=by
 cases x with
 |dead=>rw[ta]at h;cases h
 |mx c=>rw[Hp]at h;cases h
 |pr w r=>rw[Ho]at h;cases h
 |mp _ _ _=>rw[Hq]at h;cases h
 |gh _ _=>rw[Hr]at h;exact h
 |ax _ _ _=>rw[Hs]at h;cases h
 |pn _ _ _ _=>rw[Ht]at h;cases h
 |bF _ _ _ _ _=>rw[Hu]at h;cases h
 |mi _ _ _=>rw[Hv]at h;cases h
theorem RB.kills{w w':World}{ι aC:az}{ks:List Nat}{p:Option (Nat×Nat×Nat)}(hL:bc ι.M w w' aC.M)(hG:ι.G→aC.G)(bh:∀b:Bn,b.base∉ks→∀p,ι b=some p→aC b=some p)
 (hk:∀c o s,p=some (c,o,s)→w'.heap[c]? =w.heap[c]?) {x:Blk} (h:RB w ι p x):RB w' aC p (x.kills ks):=by
 cases x with
 |dead=>rw[ta];exact h
 |mx cells=>
  rw[Hp]
  obtain⟨c,o,s,cs,ty,fz,hp,h1,hf,h2,h3,h4⟩:=h
  refine⟨c,o,s,cs,ty,fz,hp,by rw[hk _ _ _ hp,h1],hf,h2,by rw[s_];exact h3,λj x hx=>?_⟩
  rw[vK]at hx;obtain⟨y,hy,rfl⟩:=aa0.1 hx
  obtain⟨v,hv,ho,hr⟩:=h4 j y hy
  exact⟨v,hv,ho,hr.kills hL bh⟩
 |pr wd rows=>
  rw[Ho]
  rcases h with h|⟨c,o,s,cs,ty,fz,hp,h1,hf,h2,h3,h4,h5⟩
  ·exact .inl h
  ·refine .inr ⟨c,o,s,cs,ty,fz,hp,by rw[hk _ _ _ hp,h1],hf,h2,h3,h4,λi row j x hi hx=>?_⟩
   obtain⟨ho,v,hv,hr⟩:=h5 i row j x hi hx
   exact⟨ho,v,hv,hr.later hL⟩
 |mp ag k e=>
  rw[Hq]
  obtain⟨c,o,s,hp,h1⟩:=h
  exact⟨c,o,s,hp,h1.later hL (hk _ _ _ hp)⟩
 |gh l r=>rw[Hr];exact⟨h.1,hG h.2⟩
 |pn wo wd c op=>rw[Ht];exact RB.sG hL hk h
 |bF ag k wd e op=>rw[Hu];exact RB.sH hL hk h
 |mi m n s=>
  rw[Hv]
  refine RB.qN (λb hb=>?_) hk h
  cases m with
  |none=>cases hb
  |some m=>
   simp only at hb
   split at hb
   ·cases hb
   ·rename_i hn
    have hb:=adr hb
    subst hb
    exact⟨m,rfl,λp hp=>bh (.v m) hn _ hp⟩
 |ax n arr cells=>
  rw[Hs]
  obtain⟨hn,c,o,s,cs,ty,fz,hp,h1,hf,h2,h3,h4⟩:=h
  refine⟨hn,c,o,s,cs,ty,fz,hp,by rw[hk _ _ _ hp,h1],hf,h2,by rw[←Hw,s_];exact h3,λj x hx=>?_⟩
  rw[←Hw,vK]at hx;obtain⟨y,hy,rfl⟩:=aa0.1 hx
  obtain⟨v,hv,ho,hr⟩:=h4 j y hy
  exact⟨v,hv,ho,hr.kills hL bh⟩
theorem PE(ks:List Nat)(st:St)(s:Nat):lk (killAll ks st).tmps s=(lk st.tmps s).kills ks:=by
 induction ks generalizing st with
 |nil=>rfl
 |cons b r ih=>simp only[killAll,ih,AV.kills];rw[show(st.kill b).tmps=killT b st.tmps from rfl,qO]
theorem Cj(ks:List Nat)(st:St)(n:Nat):nth .dead (killAll ks st).heap n=(nth .dead st.heap n).kills ks:=by
 induction ks generalizing st with
 |nil=>rfl
 |cons b r ih=>simp only[killAll,ih,Blk.kills];rw[show(st.kill b).heap=killH b st.heap from rfl,j0]
theorem PG(ks:List Nat)(st:St):(killAll ks st).heap.length=st.heap.length:=by
 induction ks generalizing st with
 |nil=>rfl
 |cons b r ih=>simp only[killAll,ih];exact fc _ _
theorem PH(fr:List Nat)(st:St)(s:Nat):lk (eV fr st).tmps s=(lk st.tmps s).kills fr:=by
 induction fr generalizing st with
 |nil=>rfl
 |cons b r ih=>simp only[eV,ih,AV.kills,qO]
theorem PI(fr:List Nat)(st:St):(eV fr st).heap.length=st.heap.length:=by
 induction fr generalizing st with
 |nil=>rfl
 |cons b r ih=>simp only[eV,ih,GX]
theorem Ck(fr:List Nat)(st:St)(hb:∀b∈fr,b<st.heap.length)(n:Nat):nth .dead (eV fr st).heap n=if n∈fr then .dead else(nth .dead st.heap n).kills fr:=by
 induction fr generalizing st with
 |nil=>simp[eV,Blk.kills]
 |cons b r ih=>
  simp only[eV]
  rw[ih _ (λc hc=>by simp only[GX];exact hb c (by simp[hc]))]
  have aq:b<(killH b st.heap).length:=by rw[fc];exact hb b (by simp)
  by_cases h1:n∈r
  ·simp[h1]
  ·rw[aaR h1,dc _ _ _ _ _ aq]
   by_cases h2:n=b
   ·simp[h2,ta]
   ·simp[h1,h2,Blk.kills,j0]
section
variable {cx:Cx} {ι:az} {st:St} {a:Act} {w:World}
theorem Hy{P:Program}{f:Nat}{vs:Array Value}(h:∃fn,P.funcs[f]? =some fn∧fn.name≠ "runtime.NumGoroutine" ∧fn.body.isSome=true)(w:World):
 (callFunc f vs).run P w=.ok (.enter f vs) w:=by
 obtain⟨fn,h1,h2,h3⟩:=h
 have h4:fn.body.isNone=false:=by cases hb:fn.body<;>simp_all
 simp only[callFunc,Sem.run_bind,run_program,Result.andThen_ok,h1]
 rw[aaR (by simpa using h2),h4]
 simp
theorem vL(hF:∀f args H mv cI,cx.E.F f args H mv cI→Fn cx.P f args H mv cI)(hr:Rel cx ι st a w){o:Oper}{f:Nat}{args:List AV}{vs:Array Value}
 (aT:(execOp a.eval o).run cx.P w=(callFunc f vs).run cx.P w) (cV:fG w ι args vs) (hd:∀t,o.dst=some t→cx.bw t=true) {q:Bool} {k:St→Prop}
 (h:iW cx.E q f args o.dst st k) {Q:Exit→Act→World→Prop}:o.wp cx.P a w (g_ cx q w k) Q:=by
 have h:=h.1
 unfold mc at h
 obtain⟨ids,H,gI,mv,cI,fr,flat,hc,⟨hq,PJ,Cl,Cm,Hz,vM,hlen,PK,Cn,rn⟩,hH,hK,hk⟩:=h
 obtain⟨Co,mA⟩:=hF _ _ _ _ _ hc
 have Cl:=Hg Cl
 have Cm:=Hg Cm
 have Hz:=Hf Hz
 have vM:=Hf vM
 have ia:=Pj PK
 have Cn:=Pk Cn
 have Cp:=rn
 have rn:=Pm rn
 have Cq:∀i∈ids,i<st.heap.length:=λi hi=>hr.mem.hr.fO (rn i hi)
 have HA:∀b:Bn,st.heap.length≤b.base→ι b=none:=λb hb=>by
  cases hq:ι b with
  |none=>rfl
  |some p=>
   obtain⟨c',o',s'⟩:=p
   obtain⟨ob,_,yA⟩:=hr.mem.hr.size hq
   have:=hr.mem.hr.fO yA;omega
 have Cr:flat=true→ids=[]∧fr=[]:=λhf=>by
  rw[hf]at PJ
  cases ids<;>cases fr<;>simp_all [isNil]
 let Xc:Nat→Prop:=λc=>ι.X c∨(flat=false∧∃(b:Bn) (o s:Nat),b.base∉ids∧b.base∉fr∧ι b=some (c,o,s))
 let bZ:az:=⟨λb=>if b.base∈ids then ι b else none,Xc,λ_=>False,[],False⟩
 have pQ:∀(b:Bn) c o s,bZ b=some (c,o,s)→b.base∈ids∧ι b=some (c,o,s):=λb c o s hb=>by
  have hb:(if b.base∈ids then ι b else none)=some (c,o,s):=hb
  split at hb
  ·exact⟨by assumption,hb⟩
  ·cases hb
 have HC:∀c,bZ.M c→ι.M c:=λc hc=>by
  rcases hc with⟨b,o,s,hb⟩|hX|⟨_,b,o,s,_,_,hb⟩
  ·exact .inl ⟨b,o,s,(pQ _ _ _ _ hb).2⟩
  ·exact .inr hX
  ·exact .inl ⟨b,o,s,hb⟩
 have oJ:∀b:Bn,(flat||memN fr b.base)=true→∀c o s,ι b=some (c,o,s)→¬bZ.M c:=by
  intro b hb c o s kT pW
  rcases pW with⟨b',o',s',a7⟩|hX|⟨hf,b',o',s',h1,h2,a7⟩
  ·obtain⟨a_,a7⟩:=pQ _ _ _ _ a7
   have:=hr.mem.hr.inj _ _ _ _ _ _ _ kT a7
   subst this
   cases ib:flat with
   |true=>obtain⟨e,_⟩:=Cr ib;rw[e]at a_;cases a_
   |false=>
    rw[ib]at hb
    exact Cn b.base (vJ.1 (by simpa using hb)) a_
  ·exact hr.mem.hr.cD _ _ _ _ kT hX
  ·have:=hr.mem.hr.inj _ _ _ _ _ _ _ kT a7
   subst this
   rw[hf]at hb
   exact h2 (vJ.1 (by simpa using hb))
 have s8:∀b:Nat,memN ids b=true→∀p,ι (.v b)=some p→bZ (.v b)=some p:=λb hb p hp=>by
  show(if b∈ids then ι (.v b)else none)=some p
  rw[aaS (vJ.1 hb)];exact hp
 let fT:az:=⟨λj=>if j.base<ids.length then ι (j.map (nth 0 ids))else none,Xc,λ_=>False,[],False⟩
 have nI:∀j:Bn,j.base<ids.length→fT j=ι (j.map (nth 0 ids)):=λj hj=>aaS hj
 have tf:∀j:Bn,ids.length≤j.base→fT j=none:=λj hj=>aaR (by omega)
 have fm:∀c,fT.I c→∃(b:Bn) (o s:Nat),b.base∈ids∧ι b=some (c,o,s):=by
  rintro c ⟨j,o,s,hj⟩
  by_cases h1:j.base<ids.length
  ·rw[nI j h1]at hj;exact⟨_,o,s,by rw[Bn.pV];exact oL h1,hj⟩
  ·rw[tf j (by omega)]at hj;cases hj
 have HD:∀c,fT.M c→bZ.M c:=λc hc=>by
  rcases hc with hc|hc
  ·obtain⟨b,o,s,hb,kT⟩:=fm c hc
   exact .inl ⟨b,o,s,by show(if b.base∈ids then ι b else none)=_;rw[aaS hb];exact kT⟩
  ·exact .inr hc
 have PM:∀(b:Bn) p,bZ (b.map (renB ids st.heap.length))=some p→fT b=some p:=λb p hp=>by
  by_cases hb:b.base<ids.length
  ·rw[Bn.map_congr (rj hb)]at hp
   rw[nI b hb]
   obtain⟨c,o,s⟩:=p
   exact(pQ _ _ _ _ hp).2
  ·obtain⟨c,o,s⟩:=p
   obtain⟨a_,_⟩:=pQ _ _ _ _ hp
   rw[Bn.pV,s9 (by omega)]at a_
   have:=Cq _ a_;omega
 have vN:∀b,b<ids.length→(nth .dead H b).ren ids st.heap.length=nth .dead st.heap (nth 0 ids b):=λb hb=>by
  rw[←rk,hH,Hi _ _ _ hb]
 have HE:∀(b:Bn) p,ι (b.map (renB ids st.heap.length))=some p→fT b=some p:=λb p hp=>by
  by_cases hb:b.base<ids.length
  ·rw[Bn.map_congr (rj hb)]at hp;rw[nI b hb];exact hp
  ·rw[HA _ (by rw[Bn.pV,s9 (by omega)];omega)]at hp;cases hp
 have HF:∀b∈ids,∀i,ι (.h b i)=none:=λb hb i=>(hr.mem.hr.hid b i).none (Cd Cp b hb)
 have pW:∀c,fT.M c→ι.M c:=λc hc=>HC c (HD c hc)
 have Cs:bc ι.M w w fT.M:=⟨λ_ _ _ h=>h,λc hc=>.inl (pW c hc),aaV _⟩
 have Ct:bL fT H w:=by
  refine⟨hr.mem.hr.gl.later Cs,λb=>?_,λb b' c o s o' s' h1 h2=>?_,λb c o s h1=>?_,λb i=>?_⟩
  ·by_cases hb:b<ids.length
   ·have bq:=hr.mem.hr.blk (nth 0 ids b)
    rw[←vN b hb]at bq
    have jd:=Cd Cp _ (oL hb)
    rw[←vN b hb]at jd
    rw[nI (.v b) hb]
    cases dN:nth .dead H b with
    |pn wo wd c op=>rw[dN]at jd;cases jd
    |bF ag ks wd e op=>rw[dN]at jd;cases jd
    |mi m n s=>
     have:=vN b hb
     rw[dN]at this
     exact absurd this.symm (Po (by assumption) _ (oL hb) _ _ _)
    |dead=>rw[dN]at bq;exact bq
    |mx cells=>
     rw[dN]at bq
     obtain⟨c,o,s,cs,ty,fz,hp,g1,g2,g3,g4,g5⟩:=bq
     refine⟨c,o,s,cs,ty,fz,hp,g1,g2,g3,by rw[jA]at g4;exact g4,λj x hx=>?_⟩
     obtain⟨v,q1,q2,q3⟩:=g5 j (AV.ren ids st.heap.length x) (by rw[jz,hx];rfl)
     exact⟨v,q1,q2,RA.Ch HE pW x q3⟩
    |pr wd rows=>
     rw[dN]at bq
     rcases bq with h0|⟨c,o,s,cs,ty,fz,hp,g1,g2,g3,g4,g5,g6⟩
     ·exact .inl h0
     ·refine .inr ⟨c,o,s,cs,ty,fz,hp,g1,g2,g3,g4,g5,λi row j x hi hx=>?_⟩
      obtain⟨q1,v,q2,q3⟩:=g6 i row j x hi hx
      exact⟨q1,v,q2,q3.later Cs⟩
    |mp ag ks ents=>
     rw[dN]at bq
     obtain⟨c,o,s,hp,g1⟩:=bq
     exact⟨c,o,s,hp,g1.later Cs rfl⟩
    |ax n arr cells=>
     rw[dN]at bq
     have er:arr.map AV.p++AV.dX ids st.heap.length cells=AV.dX ids st.heap.length (arr.map AV.p++cells):=by rw[Cg,oM]
     obtain⟨hn,c,o,s,cs,ty,fz,hp,g1,g2,g3,g4,g5⟩:=bq
     rw[er,jA]at g4
     refine⟨hn,c,o,s,cs,ty,fz,hp,g1,g2,g3,g4,λj x hx=>?_⟩
     obtain⟨v,q1,q2,q3⟩:=g5 j (AV.ren ids st.heap.length x) (by rw[er,jz,hx];rfl)
     exact⟨v,q1,q2,RA.Ch HE pW x q3⟩
    |gh l r=>
     have:=vN b hb
     rw[dN]at this
     exact absurd this.symm (Pn (by assumption) _ (oL hb) l r)
   ·rw[tf (.v b) (by show _≤b;omega),mg _ _ _ (by omega)];rfl
  ·by_cases hb:b.base<ids.length
   ·by_cases a7:b'.base<ids.length
    ·rw[nI b hb]at h1
     rw[nI b' a7]at h2
     have e:=hr.mem.hr.inj _ _ _ _ _ _ _ h1 h2
     rw[←Bn.oK (x:=b) (Cf ia hb),←Bn.oK (x:=b') (Cf ia a7),e]
    ·rw[tf b' (by omega)]at h2;cases h2
   ·rw[tf b (by omega)]at h1;cases h1
  ·by_cases hb:b.base<ids.length
   ·rw[nI b hb]at h1
    rintro (hX|⟨_,b',o',s',g1,_,g2⟩)
    ·exact hr.mem.hr.cD _ _ _ _ h1 hX
    ·have e:=hr.mem.hr.inj _ _ _ _ _ _ _ h1 g2
     exact g1 (by rw[←e,Bn.pV];exact oL hb)
   ·rw[tf b (by omega)]at h1;cases h1
  ·by_cases hb:b<ids.length
   ·refine HB.bare ?_ ((nI (.h b i) hb).trans (HF _ (oL hb) i))
    have jd:=Cd Cp _ (oL hb)
    rw[←vN b hb]at jd
    cases hq:nth Blk.dead H b<;>rw[hq]at jd<;>first|rfl|cases jd
   ·rw[mg _ _ _ (by omega)];exact HB.bare rfl (tf (.h b i) (by show _≤b;omega))
 have Cu:∀c,fT.X c→c<w.heap.size:=λc hc=>by
  rcases hc with hX|⟨_,b,o,s,_,_,hb⟩
  ·exact hr.mem.xl c hX
  ·exact hr.mem.hr.lt ⟨b,o,s,hb⟩
 obtain⟨PN,PO⟩:=hK.get
 have PQ:fG w fT gI vs:=by
  refine⟨by rw[cV.1,PN,jA],λi x hx=>?_⟩
  obtain⟨x0,g0,g1⟩:=PO i (AV.ren ids st.heap.length x) (by rw[jz,hx];rfl)
  exact RA.Ch PM HD x (ah.sound hr.mem.hr oJ s8 HC (cV.2 i x0 g0) g1)
 have th:=mA w fT vs (λh=>h) Cu Ct PQ
 unfold Oper.wp
 rw[aT,Hy Co]
 refine Calls.mono th ?_
 rintro e w' ⟨r,v,aC,H',rfl,PR,PT,ti,PU,⟨vO,fo⟩,nJ,cw,eD,dq,HG⟩
 show g_ cx q w k (a.put o.dst v) w'
 obtain⟨ib,ff⟩:=hk r H' PR PT
 have Cv:aC.X=Xc:=vO
 let de:az:={ι with m:=λb=>if b.base∈ids then aC (b.map (idxN ids))else if st.heap.length≤b.base then aC (b.map λb=>ids.length+(b - st.heap.length))else if b.base∈fr then none else ι b}
 have rq:∀b:Bn,b.base∈ids→de b=aC (b.map (idxN ids)):=λb hb=>aaS hb
 have vP:∀b:Bn,b.base∉ids→st.heap.length≤b.base→de b=aC (b.map λb=>ids.length+(b - st.heap.length)):=λb hb h1=>by
  show(if _ then _ else _)=_
  rw[aaR hb,aaS h1]
 have Cw:∀b:Bn,b.base∉ids→b.base<st.heap.length→b.base∈fr→de b=none:=λb hb h1 h2=>by
  show(if _ then _ else _)=_
  rw[aaR hb,aaR (by omega),aaS h2]
 have tj:∀b:Bn,b.base∉ids→b.base<st.heap.length→b.base∉fr→de b=ι b:=λb hb h1 h2=>by
  show(if _ then _ else _)=_
  rw[aaR hb,aaR (by omega),aaR h2]
 have ru:∀(b:Bn) p,de b=some p→(∃j:Bn,aC j=some p∧b=j.map (renB ids st.heap.length))∨(b.base∉ids∧b.base<st.heap.length∧b.base∉fr∧ι b=some p):=by
  intro b p hp
  by_cases h1:b.base∈ids
  ·rw[rq b h1]at hp
   obtain⟨g1,g2⟩:=Ce h1
   exact .inl ⟨_,hp,(Bn.oK (by rw[rj g1,g2])).symm⟩
  ·by_cases h2:st.heap.length≤b.base
   ·rw[vP b h1 h2]at hp
    exact .inl ⟨_,hp,(Bn.oK (by rw[s9 (by omega)];omega)).symm⟩
   ·by_cases h4:b.base∈fr
    ·rw[Cw b h1 (by omega) h4]at hp;cases hp
    ·rw[tj b h1 (by omega) h4]at hp
     exact .inr ⟨h1,by omega,h4,hp⟩
 have HH:∀(j:Bn) p,aC j=some p→de (j.map (renB ids st.heap.length))=some p:=λj p hp=>by
  by_cases hj:j.base<ids.length
  ·rw[rq _ (by rw[Bn.pV,rj hj];exact oL hj),Bn.oK (by rw[rj hj];exact Cf ia hj)];exact hp
  ·rw[vP _ (λa_=>by rw[Bn.pV,s9 (by omega)]at a_;have:=Cq _ a_;omega) (by rw[Bn.pV,s9 (by omega)];omega),Bn.oK (by rw[s9 (by omega)];omega)]
   exact hp
 have Cy:∀c,aC.I c→(∃(b:Bn) (o s:Nat),b.base∈ids∧ι b=some (c,o,s))∨w.heap.size≤c:=λc hc=>(eD c hc).imp (fm c) id
 have Cz:flat=true→∀j,aC j=none:=λhf j=>by
  obtain⟨_,e⟩:=ib hf
  cases hq:aC j with
  |none=>rfl
  |some p=>
   obtain⟨c,o,s⟩:=p
   obtain⟨ob,_,yA⟩:=ti.size hq
   rw[e]at yA
   exact absurd rfl yA
 have CA:∀c,de.M c→(flat=false→aC.M c):=by
  intro c hc hf
  rcases hc with⟨b,o,s,hb⟩|hX
  ·rcases ru b _ hb with⟨j,hj,_⟩|⟨g1,g2,g3,g4⟩
   ·exact .inl ⟨j,o,s,hj⟩
   ·right;rw[Cv];exact .inr ⟨hf,b,o,s,g1,g3,g4⟩
  ·right;rw[Cv];exact .inl hX
 have yB:bc ι.M w w' de.M:=by
  refine⟨λc x hc hx=>nJ c x (λrz=>?_) hx,λc hc=>?_,cw⟩
  ·obtain⟨b,o,s,_,hb⟩:=fm c rz
   exact hc (.inl ⟨b,o,s,hb⟩)
  ·rcases hc with⟨b,o,s,hb⟩|hX
   ·rcases ru b _ hb with⟨j,hj,_⟩|⟨g1,g2,g3,g4⟩
    ·rcases Cy c ⟨j,o,s,hj⟩with⟨b',o',s',_,a7⟩|dH
     ·exact .inl (.inl ⟨b',o',s',a7⟩)
     ·exact .inr dH
    ·exact .inl (.inl ⟨b,o,s,g4⟩)
   ·exact .inl (.inr hX)
 have HI:∀j,j<ids.length→nth 0 ids j∉eU ids mv→memN mv j=false:=by
  intro j hj hn
  rw[Cc]
  intro a_
  apply hn
  have:∀l:List Nat,j∈l→nth 0 ids j∈eU ids l:=by
   intro l
   induction l with
   |nil=>intro h;cases h
   |cons x r ih=>
    intro h
    rcases abb.1 h with e|h
    ·subst e;simp[eU]
    ·simp[eU,ih h]
  exact this mv a_
 have HJ:∀b:Bn,b.base∉fr++eU ids mv→∀p,ι b=some p→de b=some p:=by
  intro b hb p hp
  simp only[abr,not_or]at hb
  have aq:b.base<st.heap.length:=by
   rcases abL b.base st.heap.length with h1|h1
   ·exact h1
   ·rw[HA b h1]at hp;cases hp
  by_cases h1:b.base∈ids
  ·cases b with
   |h b i=>rw[HF b h1 i]at hp;cases hp
   |v b=>
    have h1:b∈ids:=h1
    obtain⟨g1,g2⟩:=Ce h1
    rw[rq (.v b) h1]
    show aC (.v (idxN ids b))=_
    rw[HG _ (by omega) (HI _ g1 (by rw[g2];exact hb.2)),nI (.v _) g1]
    show ι (.v (nth 0 ids (idxN ids b)))=_
    rw[g2]
    exact hp
  ·rw[tj b h1 aq hb.1];exact hp
 have vQ:(killAll (eU ids mv) (eV fr st)).heap.length=st.heap.length:=by rw[PG,PI]
 have CB:=λb=>Pq (killAll (eU ids mv) (eV fr st)).heap ids (fA ids st.heap.length H') b ia (λi hi=>by rw[vQ];exact Cq i hi) (by rw[Hh];omega)
 have jx:∀(b:Bn) c o s,b.base∉ids→ι b=some (c,o,s)→∀o' s' j,aC j=some (c,o',s')→False:=by
  intro b c o s hb kT o' s' j hj
  rcases Cy c ⟨j,o',s',hj⟩with⟨b',o2,s2,g1,g2⟩|dH
  ·have:=hr.mem.hr.inj _ _ _ _ _ _ _ kT g2
   exact hb (this▸g1)
  ·have:=hr.mem.hr.lt ⟨b,o,s,kT⟩;omega
 have CC:∀x u,RA w' aC x u→(flat=false∨flatV x=true)→RA w' de (AV.ren ids st.heap.length x) u:=by
  intro x u hx pX
  cases HK:flat with
  |true=>exact hx.flat (pX.resolve_left (by simp[HK])) _ _
  |false=>exact RA.ren HH (λc hc=>CA c hc HK) hx
 have PW:Mem cx de (backH (killAll (eU ids mv) (eV fr st)).heap ids (fA ids st.heap.length H')) w':=by
  have HL:∀j l r,nth .dead H' j≠.gh l r:=λj l r e=>by
   have:=ti.blk j
   rw[e]at this
   exact fo this.2
  have HM:∀j l r,nth .dead (fA ids st.heap.length H') j≠.gh l r:=λj l r e=>by
   rw[rk]at e
   refine HL j l r ?_
   cases hq:nth .dead H' j<;>rw[hq]at e<;>simp[Blk.ren]at e ⊢
   exact e
  have hold:∀(b:Bn) c o s,b.base∉ids→ι b=some (c,o,s)→w'.heap[c]? =w.heap[c]?:=λb c o s h1 hb=>by
   obtain⟨ob,q1,_⟩:=hr.mem.hr.size hb
   rw[q1]
   refine nJ c _ (λrz=>?_) q1
   obtain⟨b',o',s',g1,g2⟩:=fm c rz
   have:=hr.mem.hr.inj _ _ _ _ _ _ _ hb g2
   exact h1 (this▸g1)
  refine hr.mem.step ⟨hr.mem.hr.gl.later yB,λb=>?_,λb1 b2 c o1 s1 o2 s2 g1 g2=>?_,λb c o s g1=>?_,λb i=>?_⟩ (λc x hc hx=>?_) (λc hc=>?_) cw dq rfl rfl rfl rfl
   (λb hb=>?_) ?_ (λl r hl=>?_)
  ·rw[CB b,vQ]
   have callee:∀j:Nat,(flat=true→False)→RB w' de (aC (.v j)) ((nth .dead H' j).ren ids st.heap.length):=by
    intro j hf
    have vR:flat=false:=by cases hq:flat;rfl;exact absurd hq hf
    have bq:=ti.blk j
    have pS:bc aC.M w' w' de.M:=⟨λ_ _ _ h=>h,λc hc=>.inl (CA c hc vR),aaV _⟩
    cases dN:nth .dead H' j with
    |dead=>rw[dN]at bq;exact bq
    |mx cells=>
     rw[dN]at bq
     obtain⟨c,o,s,cs,ty,fz,hp,q1,q2,q3,q4,q5⟩:=bq
     refine⟨c,o,s,cs,ty,fz,hp,q1,q2,q3,by rw[jA];exact q4,λi x hx=>?_⟩
     rw[jz]at hx
     obtain⟨z,hz,rfl⟩:=aa0.1 hx
     obtain⟨u,p1,p2,p3⟩:=q5 i z hz
     exact⟨u,p1,p2,CC z u p3 (.inl vR)⟩
    |pr wd rows=>
     rw[dN]at bq
     rcases bq with h0|⟨c,o,s,cs,ty,fz,hp,q1,q2,q3,q4,q5,q6⟩
     ·exact .inl h0
     ·refine .inr ⟨c,o,s,cs,ty,fz,hp,q1,q2,q3,q4,q5,λi row j x hi hx=>?_⟩
      obtain⟨p1,u,p2,p3⟩:=q6 i row j x hi hx
      exact⟨p1,u,p2,p3.later pS⟩
    |mp ag ks ents=>
     rw[dN]at bq
     obtain⟨c,o,s,hp,g1⟩:=bq
     exact⟨c,o,s,hp,g1.later pS rfl⟩
    |ax n arr cells=>
     rw[dN]at bq
     have er:arr.map AV.p++AV.dX ids st.heap.length cells=AV.dX ids st.heap.length (arr.map AV.p++cells):=by rw[Cg,oM]
     obtain⟨hn,c,o,s,cs,ty,fz,hp,q1,q2,q3,q4,q5⟩:=bq
     refine⟨hn,c,o,s,cs,ty,fz,hp,q1,q2,q3,by rw[er,jA];exact q4,λi x hx=>?_⟩
     rw[er,jz]at hx
     obtain⟨z,hz,rfl⟩:=aa0.1 hx
     obtain⟨u,p1,p2,p3⟩:=q5 i z hz
     exact⟨u,p1,p2,CC z u p3 (.inl vR)⟩
    |pn wo wd c op=>rw[dN]at bq;exact RB.sG pS (λ_ _ _ _=>rfl) bq
    |bF ag ks wd e op=>rw[dN]at bq;exact RB.sH pS (λ_ _ _ _=>rfl) bq
    |mi m n s=>
     rw[dN]at bq
     refine RB.qN (λb hb=>?_) (λ_ _ _ _=>rfl) bq
     obtain⟨b',a7,rfl⟩:=aa0.1 hb
     exact⟨b',a7,λp hp=>HH (.v b') p hp⟩
    |gh l r=>exact absurd dN (HL j l r)
   by_cases h1:b∈ids
   ·rw[aaS h1,rq (.v b) h1,rk]
    exact callee _ λhf=>by rw[(Cr hf).1]at h1;cases h1
   ·rw[aaR h1]
    by_cases h2:st.heap.length≤b
    ·rw[aaS h2,vP (.v b) h1 h2,rk]
     cases nK:flat with
     |true=>rw[Cz nK,(ib nK).2];rfl
     |false=>exact callee _ (by simp[nK])
    ·rw[aaR h2,Cj,Ck fr st vM]
     by_cases h4:b∈fr
     ·rw[aaS h4,ta,Cw (.v b) h1 (by show b<_;omega) h4];rfl
     ·rw[aaR h4,←Hj,tj (.v b) h1 (by show b<_;omega) h4]
      exact(hr.mem.hr.blk b).kills yB (λh=>h) HJ λc o s hb=>hold (.v b) c o s h1 hb
  ·rcases ru b1 _ g1 with⟨j1,q1,e1⟩|⟨q1,q2,q3,q4⟩
   ·rcases ru b2 _ g2 with⟨j2,p1,e2⟩|⟨p1,p2,p3,p4⟩
    ·have:=ti.inj _ _ _ _ _ _ _ q1 p1
     rw[e1,e2,this]
    ·exact(jx _ _ _ _ p1 p4 _ _ _ q1).elim
   ·rcases ru b2 _ g2 with⟨j2,p1,e2⟩|⟨p1,p2,p3,p4⟩
    ·exact(jx _ _ _ _ q1 q4 _ _ _ p1).elim
    ·exact hr.mem.hr.inj _ _ _ _ _ _ _ q4 p4
  ·rcases ru b _ g1 with⟨j1,q1,e1⟩|⟨q1,q2,q3,q4⟩
   ·intro hX
    have:=ti.cD _ _ _ _ q1
    rw[Cv]at this
    exact this (.inl hX)
   ·exact hr.mem.hr.cD _ _ _ _ q4
  ·rw[CB b,vQ]
   have callee:∀j:Nat,(flat=true→False)→HB w' de (aC (.v j)) (aC (.h j i)) i ((nth .dead H' j).ren ids st.heap.length):=by
    intro j hf
    have vR:flat=false:=by cases hq:flat;rfl;exact absurd hq hf
    have pS:bc aC.M w' w' de.M:=⟨λ_ _ _ h=>h,λc hc=>.inl (CA c hc vR),aaV _⟩
    exact((ti.hid j i).later pS (λ_ _ _ _=>rfl) (λ_ _ _ _=>rfl)).ren _ _
   by_cases h1:b∈ids
   ·rw[aaS h1,rq (.v b) h1,rq (.h b i) h1,rk]
    exact callee _ λhf=>by rw[(Cr hf).1]at h1;cases h1
   ·rw[aaR h1]
    by_cases h2:st.heap.length≤b
    ·rw[aaS h2,vP (.v b) h1 h2,vP (.h b i) h1 h2,rk]
     cases nK:flat with
     |true=>rw[Cz nK,Cz nK,(ib nK).2];rfl
     |false=>exact callee _ (by simp[nK])
    ·rw[aaR h2,Cj,Ck fr st vM]
     by_cases h4:b∈fr
     ·rw[aaS h4,ta];exact HB.bare rfl (Cw (.h b i) h1 (by show b<_;omega) h4)
     ·rw[aaR h4,←Hj,tj (.v b) h1 (by show b<_;omega) h4,tj (.h b i) h1 (by show b<_;omega) h4]
      exact((hr.mem.hr.hid b i).later yB (λc o s hb=>hold (.v b) c o s h1 hb) (λc o s hb=>hold (.h b i) c o s h1 hb)).kills _
  ·refine nJ c x (λrz=>?_) hx
   obtain⟨b',o',s',_,g2⟩:=fm c rz
   exact hc ⟨b',o',s',g2⟩
  ·obtain⟨b,o,s,hb⟩:=hc
   rcases ru b _ hb with⟨j1,q1,e1⟩|⟨q1,q2,q3,q4⟩
   ·rcases Cy c ⟨j1,o,s,q1⟩with⟨b',o',s',_,g2⟩|dH
    ·exact .inl ⟨b',o',s',g2⟩
    ·exact .inr dH
   ·exact .inl ⟨b,o,s,q4⟩
  ·have h_:b<st.heap.length:=abY (cx.fk b hb) hr.mem.kl
   by_cases h1:b∈ids
   ·obtain⟨g1,g2⟩:=Ce h1
    rw[rq (.v b) h1]
    show aC (.v (idxN ids b))=_
    rw[HG _ (by omega) (HI _ g1 (by rw[g2];intro a_;have:=Cl _ a_;rw[hb]at this;cases this)),nI (.v _) g1]
    show ι (.v (nth 0 ids (idxN ids b)))=_
    rw[g2]
   ·rw[tj (.v b) h1 h_ (λa_=>by have this:cx.E.fx b=false:=Cm _ a_;rw[hb]at this;cases this)]
  ·rw[Pp _ _ _ (by rw[Hh];omega),vQ]
   exact abg hr.mem.kl (adL _ _)
  ·rw[CB 0,vQ]at hl
   split at hl
   ·exact absurd hl (HM _ l r)
   ·split at hl
    ·exact absurd hl (HM _ l r)
    ·rw[Cj,Ck fr st vM]at hl
     split at hl
     ·rw[ta]at hl;cases hl
     ·exact Hx (Hx hl)
 have nL:∀s,RA w' de (lk (killAll (eU ids mv) (eV fr st)).tmps s) (a.tmps.getD s undef):=λs=>by
  rw[PE,PH,←Pt]
  exact(hr.tm s).kills yB HJ
 have nM:RA w' de (AV.ren ids st.heap.length r) v:=CC r v PU (by
  cases nK:flat with
  |true=>exact .inr (ib nK).1
  |false=>exact .inl rfl)
 refine⟨⟨de,_,Rel.put (st:=⟨(killAll (eU ids mv) (eV fr st)).tmps,backH (killAll (eU ids mv) (eV fr st)).heap ids (fA ids st.heap.length H')⟩) ⟨PW,nL,hr.sz,hr.df⟩ hd nM,ff⟩,λPX=>?_⟩
 intro c x hx
 refine nJ c x (λrz=>?_) hx
 obtain⟨b',o',s',g1,_⟩:=fm c rz
 rw[PX]at hq
 cases ids with
 |nil=>cases g1
 |cons y r=>simp[isNil]at hq
end
theorem PY{k:CK}{x y:PV}(hx:xL k x)(hy:xL k y)(h:cellEq x y=true):x=y:=by
 cases k<;>cases x<;>first|exact hx.elim|skip
 all_goals cases y<;>first|exact hy.elim|skip
 ·obtain⟨rfl,_⟩:=eC hx
  obtain⟨rfl,_⟩:=eC hy
  simp[cellEq]at h;rw[h]
 ·simp[cellEq]at h;rw[h]
 ·simp[cellEq]at h;rw[h]
theorem HN:∀{ks:List CK} {xs ys:List PV},cellsK ks xs→cellsK ks ys→cellsEq xs ys=true→xs=ys
 |[],[],[],_,_,_=>rfl
 |[],_::_,_,h,_,_=>h.elim
 |[],[],_::_,_,h,_=>h.elim
 |_::_,[],_,h,_,_=>h.elim
 |_::_,_::_,[],_,h,_=>h.elim
 |k::ks,x::r,y::s,h,g,e=>by
  simp only[cellsEq,aa2]at e
  rw[PY h.1 g.1 e.1,HN h.2 g.2 e.2]
theorem CD{ag:Bool}{ks:List CK}{x y:PV}(hx:dR ag ks x)(hy:dR ag ks y)(h:keyEq x y=true):x=y:=by
 rw[Gw hx hy]at h
 have:=HN (ml hx) (ml hy) h
 cases ag
 ·simpa [keyCells]using this
 ·cases x<;>first|exact hx.elim|skip
  cases y<;>first|exact hy.elim|skip
  simpa [keyCells]using this
theorem HO{n:Nat}{x:PV}(h:j6 x=true):Instr.sameBits n (valOf x) (valOf x)=true:=by
 cases x<;>first|(cases h;done)|skip
 all_goals cases n<;>simp[valOf,Instr.sameBits,beq_toListBytes]
theorem CE{P:Program}{t:TypeId}{ag:Bool}{ks:List CK}(hk:keyK P t=some (ag,ks)){x:PV}(hx:dR ag ks x):Instr.sameBits 10000 (dK P t (keyCells ag x)) (dK P t (keyCells ag x))=true:=by
 obtain⟨h1,h2,h3⟩:=nq hk
 obtain⟨_,hp⟩:=ot (ml hx)
 unfold dK
 rw[h2]
 cases ag
 ·simp only[keyCells,List.headD_cons]
  exact HO (hp x (by simp[keyCells]))
 ·simp only[Instr.sameBits,beq_self_eq_true,abZ,abl]
  intro p gA
  have:p.1=p.2∧p.1∈(keyCells true x).map valOf:=by
   have:=List.of_mem_zip (a:=p.1) (b:=p.2) gA
   have h4:∀(l:List Value),∀q∈l.zip l,q.1=q.2:=by
    intro l
    induction l with
    |nil=>simp
    |cons v r ih=>intro q hq;simp at hq;rcases hq with rfl|hq;rfl;exact ih q hq
   exact⟨h4 _ p gA,by simpa using this.1⟩
  obtain⟨e,hm⟩:=this
  obtain⟨y,hy,PZ⟩:=abe.1 hm
  rw[←e,←PZ]
  exact HO (hp y hy)
theorem CF{ents:List (PV×PV)}{x:PV}{i0 i:Nat}{v:PV}(h:mfind ents x i0=some (i,v)):∃j kk,i=i0+j∧ents[j]? =some (kk,v)∧keyEq x kk=true:=by
 induction ents generalizing i0 with
 |nil=>cases h
 |cons e r ih=>
  obtain⟨k,u⟩:=e
  unfold mfind at h
  cases hc:keyEq x k with
  |true=>rw[hc]at h;cases h;exact⟨0,k,rfl,rfl,hc⟩
  |false=>
   rw[hc]at h
   obtain⟨j,kk,h1,h2,h3⟩:=ih h
   exact⟨j+1,kk,by omega,by simpa using h2,h3⟩
theorem HP{ents:List (PV×PV)}{x v:PV}{i0:Nat}(h:mfind ents x i0=none):mput ents x v=ents++[(x,v)]:=by
 induction ents generalizing i0 with
 |nil=>rfl
 |cons e r ih=>
  obtain⟨k,u⟩:=e
  unfold mfind at h
  unfold mput
  cases hc:keyEq x k with
  |true=>rw[hc]at h;cases h
  |false=>rw[hc]at h;simp only[cond_false];rw[ih h];rfl
theorem P1{ents:List (PV×PV)}{x v u:PV}{i0 j:Nat}(h:mfind ents x i0=some (i0+j,u)):mput ents x v=ents.set j (x,v):=by
 induction ents generalizing i0 j with
 |nil=>cases h
 |cons e r ih=>
  obtain⟨k,w⟩:=e
  unfold mfind at h
  unfold mput
  cases hc:keyEq x k with
  |true=>
   rw[hc]at h
   simp only[cond_true,adt,acV]at h
   have:j=0:=by omega
   subst this
   rfl
  |false=>
   rw[hc]at h
   simp only[cond_false]at h ⊢
   obtain⟨j',_,h1,_,_⟩:=CF h
   have e:j=j'+1:=by omega
   subst e
   rw[ih (j:=j') (by rw[h];congr 2;try omega)]
   rfl
theorem P2{ents:List (PV×PV)}{n:Nat}{v:PV}:∀(i:Nat),(setVal ents n v)[i]? =if i=n then(ents[i]?).map (λe=>(e.1,v))else ents[i]?:=by
 induction ents generalizing n with
 |nil=>intro i;simp[setVal]
 |cons e r ih=>
  intro i
  obtain⟨k,u⟩:=e
  cases n with
  |zero=>cases i<;>simp[setVal]
  |succ n=>cases i<;>simp[setVal,ih]
theorem HQ{ents:List (PV×PV)}{n:Nat}{v:PV}:(setVal ents n v).length=ents.length:=by
 induction ents generalizing n with
 |nil=>rfl
 |cons e r ih=>obtain⟨k,u⟩:=e;cases n<;>simp[setVal,ih]
theorem HR{α:Type}(d:α){l:List α}{n:Nat}{x:α}(h:nth d l n=x)(hl:n<l.length):setNth l n x=l:=by
 rw[eA]
 apply abw
 intro i
 rw[abd]
 by_cases e:n=i
 ·subst e
  rw[iD,aaU hl]at h
  simp at h
  simp[hl,h]
 ·simp[e]
section
variable {cx:Cx} {ι:az} {st:St} {a:Act} {w:World}
theorem P3(hr:Rel cx ι st a w){o:Oper}{t:TypeId}{ag:Bool}{ks:List CK}(ho:o.op=.makeMap t none)(hd:∀t,o.dst=some t→cx.bw t=true)
 {q:Bool} {k:St→Prop} (h:k (iX st o.dst (.mpr st.heap.length) (.mp ag ks []))) {Q:Exit→Act→World→Prop}:o.wp cx.P a w (g_ cx q w k) Q:=by
 have aT:(execOp a.eval o).run cx.P w=.ok (.value (.map (some w.heap.size))) (dD w (.map #[] 0)):=by
  simp[execOp,ho,Instr.makeMap,newObj]
  rfl
 refine dO aT ?_
 have jg:(dD w (.map #[] 0)).heap[w.heap.size]? =some (.map #[] 0):=nv _ _
 obtain⟨hm,hL,bh⟩:=hr.mem.lay (w':=dD w (.map #[] 0)) (c:=w.heap.size) (o:=0) (s:=0) (blk:=.mp ag ks []) (aaV _) (j8 w _) ⟨rfl,rfl⟩
  (λhL bh=>⟨_,_,_,rfl,#[],jg,rfl,by simp⟩)
 refine⟨⟨_,_,⟨?_,sJ (st:=⟨st.tmps,st.heap++[Blk.mp ag ks []]⟩) (jf hL bh hr.tm) hr.sz.1 (λt ht=>cx.eI t (hd t ht)) (RA.mpr (az.oz _ _ _)),Sz.put hr.sz hd _,by rw[Act.sI];exact hr.df⟩,h⟩,λ_=>j8 w _⟩
 rw[pE];exact hm
theorem vS(hr:Rel cx ι st a w){b c o s:Nat}(hb:ι b=some (c,o,s))(lJ:(nth .dead st.heap b).bare=true){ag:Bool}{ks:List CK}{ents:List (PV×PV)}{es:Array MapEntry}{ob:Obj}(hc:w.heap[c]? =some ob)(h2:es.size=ents.length)
 (h3:∀(i:Nat) k v,ents[i]? =some (k,v)→dR ag ks k∧∃e,es[i]? =some e∧e.born=i∧RP w ι.M k e.key∧RP w ι.M v e.val):
 Rel cx ι ⟨st.tmps,setNth st.heap b (.mp ag ks ents)⟩ a (bB w c (.map es ents.length)):=by
 have aq:c<w.heap.size:=(aa8.1 hc).1
 obtain⟨hm,hL⟩:=hr.mem.write hb (w':=bB w c (.map es ents.length)) (blk:=.mp ag ks ents) (λd x hd hx=>by rw[fg w _ hd];exact hx) (by simp[bB]) ⟨rfl,rfl⟩
  (λhL=>⟨c,o,s,rfl,es,iH w c _ aq,h2,λi k v hi=>by
   obtain⟨g0,e,g1,g2,g3,g4⟩:=h3 i k v hi
   exact⟨g0,e,g1,g2,g3.later hL,g4.later hL⟩⟩) lJ
 exact⟨hm,jf hL (λ_ _ h=>h) hr.tm,hr.sz,hr.df⟩
theorem tn(es:Array MapEntry)(i j:Nat)(f:MapEntry→MapEntry):(es.modify i f)[j]? =if i=j then(es[j]?).map f else es[j]?:=acu
theorem CG{P:Program}{v:Value}(h:Instr.sameBits 10000 v v=true)(w:World):(Instr.keyThatStays v v).run P w=.ok v w:=by
 simp[Instr.keyThatStays,h]
theorem HS(hr:Rel cx ι st a w){b c o s wd:Nat}(hb:ι b=some (c,o,s)){ag:Bool}{ks:List CK}{ents:List (PV×List (List PV))}{op:Option Nat}{es:Array MapEntry}{ob:Obj}(hc:w.heap[c]? =some ob)(h2:es.size=ents.length)
 (h3:∀(i:Nat) k rows,ents[i]? =some (k,rows)→dR ag ks k∧∃e,es[i]? =some e∧e.born=i∧RP w ι.M k e.key)
 (h4:bc ι.M w (bB w c (.map es ents.length)) ι.M→(∀i c' o s,ι (.h b i)=some (c',o,s)→(bB w c (.map es ents.length)).heap[c']? =w.heap[c']?)→(bB w c (.map es ents.length)).heap[c]? =some (.map es ents.length)→∀i,HB (bB w c (.map es ents.length)) ι (some (c,o,s)) (ι (.h b i)) i (.bF ag ks wd ents op)):
 Rel cx ι ⟨st.tmps,setNth st.heap b (.bF ag ks wd ents op)⟩ a (bB w c (.map es ents.length)):=by
 have aq:c<w.heap.size:=(aa8.1 hc).1
 obtain⟨hm,hL⟩:=hr.mem.BM hb (w':=bB w c (.map es ents.length)) (blk:=.bF ag ks wd ents op) (λd x hd hx=>by rw[fg w _ hd];exact hx) (by simp[bB]) ⟨rfl,rfl⟩
  (λhL=>⟨c,o,s,rfl,es,iH w c _ aq,h2,λi k rows hi=>by
   obtain⟨g0,e,g1,g2,g3⟩:=h3 i k rows hi
   exact⟨g0,e,g1,g2,g3.later hL⟩⟩) (λhL aU=>h4 hL aU (iH w c _ aq))
 exact⟨hm,jf hL (λ_ _ h=>h) hr.tm,hr.sz,hr.df⟩
theorem HT{x:PV}:∀{ents:List (PV×List (List PV))} {i0 i:Nat} {rows:List (List PV)},mfindN ents x i0=some (i,rows)→∃j k,i=i0+j∧ents[j]? =some (k,rows)∧keyEq x k=true
 |[],_,_,_,h=>by cases h
 |(k,v)::r,i0,i,rows,h=>by
  simp only[mfindN]at h
  cases hk:keyEq x k with
  |true=>rw[hk]at h;cases h;exact⟨0,k,rfl,rfl,hk⟩
  |false=>
   rw[hk]at h
   obtain⟨j,k',h1,h2,h3⟩:=HT (h:mfindN r x (i0+1)=some (i,rows))
   exact⟨j+1,k',by omega,h2,h3⟩
theorem Alike.bF{ag:Bool}{ks:List CK}{wd:Nat}{ents:List (PV×List (List PV))}{x:PV}{r0 rows:List (List PV)}{t:Bool}(ht:t=true):
 Alike (.bF ag ks wd (ents++[(x,r0)]) (some ents.length)) (.bF ag ks wd (ents++[(x,rows)]) none) ents.length wd rows t:=by
 subst ht
 refine⟨λj=>?_,λw ι p h=>?_,λw p j v h=>?_,λl r h=>by cases h⟩
 ·simp only[Blk.inner]
  by_cases e:j=ents.length
  ·subst e;simp
  ·have e':¬ents.length=j:=λh=>e h.symm
   rw[aaR e]
   have h1:decide ((some ents.length:Option Nat)=some j)=false:=by simp[e']
   have h3:∀r:List (List PV),(ents++[(x,r)])[j]? =ents[j]?:=λr=>by
    rw[abI]
    split
    ·rfl
    ·rename_i dH
     rw[aa4 (by simp;omega),aa4 (by omega)]
   rw[h3,h3]
   cases ents[j]?<;>simp[e']
 ·obtain⟨c,o,s,h1,es,h2,h3,h4⟩:=h
  have hl:(ents++[(x,rows)]).length=(ents++[(x,r0)]).length:=by simp
  refine⟨c,o,s,h1,es,by rw[hl];exact h2,by rw[hl];exact h3,λi k rs hi=>?_⟩
  rw[abI]at hi
  by_cases aq:i<ents.length
  ·rw[aaS aq]at hi
   exact h4 i k rs (by rw[abm aq];exact hi)
  ·rw[aaR aq]at hi
   have br:i=ents.length:=by
    have:=(aaW.1 hi).1
    simp at this;omega
   subst br
   simp at hi
   obtain⟨rfl,rfl⟩:=hi
   exact h4 ents.length x r0 (by simp)
 ·obtain⟨c,o,s,es,e,h1,h2,h3⟩:=h
  have hl:(ents++[(x,rows)]).length=(ents++[(x,r0)]).length:=by simp
  exact⟨c,o,s,es,e,h1,by rw[hl];exact h2,h3⟩
theorem P4(hr:Rel cx ι st a w){o:Oper}{t kt et:TypeId}{m x v:Operand}(ho:o.op=.mapUpdate t m x v∨o.op=.insert t m x v)(hu:cx.P.underlying t=some (.map kt et)){ag:Bool}{ks:List CK}
 (hk:keyK cx.P kt=some (ag,ks)) {y:PV} (cE:dR ag ks y) (bN:RP w ι.M y (a.eval x)) {b wd:Nat} {ents:List (PV×List (List PV))} {op:Option Nat} (ic:RA w ι (.mpr b) (a.eval m)) (hn:nth .dead st.heap b=.bF ag ks wd ents op)
 {av:AV} (dr:RA w ι av (a.eval v)) (hd:∀t,o.dst=some t→cx.bw t=true)
 {k:St→Prop} (h:Bc cx.E st ag ks b wd ents op y av λst=>k (st.put o.dst .undef)) {Q:Exit→Act→World→Prop}:o.wp cx.P a w (Kc cx k) Q:=by
 obtain⟨c,of,s,e8,hb,es,h1,h2,h3⟩:=GF hr.mem.hr ic hn
 have eL:=nr hk cE bN
 obtain⟨q,hq,aT⟩:=vn hk cE (GD (wd:=wd) hk h2 h3)
 rw[BE]at hq
 have j7:=vm 20 kt ks (nq hk).1 10000 (by omega) false _ (ml cE)
 have dw:∀w',(Instr.mapUpdate t (a.eval m) (a.eval x) (a.eval v)).run cx.P w=.ok () w'→(execOp a.eval o).run cx.P w=.ok .skip w':=λw' h=>by
  rcases ho with ho|ho<;>simp[execOp,ho,h]
 have h_:b<st.heap.length:=hr.mem.hr.fO (by rw[hn];simp)
 unfold Bc at h
 split at h
 ·rename_i b' w' i len
  cases hw:(Nat.beq b' b&&Nat.beq w' wd)with
  |false=>rw[hw]at h;exact h.elim
  |true=>
   rw[hw]at h
   obtain⟨e1,e2⟩:=by simpa using hw
   subst e1;subst e2
   obtain⟨rows,hf,⟨rfl,P5⟩,ff⟩:=h
   rw[hf]at hq
   obtain⟨j,e,kk,e1,e2,e3,rfl⟩:=hq
   have e1:i=j:=by simpa using e1
   subst e1
   obtain⟨j',yC,e5,e6,e7⟩:=HT hf
   have e5:i=j':=by omega
   subst e5
   have kU:es[i]? =some e:=by simpa using e2
   obtain⟨g0,e',g1,g2,g3⟩:=h3 i yC rows e6
   rw[kU]at g1;cases g1
   have vT:y=yC:=CD cE g0 e7
   subst vT
   have hold:e.key=a.eval x:=by rw[eL];exact nr hk cE g3
   have lK:i<ents.length:=(aaW.1 e6).1
   obtain⟨_,_,nD⟩:=dr.sY
   have fp:=HS (ag:=ag) (ks:=ks) (wd:=w') (op:=none) (ents:=ents) (es:=es.modify i λe=>{e with key:=a.eval x,val:=a.eval v}) hr hb h1 (by simp[h2]) (λn k rs hi=>by
    rw[tn]
    obtain⟨p0,e1,p1,p2,p3⟩:=h3 n k rs hi
    by_cases aq:i=n
    ·subst aq
     rw[e6]at hi;cases hi
     exact⟨cE,{e with key:=a.eval x,val:=a.eval v},by rw[aaS rfl,kU];rfl,g2,bN⟩
    ·exact⟨p0,e1,by rw[aaR aq];exact p1,p2,p3⟩) (λhL aU kc n=>by
     have h0:=hr.mem.hr.hid b' n
     unfold HB at h0 ⊢
     rw[hn]at h0
     simp only[Blk.inner]at h0 ⊢
     cases hj:ents[n]? with
     |none=>rw[hj]at h0;exact h0
     |some z=>
      obtain⟨k',rs⟩:=z
      rw[hj]at h0
      refine⟨h0.1.kL hL λc' o s hd=>aU n c' o s hd,λ_=>?_⟩
      by_cases e9:n=i
      ·subst e9
       rw[e6]at hj;cases hj
       exact⟨_,⟨c,of,s,_,{e with key:=a.eval x,val:=a.eval v},rfl,kc,by rw[tn,aaS rfl,kU];rfl,rfl⟩,nD⟩
      ·have:(!decide (op=some n))=true:=by rcases P5 with rfl|rfl<;>simp[abx e9]
       obtain⟨u,⟨c2,o2,s2,BF,ee,q1,q2,q3,q4⟩,u2⟩:=h0.2 this
       rw[hb]at q1;cases q1
       rw[h1]at q2;cases q2
       exact⟨u,⟨c,of,s,_,ee,rfl,kc,by rw[tn,aaR (abx e9)];exact q3,q4⟩,u2⟩)
   refine nw (dw _ ?_) ⟨ι,_,Rel.put fp hd (.aE _),ff⟩
   have oN:=CG (P:=cx.P) (v:=a.eval x) (by rw[eL];exact CE hk cE) w
   rw[eL]at oN
   simp only[Instr.mapUpdate,e8,Sem.run_bind,run_underlying hu,Result.andThen_ok,jL h1,eL,j7,aT,kU,Option.map_some,Option.getD_some,hold,oN,qX _ h1]
   rfl
 ·rename_i m2 w' i0 len cap
  split at h
  ·rename_i w2 rows iG
   cases hw:(Nat.beq w' wd&&Nat.beq w2 wd&&!cx.E.fx m2&&!Nat.beq m2 b)with
   |false=>rw[hw]at h;exact h.elim
   |true=>
    rw[hw]at h
    obtain⟨⟨⟨e1,e2⟩,vy⟩,jN⟩:=by simpa using hw
    subst e1;subst e2
    simp only[cond_true,nh]at h
    obtain⟨⟨hl,rfl,hf⟩,ff⟩:=h
    rw[hf]at hq
    have hq:q=none:=hq
    subst hq
    rw[gJ]at ff
    have fp:=HS (ag:=ag) (ks:=ks) (wd:=w2) (op:=some ents.length) (ents:=ents++[(y,[])]) (es:=es.push {key:=a.eval x,val:=a.eval v,born:=ents.length}) hr hb h1 (by simp[h2]) (λi k rs hi=>by
     rw[abI]at hi
     by_cases aq:i<ents.length
     ·rw[aaS aq]at hi
      obtain⟨g0,e,g1,g2,g3⟩:=h3 i k rs hi
      refine⟨g0,e,?_,g2,g3⟩
      rw[acG (by omega)]
      rw[abu (by omega)]at g1
      exact g1
     ·rw[aaR aq]at hi
      have br:i=ents.length:=by
       have:=(aaW.1 hi).1
       simp at this;omega
      subst br
      simp at hi
      obtain⟨rfl,rfl⟩:=hi
      exact⟨cE,{key:=a.eval x,val:=a.eval v,born:=ents.length},by rw[←h2];simp,rfl,bN⟩) (λhL aU kc n=>by
     have h0:=hr.mem.hr.hid b n
     unfold HB at h0 ⊢
     rw[hn]at h0
     simp only[Blk.inner]at h0 ⊢
     by_cases e9:n=ents.length
     ·subst e9
      rw[aa4 (aaV _)]at h0
      simp only[abq (aaV _),acJ,List.getElem?_cons_zero]
      exact⟨.inl ⟨h0,rfl⟩,λh=>by simp at h⟩
     ·have dH:(ents++[(y,([]:List (List PV)))])[n]? =ents[n]?:=by
       rw[abI]
       split
       ·rfl
       ·rename_i dH
        rw[aa4 (by simp;omega),aa4 (by omega)]
      rw[dH]
      cases hj:ents[n]? with
      |none=>rw[hj]at h0;exact h0
      |some z=>
       obtain⟨k',rs⟩:=z
       rw[hj]at h0
       have ZR:n<ents.length:=(aaW.1 hj).1
       refine⟨h0.1.kL hL λc' o s hd=>aU n c' o s hd,λ_=>?_⟩
       obtain⟨u,⟨c2,o2,s2,BF,ee,q1,q2,q3,q4⟩,u2⟩:=h0.2 (by simp)
       rw[hb]at q1;cases q1
       rw[h1]at q2;cases q2
       refine⟨u,⟨c,of,s,_,ee,rfl,kc,?_,q4⟩,u2⟩
       rw[acG (by omega)]
       rw[abu (by omega)]at q3
       exact q3)
    have hlen:(ents++[(y,([]:List (List PV)))]).length=ents.length+1:=by simp
    have HU:m2≠b:=λe=>by subst e;simp at jN
    have mB:nth .dead (setNth st.heap b (.bF ag ks w2 (ents++[(y,[])]) (some ents.length))) m2=.pr w2 rows:=by rw[dc _ _ _ _ _ h_,aaR HU];exact iG
    have P6:nth .dead (setNth st.heap b (.bF ag ks w2 (ents++[(y,[])]) (some ents.length))) b=.bF ag ks w2 (ents++[(y,[])]) (some ents.length):=by rw[dc _ _ _ _ _ h_,aaS rfl]
    have kc:(bB w c (.map (es.push {key:=a.eval x,val:=a.eval v,born:=ents.length}) (ents++[(y,([]:List (List PV)))]).length)).heap[c]? =some (.map (es.push {key:=a.eval x,val:=a.eval v,born:=ents.length}) (ents++[(y,([]:List (List PV)))]).length):=iH w c _ (aa8.1 h1).1
    have P7:RA (bB w c (.map (es.push {key:=a.eval x,val:=a.eval v,born:=ents.length}) (ents++[(y,([]:List (List PV)))]).length)) ι (.sl m2 w2 i0 len cap) (a.eval v):=dr.back λ_ h=>h
    obtain⟨aC,fS,pS,HV,⟨a7,hD⟩,BZ⟩:=fp.mem.GS (b:=b) HU mB vy (by rw[eA,abp];exact h_) P7 hl (blk:=.bF ag ks w2 (ents++[(y,rows.drop i0)]) none) (t:=true)
     (by rw[P6];exact Alike.bF rfl) (λ_=>⟨c,of,s,es.push {key:=a.eval x,val:=a.eval v,born:=ents.length},{key:=a.eval x,val:=a.eval v,born:=ents.length},hb,by rw[kc];simp,by rw[←h2];simp,rfl⟩)
    have P8:setNth (setNth (killH m2 (killH (.h b ents.length) (setNth st.heap b (.bF ag ks w2 (ents++[(y,[])]) (some ents.length))))) m2 .dead) b (.bF ag ks w2 (ents++[(y,rows.drop i0)]) none)=
     setNth (setNth (killH m2 (killH (.h b ents.length) st.heap)) m2 .dead) b (.bF ag ks w2 (ents++[(y,rows.drop i0)]) none):=by
     apply abw
     intro n
     simp only[eA,Nz,ab4,abd,abp,aa3,aaY]
     by_cases e1:b=n
     ·subst e1;simp
     ·simp[e1]
    rw[P8]at fS
    refine nw (dw _ ?_) ⟨aC,_,Rel.put (st:=⟨killT m2 (killT (.h b ents.length) st.tmps),setNth (setNth (killH m2 (killH (.h b ents.length) st.heap)) m2 .dead) b (.bF ag ks w2 (ents++[(y,rows.drop i0)]) none)⟩)
     ⟨fS,λs=>by rw[qO,qO];exact BZ _ _ (fp.tm s),fp.sz,by rw[hD];exact fp.df⟩ hd (.aE _),ff⟩
    simp only[Instr.mapUpdate,e8,Sem.run_bind,run_underlying hu,Result.andThen_ok,jL h1,eL,j7,aT,qX _ h1]
    rw[hlen]
    rfl
  ·exact h.elim
 ·exact h.elim
theorem HW(hr:Rel cx ι st a w){o:Oper}{t kt et:TypeId}{m x v:Operand}{m' x' v':aS}(ho:o.op=.mapUpdate t m x v∨o.op=.insert t m x v)(hu:cx.P.underlying t=some (.map kt et)){ag:Bool}{ks:List CK}
 (hk:keyK cx.P kt=some (ag,ks)) (hm:cOpd m=some m') (hx:cOpd x=some x') (hv:cOpd v=some v') (hd:∀t,o.dst=some t→cx.bw t=true)
 {k:St→Prop} (h:iB cx.E false (.uU ag ks m' x' v') o.dst st k) {Q:Exit→Act→World→Prop}:o.wp cx.P a w (Kc cx k) Q:=by
 have h:xS cx.E ag ks (ev st m') (ev st x') (ev st v') o.dst st k:=dj (k:=λv=>xS cx.E ag ks (ev st m') (ev st x') v o.dst st k) (dj (k:=λx=>force (ev st v') λv=>xS cx.E ag ks (ev st m') x v o.dst st k) h)
 obtain⟨y,hy,cE,h⟩:=vo h
 rcases GC h with⟨b,ents,jN,hn,h⟩|⟨b,wd,ents,op,jN,hn,h⟩
 rotate_left
 ·have ic:=bt hr.mem.hr.gl hr.tm hm
  have bN:=bt hr.mem.hr.gl hr.tm hx
  rw[jN]at ic
  rw[hy]at bN
  exact P4 hr ho hu hk cE (lI bN) ic hn (bt hr.mem.hr.gl hr.tm hv) hd h
 obtain⟨u,vU,ff⟩:=vo h
 have ic:=bt hr.mem.hr.gl hr.tm hm
 have bN:=bt hr.mem.hr.gl hr.tm hx
 have dr:=bt hr.mem.hr.gl hr.tm hv
 rw[jN]at ic
 rw[hy]at bN
 rw[vU]at dr
 obtain⟨c,of,s,e8,hb,es,h1,h2,h3⟩:=sV hr.mem.hr ic hn
 have eL:=nr hk cE (lI bN)
 obtain⟨q,hq,aT⟩:=vn hk cE (om.ents hk h2 h3)
 have j7:=vm 20 kt ks (nq hk).1 10000 (by omega) false _ (ml cE)
 have dw:∀w',(Instr.mapUpdate t (a.eval m) (a.eval x) (a.eval v)).run cx.P w=.ok () w'→(execOp a.eval o).run cx.P w=.ok .skip w':=λw' h=>by
  rcases ho with ho|ho<;>simp[execOp,ho,h]
 cases hf:mfind ents y 0 with
 |none=>
  rw[hf]at hq
  have hq:q=none:=hq
  subst hq
  have eX:=HP (v:=u) hf
  have fp:=vS (ag:=ag) (ks:=ks) (ents:=ents++[(y,u)]) (es:=es.push {key:=a.eval x,val:=a.eval v,born:=ents.length}) hr hb (by rw[hn];rfl) h1 (by simp[h2]) (λi k v hi=>by
   rw[abI]at hi
   by_cases aq:i<ents.length
   ·rw[aaS aq]at hi
    obtain⟨g0,e,g1,g2,g3,g4⟩:=h3 i k v hi
    refine⟨g0,e,?_,g2,g3,g4⟩
    rw[acG (by omega)]
    rw[abu (by omega)]at g1
    exact g1
   ·rw[aaR aq]at hi
    have br:i=ents.length:=by
     have:=(aaW.1 hi).1
     simp at this;omega
    subst br
    simp at hi
    obtain⟨rfl,rfl⟩:=hi
    exact⟨cE,{key:=a.eval x,val:=a.eval _,born:=ents.length},by rw[←h2];simp,rfl,lI bN,lI dr⟩)
  rw[←eX]at fp
  refine nw (dw _ ?_) ⟨ι,_,Rel.put fp hd (.aE _),ff⟩
  simp only[Instr.mapUpdate,e8,Sem.run_bind,run_underlying hu,Result.andThen_ok,jL h1,eL,j7,aT,qX _ h1]
  have:(ents++[(y,u)]).length=ents.length+1:=by simp
  rw[eX,this]
  rfl
 |some iv=>
  obtain⟨i,v0⟩:=iv
  rw[hf]at hq
  obtain⟨j,e,kk,e1,e2,e3,rfl⟩:=hq
  have e1:i=j:=by omega
  subst e1
  obtain⟨j',yC,e5,e6,e7⟩:=CF hf
  have e5:i=j':=by omega
  subst e5
  rw[e3]at e6;cases e6
  have eX:=P1 (x:=y) (v:=u) (u:=v0) (i0:=0) (j:=i) (by rw[hf];simp)
  have kU:es[i]? =some e:=by simpa using e2
  obtain⟨g0,e',g1,g2,g3,g4⟩:=h3 i kk v0 e3
  rw[kU]at g1;cases g1
  have vT:y=kk:=CD cE g0 e7
  subst vT
  have hold:e.key=a.eval x:=by rw[eL];exact nr hk cE g3
  have lK:i<ents.length:=(aaW.1 e3).1
  have fp:=vS (ag:=ag) (ks:=ks) (ents:=ents.set i (y,u)) (es:=es.modify i λe=>{e with key:=a.eval x,val:=a.eval v}) hr hb (by rw[hn];rfl) h1 (by simp[h2]) (λn k v hi=>by
   rw[abd]at hi
   rw[tn]
   by_cases aq:i=n
   ·subst aq
    rw[aaS rfl,aaS lK]at hi
    cases hi
    exact⟨cE,{e with key:=a.eval x,val:=a.eval v},by rw[aaS rfl,kU];rfl,g2,lI bN,lI dr⟩
   ·rw[aaR aq]at hi
    rw[aaR aq]
    exact h3 n k v hi)
  rw[←eX]at fp
  refine nw (dw _ ?_) ⟨ι,_,Rel.put fp hd (.aE _),ff⟩
  have oN:=CG (P:=cx.P) (v:=a.eval x) (by rw[eL];exact CE hk cE) w
  rw[eL]at oN
  simp only[Instr.mapUpdate,e8,Sem.run_bind,run_underlying hu,Result.andThen_ok,jL h1,eL,j7,aT,kU,Option.map_some,Option.getD_some,hold,oN,qX _ h1]
  have:(mput ents y u).length=ents.length:=by rw[eX];simp
  rw[this]
  rfl
theorem P9(hr:Rel cx ι st a w){o:Oper}{t kt et:TypeId}{m x:Operand}{m' x':aS}(ho:o.op=.mapEntry t m x)(hu:cx.P.underlying t=some (.map kt et)){ag:Bool}{ks:List CK}
 (hk:keyK cx.P kt=some (ag,ks)) {z:PV} (hz:zeroV cx.P et=some z) (hm:cOpd m=some m') (hx:cOpd x=some x') (hd:∀t,o.dst=some t→cx.bw t=true)
 {k:St→Prop} (h:iB cx.E false (.uV ag ks z m' x') o.dst st k) {Q:Exit→Act→World→Prop}:o.wp cx.P a w (Kc cx k) Q:=by
 have h:Be ag ks z (ev st m') (ev st x') o.dst st k:=dj (k:=λx=>Be ag ks z (ev st m') x o.dst st k) h
 obtain⟨y,hy,cE,h⟩:=vo h
 obtain⟨b,ents,jN,hn,q0,yD,ff⟩:=N_ h
 have ic:=bt hr.mem.hr.gl hr.tm hm
 have bN:=bt hr.mem.hr.gl hr.tm hx
 rw[jN]at ic
 rw[hy]at bN
 obtain⟨c,of,s,e8,hb,es,h1,h2,h3⟩:=sV hr.mem.hr ic hn
 have eL:=nr hk cE (lI bN)
 obtain⟨q,hq,aT⟩:=vn hk cE (om.ents hk h2 h3)
 have j7:=vm 20 kt ks (nq hk).1 10000 (by omega) false _ (ml cE)
 have dw:∀v w',(Instr.mapEntry t (a.eval m) (a.eval x)).run cx.P w=.ok v w'→(execOp a.eval o).run cx.P w=.ok (.value v) w':=λv w' h=>by
  simp[execOp,ho,h]
 have aD:∀(aC:az) (w':World) (u:PV) (uv:Value) (n:Nat),RP w' aC.M u uv→RA w' aC (.aD [.p u,.p (.int .i64 (n:Nat))]) (.tuple #[uv,goInt n]):=λaC w' u uv n h=>by
  refine .aD rfl λi x hi=>?_
  cases i with
  |zero=>simp at hi;subst hi;exact .p h
  |succ i=>cases i with
   |zero=>simp at hi;subst hi;exact .p (.int _ _)
   |succ i=>simp at hi
 cases hf:mfind ents y 0 with
 |none=>
  rw[hf]at hq
  have hq:q=none:=hq
  subst hq
  rw[hf]at yD
  subst yD
  obtain⟨zv,kN,ov⟩:=yd (w:=w) (M:=ι.M) hz
  have fp:=vS (ag:=ag) (ks:=ks) (ents:=ents++[(y,z)]) (es:=es.push {key:=a.eval x,val:=zv,born:=ents.length}) hr hb (by rw[hn];rfl) h1 (by simp[h2]) (λi k v hi=>by
   rw[abI]at hi
   by_cases aq:i<ents.length
   ·rw[aaS aq]at hi
    obtain⟨g0,e,g1,g2,g3,g4⟩:=h3 i k v hi
    refine⟨g0,e,?_,g2,g3,g4⟩
    rw[acG (by omega)]
    rw[abu (by omega)]at g1
    exact g1
   ·rw[aaR aq]at hi
    have br:i=ents.length:=by
     have:=(aaW.1 hi).1
     simp at this;omega
    subst br
    simp at hi
    obtain⟨rfl,rfl⟩:=hi
    exact⟨cE,{key:=a.eval x,val:=zv,born:=ents.length},by rw[←h2];simp,rfl,lI bN,kN⟩)
  have hlen:(ents++[(y,z)]).length=ents.length+1:=by simp
  refine dO (dw (.tuple #[zv,goInt ents.length]) _ ?_) ⟨ι,_,Rel.put fp hd (aD _ _ _ _ _ (kN.later ⟨λd ob CH hx=>?_,λc hc=>.inl hc,by simp[bB]⟩)),ff⟩
  ·simp only[Instr.mapEntry,e8,Sem.run_bind,run_underlying hu,Result.andThen_ok,jL h1,eL,j7,aT,ov,qX _ h1]
   rw[hlen]
   rfl
  ·have bg:d≠c:=λe=>by subst e;exact CH (.inl ⟨b,of,s,hb⟩)
   rw[fg w _ bg];exact hx
 |some iv=>
  obtain⟨i,v0⟩:=iv
  rw[hf]at hq
  rw[hf]at yD
  subst yD
  obtain⟨j,e,kk,e1,e2,e3,rfl⟩:=hq
  have e1:i=j:=by omega
  subst e1
  obtain⟨j',yC,e5,e6,e7⟩:=CF hf
  have e5:i=j':=by omega
  subst e5
  rw[e3]at e6;cases e6
  have kU:es[i]? =some e:=by simpa using e2
  obtain⟨g0,e',g1,g2,g3,g4⟩:=h3 i kk v0 e3
  rw[kU]at g1;cases g1
  have vT:y=kk:=CD cE g0 e7
  subst vT
  have hold:e.key=a.eval x:=by rw[eL];exact nr hk cE g3
  have lK:i<ents.length:=(aaW.1 e3).1
  have fp:=vS (ag:=ag) (ks:=ks) (ents:=ents) (es:=es.modify i λe=>{e with key:=a.eval x}) hr hb (by rw[hn];rfl) h1 (by simp[h2]) (λn k v hi=>by
   rw[tn]
   obtain⟨q0,e2,q1,q2,q3,q4⟩:=h3 n k v hi
   by_cases aq:i=n
   ·subst aq
    rw[kU]at q1;cases q1
    rw[e3]at hi;cases hi
    exact⟨cE,{e with key:=a.eval x},by rw[aaS rfl,kU];rfl,g2,lI bN,g4⟩
   ·rw[aaR aq]
    exact⟨q0,e2,q1,q2,q3,q4⟩)
  have h_:b<st.heap.length:=hr.mem.hr.fO (by rw[hn];simp)
  rw[HR Blk.dead hn h_]at fp
  refine dO (dw (.tuple #[e.val,goInt i]) _ ?_) ⟨ι,_,Rel.put fp hd (aD _ _ _ _ _ (g4.later ⟨λd ob CH hx=>?_,λc hc=>.inl hc,by simp[bB]⟩)),ff⟩
  ·have oN:=CG (P:=cx.P) (v:=a.eval x) (by rw[eL];exact CE hk cE) w
   rw[eL]at oN
   simp only[Instr.mapEntry,e8,Sem.run_bind,run_underlying hu,Result.andThen_ok,jL h1,eL,j7,aT,kU,Option.map_some,Option.getD_some,hold,oN,qX _ h1,g2]
   rfl
  ·have bg:d≠c:=λe=>by subst e;exact CH (.inl ⟨b,of,s,hb⟩)
   rw[fg w _ bg];exact hx
theorem find_born{es:Array MapEntry}{n:Nat}(hn:n<es.size)(h:∀(i:Nat) e,es[i]? =some e→e.born=i):es.findIdx? (λe=>(e.born:Int)==(n:Int))=some n:=by
 rw[Array.findIdx?_eq_some_iff_getElem]
 refine⟨hn,?_,λj hj=>?_⟩
 ·have:=h n _ (abu hn)
  simp[this]
 ·have:=h j _ (abu (by omega))
  simp only[this,adR,beq_eq_false_iff_ne]
  omega
theorem P_(hr:Rel cx ι st a w){o:Oper}{t:TypeId}{m s v:Operand}{m' s' v':aS}(ho:o.op=.entryStore t m s v)
 (hm:cOpd m=some m') (hs:cOpd s=some s') (hv:cOpd v=some v') (hd:∀t,o.dst=some t→cx.bw t=true)
 {k:St→Prop} (h:iB cx.E false (.xH m' s' v') o.dst st k) {Q:Exit→Act→World→Prop}:o.wp cx.P a w (Kc cx k) Q:=by
 have h:vestore (ev st m') (ev st s') (ev st v') o.dst st k:=dj (k:=λv=>vestore (ev st m') (ev st s') v o.dst st k) h
 obtain⟨u,hu,h⟩:=vo h
 have ic:=bt hr.mem.hr.gl hr.tm hm
 have fj:=bt hr.mem.hr.gl hr.tm hs
 have dr:=bt hr.mem.hr.gl hr.tm hv
 rw[hu]at dr
 generalize ZS:ev st m'=ma at h ic
 generalize Qa:ev st s'=sa at h fj
 split at h
 ·rename_i b kk n
  split at h
  ·rename_i ag ks ents hn
   obtain⟨⟨oH,nE⟩,ff⟩:=h
   obtain⟨c,of,sz,e8,hb,es,h1,h2,h3⟩:=sV hr.mem.hr ic hn
   have CI:=jJ fj
   have oy:∀(i:Nat) e,es[i]? =some e→e.born=i:=λi e he=>by
    have aq:i<ents.length:=by have:=(aa8.1 he).1;omega
    obtain⟨_,e',g1,g2,_⟩:=h3 i ents[i].1 ents[i].2 (by rw[aaU aq])
    rw[he]at g1;cases g1;exact g2
   have fp:=vS (ag:=ag) (ks:=ks) (ents:=setVal ents n.toNat u) (es:=es.modify n.toNat λe=>{e with val:=a.eval v}) hr hb (by rw[hn];rfl) h1 (by simp[HQ,h2]) (λi k w0 hi=>by
    rw[P2]at hi
    rw[tn]
    by_cases e:i=n.toNat
    ·subst e
     rw[aaS rfl]at hi
     obtain⟨⟨k0,v0⟩,lH,dZ⟩:=aa0.1 hi
     cases dZ
     obtain⟨g0,e,g1,g2,g3,g4⟩:=h3 _ _ _ lH
     exact⟨g0,{e with val:=a.eval v},by rw[aaS rfl,g1];rfl,g2,g3,lI dr⟩
    ·rw[aaR e]at hi
     rw[aaR (abx e)]
     exact h3 i k w0 hi)
   refine nw (w':=bB w c (.map (es.modify n.toNat λe=>{e with val:=a.eval v}) (setVal ents n.toNat u).length)) ?_ ⟨ι,_,Rel.put fp hd (.aE _),ff⟩
   have jM:=find_born (es:=es) (n:=n.toNat) (by omega) oy
   have yE:((n.toNat:Nat):Int)=n:=acE oH
   rw[yE]at jM
   have aT:(Instr.entryStore t (a.eval m) (a.eval s) (a.eval v)).run cx.P w=.ok () (bB w c (.map (es.modify n.toNat λe=>{e with val:=a.eval v}) (setVal ents n.toNat u).length)):=by
    simp only[Instr.entryStore,e8,CI,Sem.run_bind,jL h1,Result.andThen_ok,asInt,asIntOf,Sem.run_pure,jM,qX _ h1,HQ]
    rfl
   simp[execOp,ho,aT]
  ·exact h.elim
 ·exact h.elim
end
section
variable {cx:Cx} {ι:az} {st:St} {a:Act} {w:World}
theorem Qb(hr:Rel cx ι st a w){o:Oper}{s:Operand}{s':aS}{dT e:TypeId}{esz:Nat}{z:List PV}{c:Call}(ho:o.op=.call c)(eY:c.callee=.builtin .clear)
 (cV:c.args= #[s]) (kO:c.argTypes= #[dT]) (hu:cx.P.underlying dT=some (.slice e)) (hs:bI cx.P e=some esz) (hz:zeroT cx.P e=some z) (nF:z.length=esz) (ji:0<esz)
 (dB:cOpd s=some s') (hd:∀t,o.dst=some t→cx.bw t=true)
 {k:St→Prop} (h:iB cx.E false (.xF s' z esz) o.dst st k) {Q:Exit→Act→World→Prop}:o.wp cx.P a w (Kc cx k) Q:=by
 have fj:=bt hr.mem.hr.gl hr.tm dB
 replace h:xQ st (ev st s') z esz o.dst k:=dj (k:=λs=>xQ st s z esz o.dst k) h
 generalize ev st s'=as at h fj
 have run:∀v w',(Builtin.clear_ #[dT] o.type #[a.eval s]).run cx.P w=.ok v w'→(execOp a.eval o).run cx.P w=.ok (.value v) w':=λv w' h1=>by
  simp[execOp,ho,resolve,eY,cV,kO,invoke,builtin,h1]
 generalize Hd:a.eval s=vs at fj run
 obtain⟨i0,v0,fQ,nn,_,qZ,oD⟩:=qT (w:=w) (ι:=ι) hz
 unfold xQ at h
 split at h
 ·rename_i b wd i len vG
  split at h
  ·rename_i b8 rows hn
   cases hw:(Nat.beq wd b8&&Nat.beq wd esz)with
   |false=>rw[hw]at h;exact h.elim
   |true=>
    rw[hw]at h
    simp only[cond_true]at h
    obtain⟨e1,e2⟩:=by simpa using hw
    subst e1;subst e2
    obtain⟨B9,hk⟩:=h
    have ed:=G8 (w:=w) (ι:=ι) qZ oD nF len
    generalize eD:(List.range (len*wd)).map (λi=>v0.cells[i%v0.cells.size]!)=new at ed
    have mz:=ed.1
    simp only[acU]at mz
    have eK:(List.replicate len z).length=len:=by simp
    have Qc:(Builtin.zeroCells v0.cells len).toList=new:=by
     rw[←eD,←nF,←oD]
     unfold Builtin.zeroCells
     simp
    cases fj with
    |db aR=>
     rename_i oa
     have dd:Mem cx ι (setNth st.heap b (.pr wd (rows.take i++List.replicate 0 z++rows.drop (i+0)))) w:=by
      have:rows.take i++List.replicate 0 z++rows.drop (i+0)=rows:=by simp
      rw[this]
      rw[HR .dead hn (hr.mem.hr.fO (by rw[hn];simp))]
      exact hr.mem
     have fR:(execOp a.eval o).run cx.P w=.ok (.value (.tuple #[])) w:=by
      apply run
      cases oa<;>simp[Builtin.clear_,run_underlying hu]
     exact dO fR ⟨ι,_,Rel.put (st:=⟨st.tmps,setNth st.heap b (.pr wd (rows.take i++List.replicate 0 z++rows.drop (i+0)))⟩) ⟨dd,hr.tm,hr.sz,hr.df⟩ hd (.aD rfl (λi x h=>by simp at h)),hk⟩
    |sl hb hl aR bU=>
     rename_i c o' s cc
     have bq:=hr.mem.hr.blk b
     rw[hn,hb]at bq
     obtain⟨cs,ty,fz,hc,ht,bM,ri,ct,bn⟩:=bq.at
     have hmul:(i+len)*wd≤rows.length*wd:=abz _ (by omega)
     rw[aa6]at hmul
     have hbound:o'+i*wd+new.length≤cs.size:=by omega
     have aU:=nA (P:=cx.P) c (o'+i*wd) ty fz new 0 cs w hc (by omega) ht ed.one
     simp only[Nat.add_zero]at aU
     have fR:(execOp a.eval o).run cx.P w=.ok (.value (.tuple #[])) (bB w c (.cells (dE cs (o'+i*wd) new) ty fz)):=by
      apply run
      have hzero:(zeroValue e).run cx.P w=.ok v0 w:=oq fQ nn w
      have e5:(Builtin.clear_ #[dT] o.type #[.slice (some ⟨c,o'+i*wd,none⟩) len cc]).run cx.P w=((storeCells ⟨c,o'+i*wd,none⟩ new).run cx.P w).andThen λ_ w'=>.ok (.tuple #[]) w':=by
       by_cases lL:len=0
       ·subst lL
        have:new=[]:=abf (by rw[mz];simp)
        subst this
        simp[Builtin.clear_,run_underlying hu,storeCells]
       ·obtain⟨ZT,rfl⟩:∃m,len=m+1:=⟨len - 1,by omega⟩
        simp[Builtin.clear_,run_underlying hu,hzero,Qc]
      rw[e5,aU]
      rfl
     have hblk:fE w ι (dE cs (o'+i*wd) new) o' (.pr wd (rows.take i++List.replicate len z++rows.drop (i+len))):=by
      refine⟨?_,λn r aV=>?_,λn r j y aV hy=>?_⟩
      ·rw[eN _ _ _ hbound]
       have:=s5 rows i (List.replicate len z) (by omega)
       rw[eK]at this
       rw[this];exact ri
      ·have hg:=pR rows i (List.replicate len z) (by omega) n
       rw[eK]at hg
       rw[hg]at aV
       split at aV
       ·exact ed.2.1 _ _ aV
       ·exact ct _ _ aV
      ·rw[my _ _ _ hbound,mz]
       have hg:=pR rows i (List.replicate len z) (by omega) n
       rw[eK]at hg
       rw[hg]at aV
       split at aV
       ·rename_i a_
        obtain⟨g1,u,g2,g3⟩:=ed.2.2 _ _ j y aV hy
        have aq:=(aaW.1 g2).1
        have e3:n*wd=i*wd+(n - i)*wd:=by rw[←aa6];congr 1;omega
        rw[aaS (by omega)]
        exact⟨g1,u,by rw[←g2];congr 1;omega,g3⟩
       ·rename_i B6
        have hj:j<wd:=by rw[←ct _ _ aV];exact(aaW.1 hy).1
        rw[aaR]
        ·exact bn n r j y aV hy
        ·rintro ⟨q1,q2⟩
         rcases abL n i with h4|h4
         ·have:=q_ h4 hj;omega
         ·have h5:i+len≤n:=by omega
          have:=abz wd h5
          rw[aa6]at this
          omega
     obtain⟨fS,hL⟩:=hr.mem.write hb (w':=bB w c (.cells (dE cs (o'+i*wd) new) ty fz)) (blk:=.pr wd (rows.take i++List.replicate len z++rows.drop (i+len)))
      (λd z gk hz=>by rw[fg _ _ gk];exact hz) (by simp[bB]) ⟨rfl,rfl⟩
      (λhL=>by
       have:=(hblk.kL hL).rb (ty:=ty) (fz:=fz) (iH w c _ (aa8.1 hc).1) (by rw[eN _ _ _ hbound];exact ht)
       rw[eN _ _ _ hbound,bM]at this
       exact this) (by rw[hn];rfl)
     exact dO fR ⟨ι,_,Rel.put (st:=⟨st.tmps,setNth st.heap b (.pr wd (rows.take i++List.replicate len z++rows.drop (i+len)))⟩) ⟨fS,jf hL (λ_ _ h=>h) hr.tm,hr.sz,hr.df⟩ hd (.aD rfl (λi x h=>by simp at h)),hk⟩
  ·exact h.elim
 ·exact h.elim
end
section
variable {cx:Cx} {ι:az} {st:St} {a:Act} {w:World}
theorem Qd(hr:Rel cx ι st a w){o:Oper}{t kt et:TypeId}{x:Operand}{x':aS}(ho:o.op=.range t x)(hu:cx.P.underlying t=some (.map kt et))(hx:cOpd x=some x')(hd:∀t,o.dst=some t→cx.bw t=true)
 {q:Bool} {k:St→Prop} (h:Bf o.dst st (ev st x') k) {Q:Exit→Act→World→Prop}:o.wp cx.P a w (g_ cx q w k) Q:=by
 have bN:=bt hr.mem.hr.gl hr.tm hx
 generalize ev st x'=ax at h bN
 unfold Bf at h
 split at h
 ·rename_i b
  split at h
  ·rename_i ag ks ents hn
   obtain⟨c,of,s,hv,hb,es,h1,h2,h3⟩:=sV hr.mem.hr bN hn
   have aT:(execOp a.eval o).run cx.P w=.ok (.value (.pointer (some ⟨w.heap.size,0,none⟩))) (dD w (.mapIter (some c) ents.length #[] ents.length)):=by
    simp only[execOp,ho,Instr.range,Sem.run_bind,run_underlying hu,Result.andThen_ok,hv,jL h1,Sem.run_pure,run_newObj]
    rfl
   refine dO aT ?_
   have jg:=nv w (.mapIter (some c) ents.length #[] ents.length)
   obtain⟨hm,hL,bh⟩:=hr.mem.lay (w':=dD w (.mapIter (some c) ents.length #[] ents.length)) (c:=w.heap.size) (o:=0) (s:=0) (blk:=.mi (some b) ents.length []) (aaV _) (j8 w _) ⟨rfl,rfl⟩
    (λhL bh=>⟨_,0,c,#[],rfl,jg,rfl,λb' a7=>by cases a7;exact⟨_,_,bh _ _ hb⟩⟩)
   have dC:=RA.ptr (w:=dD w (.mapIter (some c) ents.length #[] ents.length)) (ι:=ι.cF st.heap.length (some (w.heap.size,0,0))) (wd:=1) (i:=0) (j:=0) (az.oz _ _ _)
   refine⟨⟨_,_,⟨?_,sJ (st:=⟨st.tmps,st.heap++[Blk.mi (some b) ents.length []]⟩) (jf hL bh hr.tm) hr.sz.1 (λt ht=>cx.eI t (hd t ht)) dC,Sz.put hr.sz hd _,by rw[Act.sI];exact hr.df⟩,h⟩,λ_=>j8 w _⟩
   rw[pE];exact hm
  ·exact h.elim
 ·exact h.elim
theorem RA.Qe{b:Bool}:RA w ι (.aD [.p (.b b)]) (.tuple #[.bool b]):=by
 refine .aD rfl λi x hi=>?_
 cases i with
 |zero=>simp at hi;subst hi;exact .p (.b _)
 |succ i=>simp at hi
theorem Qg(hr:Rel cx ι st a w){o:Oper}{x:Operand}{x':aS}(ho:o.op=.next x false)(hx:cOpd x=some x')(hd:∀t,o.dst=some t→cx.bw t=true)
 {k:St→Prop} (h:vmnext st (ev st x') o.dst k) {Q:Exit→Act→World→Prop}:o.wp cx.P a w (Kc cx k) Q:=by
 have bN:=bt hr.mem.hr.gl hr.tm hx
 generalize ev st x'=ax at h bN
 unfold vmnext at h
 split at h
 ·rename_i b wd
  split at h
  ·rename_i m n seen hn
   split at h
   ·rename_i ag ks ents iG
    obtain⟨rfl,dZ,vV⟩:=h
    generalize vD:a.eval x=vx at bN
    cases bN
    rename_i c o' s hb
    have bq:=hr.mem.hr.blk b
    rw[hn,hb]at bq
    obtain⟨c',s',cm,sn,he,hc,HX,hm⟩:=bq
    cases he
    have yf:∀i,i∈sn.toList↔i∈seen:=λi=>by rw[←HX];simp
    obtain⟨o2,s2,ox⟩:=hm m rfl
    have vq:=hr.mem.hr.blk m
    rw[iG,ox]at vq
    obtain⟨c3,o3,s3,he,es,h1,h2,h3⟩:=vq
    cases he
    have h_:b<st.heap.length:=hr.mem.hr.fO (by rw[hn];simp)
    have oy:∀(i:Nat) e,es[i]? =some e→e.born=i:=λi e he=>by
     have aq:i<ents.length:=by have:=(aa8.1 he).1;omega
     obtain⟨_,e',g1,g2,_⟩:=h3 i ents[i].1 ents[i].2 (by rw[aaU aq])
     rw[he]at g1;cases g1;exact g2
    have cr:(!sn.isEmpty&&!es.isEmpty&&es.all λe=>decide (e.born≥ents.length))=false:=by
     rcases adp es.size with h0|h0
     ·have:es= #[]:=ac5 h0
      subst this;simp
     ·have e_:(es.all λe=>decide (e.born≥ents.length))=false:=by
       rw[adK]
       intro cr
       rw[Array.all_eq_true]at cr
       have:=cr 0 h0
       have gZ:=oy 0 es[0] (abu h0)
       rw[abk,gZ]at this
       omega
      rw[e_,Bool.and_false]
    let left:=es.filter λe=>!sn.contains e.born
    have kV:∀e∈left,∃i,es[i]? =some e∧i∉seen:=λe he=>by
     obtain⟨h4,h5⟩:=Array.mem_filter.1 he
     obtain⟨i,hi⟩:=ad_ h4
     refine⟨i,hi,λhs=>?_⟩
     have:=oy i e hi
     rw[this]at h5
     have h6:i∈sn:=by simpa using (yf i).2 hs
     simp[h6]at h5
    have hold:(left.filter λe=>decide (e.born<ents.length))=left:=by
     rw[Array.filter_eq_self]
     intro e he
     obtain⟨i,hi,_⟩:=kV e he
     have aq:i<ents.length:=by have:=(aa8.1 hi).1;omega
     simp[oy i e hi,aq]
    have eD:(left.filter λe=>decide (e.born≥ents.length))= #[]:=by
     rw[Array.filter_eq_empty_iff]
     intro e he
     obtain⟨i,hi,_⟩:=kV e he
     have aq:i<ents.length:=by have:=(aa8.1 hi).1;omega
     simp[oy i e hi,aq]
    let lM:Array (Option MapEntry):=(if left.isEmpty then #[none]else #[])++(left++ #[]).map some
    have Qh:∀j y,lM[j]? =some y→(y=none∧left= #[])∨∃e,y=some e∧e∈left:=λj y hy=>by
     have cW:=adJ hy
     simp only[lM,Array.mem_append,Array.mem_map]at cW
     rcases cW with cW|⟨e,he,rfl⟩
     ·split at cW
      ·rename_i h0;simp at cW;exact .inl ⟨cW,by simpa using h0⟩
      ·simp at cW
     ·exact .inr ⟨e,rfl,by simpa using he⟩
    have ji:0<lM.size:=by
     simp only[lM,Array.size_append,Array.size_map]
     by_cases h0:left.isEmpty
     ·rw[aaS h0];show 0<1+_;omega
     ·rw[aaR h0]
      have:left.size≠0:=λe=>h0 (by simp[ac5 e])
      simp;omega
    obtain⟨j,w1,hj,jP,pJ,HY⟩:∃j w1,j<lM.size∧(choose (.mapNext lM.size)).run cx.P w=.ok j w1∧w1.heap=w.heap∧(w1.os=w.os∧w1.output=w.output):=by
     by_cases hf:lM.size≤1
     ·exact⟨0,w,ji,by rw[run_choose];simp[Question.forced,hf],rfl,rfl,rfl⟩
     ·exact⟨w.tape w.drawn (.mapNext lM.size)%lM.size,{w with drawn:=w.drawn+1},ac4 _ ji,by rw[run_choose];simp[Question.forced,hf,Question.cut],rfl,rfl,rfl⟩
    obtain⟨y,hy⟩:∃y,lM[j]? =some y:=⟨_,abu hj⟩
    have BW:a.eval x=.pointer (some ⟨c,0,none⟩):=by
     have e0:0+(0*wd+0)=0:=by omega
     rw[vD,e0]
    have gX:∀P:Program,(getObj c).run P w=.ok (.mapIter (some cm) ents.length sn ents.length) w:=λP=>by simp[getObj,Sem.run,hc]
    have BI:(getObj cm).run cx.P w=.ok (.map es ents.length) w:=jL h1
    have run:∀v w2,((match y with
     |some e=>do
      setObj c (.mapIter (some cm) ents.length (sn.push e.born) ents.length)
      pure (.tuple #[.bool true,e.key,e.val])
     |none=>pure (.tuple #[.bool false]):Sem Value)).run cx.P w1=.ok v w2→(execOp a.eval o).run cx.P w=.ok (.value v) w2:=λv w2 h5=>by
     simp only[execOp,ho,Instr.next,BW,Sem.run_bind,gX,BI,Result.andThen_ok,cr,ab2,abA]
     show(((choose (.mapNext ((if(left.filter λ(e:MapEntry)=>decide (e.born<ents.length)).isEmpty then #[none]else #[])++((left.filter λ(e:MapEntry)=>decide (e.born<ents.length))++(left.filter λ(e:MapEntry)=>decide (e.born≥ents.length))).map some).size)).run cx.P w).andThen _).andThen _=_
     rw[hold,eD]
     show(((choose (.mapNext lM.size)).run cx.P w).andThen _).andThen _=_
     rw[jP,Result.andThen_ok]
     show Result.andThen (Sem.run cx.P (match lM[j]? with|some (some e)=>_|some none=>_|none=>_) w1) _=_
     rw[hy]
     cases y with
     |none=>simp only at h5 ⊢;rw[h5];rfl
     |some e=>simp only at h5 ⊢;rw[h5];rfl
    rcases Qh j y hy with⟨rfl,h0⟩|⟨e,rfl,he⟩
    ·have Qj:∀i,i<ents.length→i∈seen:=λi hi=>by
      have aq:i<es.size:=by omega
      have Qk:es[i]? =some es[i]:=abu aq
      by_cases hs:i∈seen
      ·exact hs
      ·exfalso
       have cW:es[i]∈left:=by
        refine Array.mem_filter.2 ⟨Array.getElem_mem aq,?_⟩
        rw[oy i _ Qk]
        have:i∉sn:=λh=>hs ((yf i).1 (by simpa using h))
        simp[this]
       rw[h0]at cW;simp at cW
     have gg:Mem cx ι st.heap w1:=hr.mem.same pJ HY
     have hL:bc ι.M w w1 ι.M:=⟨λc o _ hc=>by rw[pJ];exact hc,λc hc=>.inl hc,by rw[pJ];exact aaV _⟩
     exact dO (run _ w1 rfl) ⟨ι,_,Rel.put (st:=st) ⟨gg,jf hL (λ_ _ h=>h) hr.tm,hr.sz,hr.df⟩ hd RA.Qe,vV Qj⟩
    ·obtain⟨i,hi,nN⟩:=kV e he
     have lK:i<ents.length:=by have:=(aa8.1 hi).1;omega
     obtain⟨_,e',g1,g2,g3,g4⟩:=h3 i ents[i].1 ents[i].2 (by rw[aaU lK])
     rw[hi]at g1;cases g1
     have fH:c<w.heap.size:=(aa8.1 hc).1
     let w2:World:=bB w1 c (.mapIter (some cm) ents.length (sn.push e.born) ents.length)
     have Ql:(setObj c (.mapIter (some cm) ents.length (sn.push e.born) ents.length)).run cx.P w1=.ok () w2:=by
      have yF:w1.heap[c]? =some (.mapIter (some cm) ents.length sn ents.length):=by rw[pJ];exact hc
      simp[setObj,Sem.run,yF];rfl
     have kc:w2.heap[c]? =some (.mapIter (some cm) ents.length (sn.push e.born) ents.length):=iH w1 c _ (by rw[pJ];exact fH)
     obtain⟨jy,hL⟩:=hr.mem.write hb (w':=w2) (blk:=.mi (some m) ents.length (i::seen)) (λd z gk hz=>by rw[fg _ _ gk,pJ];exact hz) (by simp[w2,bB,pJ]) HY
      (λhL=>⟨c,s,cm,_,rfl,kc,by rw[g2];simp[HX],λb' a7=>by cases a7;exact⟨_,_,ox⟩⟩) (by rw[hn];rfl)
     refine dO (run (.tuple #[.bool true,e.key,e.val]) w2 ?_) ⟨ι,_,Rel.put (st:=⟨st.tmps,setNth st.heap b (.mi (some m) ents.length (i::seen))⟩) ⟨jy,jf hL (λ_ _ h=>h) hr.tm,hr.sz,hr.df⟩ hd ?_,
      dZ i ents[i].1 ents[i].2 (by rw[aaU lK]) nN⟩
     ·simp only[Sem.run_bind,Ql,Result.andThen_ok,Sem.run_pure]
     ·refine .aD rfl λi x hi=>?_
      cases i with
      |zero=>simp at hi;subst hi;exact .p (.b _)
      |succ i=>cases i with
       |zero=>simp at hi;subst hi;exact .p (g3.later hL)
       |succ i=>cases i with
        |zero=>simp at hi;subst hi;exact .p (g4.later hL)
        |succ i=>simp at hi
   ·exact h.elim
  ·exact h.elim
 ·exact h.elim
theorem HZ{P:Program}{name:String}{t:TypeId}{r:Nat×Option (Nat×Bool)}(h:findTab (ve P name) t=some r):invT P name t=some (t,r):=by
 have main:∀l:List Nat,findTab (l.filterMap (invT P name)) t=some r→invT P name t=some (t,r):=by
  intro l
  induction l with
  |nil=>intro h;cases h
  |cons x l ih=>
   intro h
   rw[List.filterMap_cons]at h
   cases hx:invT P name x with
   |none=>rw[hx]at h;exact ih h
   |some y=>
    rw[hx]at h
    obtain⟨t',r'⟩:=y
    simp only[findTab]at h
    have e:t'=x:=by
     unfold invT at hx
     revert hx
     repeat' split
     all_goals intro hx
     all_goals first|(cases hx;done)|(cases hx;rfl)
    cases hb:Nat.beq t' t with
    |true=>
     rw[hb]at h
     have e2:=abt hb
     subst e;subst e2
     cases h;exact hx
    |false=>rw[hb]at h;exact ih h
 exact main _ h
theorem Qm{P:Program}{w:World}{ts:Array TypeId}{ty:TypeId}{ad:Addr}{x y:String}:(Builtin.ssaWrapNilChk_ ts ty #[.pointer (some ad),strVal x,strVal y]).run P w=.ok (.pointer (some ad)) w:=rfl
theorem fG.cons{y:AV}{v:Value}{l:List AV}{vs:Array Value}(h1:RA w ι y v)(h2:fG w ι l vs):fG w ι (y::l) (#[v]++vs):=by
 refine⟨by simp[h2.1];omega,λi z hz=>?_⟩
 cases i with
 |zero=>simp at hz;subst hz;simpa [acv]using h1
 |succ i=>
  have:=h2.2 i z (by simpa using hz)
  simpa [acv]using this
theorem Qn(hF:∀f args H mv cI,cx.E.F f args H mv cI→Fn cx.P f args H mv cI)(hr:Rel cx ι st a w){o:Oper}{c:Call}{r:Operand}{name:String}{x':aS}{l:List AV}(ho:o.op=.call c)(eY:c.callee=.invoke r name)(hx:cOpd r=some x')
 (e_:fG w ι l (c.args.map a.eval)) (hd:∀t,o.dst=some t→cx.bw t=true) {q:Bool} {k:St→Prop} (h:xU cx.E q (ve cx.P name) (ev st x') l o.dst st k) {Q:Exit→Act→World→Prop}:o.wp cx.P a w (g_ cx q w k) Q:=by
 have bN:=bt hr.mem.hr.gl hr.tm hx
 generalize ev st x'=ax at h bN
 have one:∀(t:TypeId) (y:AV) (v:Value),a.eval r=.iface t v→RA w ι y v→vinv1 cx.E q (findTab (ve cx.P name) t) y l o.dst st k→o.wp cx.P a w (g_ cx q w k) Q:=by
  intro t y v hv hy h
  have aT:∀f u,(method (cx.P.types.size+Made.depth) t v name).run cx.P w=.ok (f,u) w→(execOp a.eval o).run cx.P w=(callFunc f (#[u]++c.args.map a.eval)).run cx.P w:=λf u hm=>by
   have e1:((#[Value.iface t v]++c.args.map a.eval).extract 1 (#[Value.iface t v]++c.args.map a.eval).size)=c.args.map a.eval:=by
    apply abF;simp;rw[ab6 (by simp)]
   simp only[execOp,ho,resolve,eY,Sem.run_bind,Sem.run_pure,Result.andThen_ok,invoke,hv]
   simp only[acv,adn,List.length_singleton,Nat.zero_lt_one,abG,ab8,List.getElem?_cons_zero]
   simp only[callMethod,Sem.run_bind,run_program,Result.andThen_ok,e1,hm]
  unfold vinv1 at h
  split at h
  ·rename_i f hf
   have ht:=HZ hf
   unfold invT at ht
   split at ht
   ·rename_i i hi
    split at ht
    ·rename_i m hm
     split at ht
     ·rename_i hp
      have CJ:m.path= #[]:=by simpa using hp
      split at ht
      ·rename_i f' e CL hu
       cases ht
       have vW:(method (cx.P.types.size+Made.depth) t v name).run cx.P w=.ok (f,v) w:=by
        show(method (cx.P.types.size+99+1) t v name).run cx.P w=_
        rw[method]
        simp only[Sem.run_bind,run_typeInfo hi,Result.andThen_ok,hm,CJ,CL,follow,Sem.run_pure,receiverAt,run_underlying hu,Place.get]
       exact vL hF hr (aT _ _ vW) (fG.cons hy e_) hd h
      ·split at ht<;>cases ht
      ·cases ht
     ·cases ht
    ·cases ht
   ·cases ht
  ·rename_i f sz ag hf
   have ht:=HZ hf
   unfold invT at ht
   split at ht
   ·rename_i i hi
    split at ht
    ·rename_i m hm
     split at ht
     ·rename_i hp
      have CJ:m.path= #[]:=by simpa using hp
      split at ht
      ·cases ht
      ·rename_i f' e CL hu
       split at ht
       ·rename_i s g hs hg
        cases ht
        obtain⟨ad,vX⟩:∃ad,v=.pointer (some ad):=by
         unfold vload at h
         split at h
         ·cases hy;exact⟨_,rfl⟩
         ·cases hy;rename_i hy;cases hy;exact⟨_,rfl⟩
         ·cases hy;exact⟨_,rfl⟩
         ·exact h.elim
        obtain⟨av,u,h1,h2,h3⟩:=Bq hr.mem.hr hy h hs hg
        have h4:=h3 w (Ext.refl w)
        rw[vX]at h4
        have h5:(loadVar e ad).run cx.P w=.ok u w:=by simpa [Instr.loadAt,Instr.sureAddr]using h4
        have vW:(method (cx.P.types.size+Made.depth) t v name).run cx.P w=.ok (f,u) w:=by
         show(method (cx.P.types.size+99+1) t v name).run cx.P w=_
         rw[method]
         simp only[Sem.run_bind,run_typeInfo hi,Result.andThen_ok,hm,CJ,CL,follow,Sem.run_pure]
         rw[receiverAt]
         simp only[Sem.run_bind,run_underlying hu,Result.andThen_ok,Sem.run_pure,Place.get,vX]
         simp[Qm,asAddr,h5]
        exact vL hF hr (aT _ _ vW) (fG.cons h2 e_) hd h1
       ·cases ht
      ·cases ht
     ·cases ht
    ·cases ht
   ·cases ht
  ·exact h.elim
 unfold xU at h
 split at h
 ·rename_i t y
  have hp:=gW bN
  generalize hv:a.eval r=vr at hp
  cases hp
  rename_i v hy
  exact one t (.p y) v hv (.p hy) h
 ·rename_i t y
  generalize hv:a.eval r=vr at bN
  cases bN
  rename_i v hy
  exact one t y v hv hy h
 ·exact h.elim
end
def Wd(F:Fence):Prop:=F=Fence.wide∨∃l,F=Fence.wide.inRound l
def ke(P:Program)(o:Oper)(a:Act)(w:World)(K:Act→World→Prop)(Q:Exit→Act→World→Prop):Prop:=
 o.uponIn Fence.wide 0 P a K Q ((execOp a.eval o).run P w)
section
variable {P:Program} {o:Oper} {a:Act} {w:World} {K:Act→World→Prop} {Q:Exit→Act→World→Prop}
theorem Qo{row:String}{args:Array Value}{R:Value→World→Prop}(h:Rows P row args w R):RowsIn Fence.wide 0 P row args w R:=
 λc cs _=>let ⟨v,w',r,s⟩:=h c cs;⟨v,w',r,stepsIn_wide.2 s⟩
theorem fI(h:o.wp P a w K Q):ke P o a w K Q:=by
 unfold Oper.wp at h
 unfold ke
 generalize (execOp a.eval o).run P w=r at*
 cases r with
 |ok x w'=>
  cases x<;>simp only[Oper.upon]at h<;>simp only[Oper.uponIn]<;>first
   |exact h
   |exact⟨λh=>absurd h (by simp[Fence.wide]),CallsIn.mono (callsIn_wide.2 h) (λe w he=>by cases e<;>exact he)⟩
   |exact⟨λh=>absurd h (by simp[Fence.wide]),Qo h⟩
   |exact h.elim
 |halt x w'=>cases x<;>simp only[Oper.upon]at h<;>simp only[Oper.uponIn]<;>first|exact h|exact h.elim
theorem yG{K':Act→World→Prop}(hk:∀a w,K a w→K' a w)(h:ke P o a w K Q):ke P o a w K' Q:=by
 unfold ke at*
 generalize (execOp a.eval o).run P w=r at*
 cases r with
 |ok x w'=>
  cases x<;>simp only[Oper.uponIn]at h ⊢<;>
   first
    |exact hk _ _ h
    |exact⟨h.1,CallsIn.mono h.2 (λe j4 he=>by cases e<;>first|exact hk _ _ he|exact he)⟩
    |exact⟨h.1,RowsIn.mono h.2 (λ_ _ he=>hk _ _ he)⟩
    |exact⟨h.1,RoundIn.mono h.2 (λe j4 he=>by cases e<;>first|exact hk _ _ he|exact he)⟩
 |halt x w'=>cases x<;>simp only[Oper.uponIn]at h ⊢<;>exact h
theorem H0{F:Fence}(hF:Wd F)(ia:∀c,o.op≠.defer c)(h:ke P o a w K Q):o.wpIn F 0 P a w K Q:=by
 have e:Oper.semAt F.round a.eval o=execOp a.eval o:=Oper.semAt_eq _ _ _ ia
 unfold Oper.wpIn
 rw[e]
 rcases hF with rfl|⟨l,rfl⟩
 ·exact⟨λ_ _=>trivial,h⟩
 ·refine⟨λ_ _=>trivial,?_⟩
  unfold ke at h
  generalize (execOp a.eval o).run P w=r at*
  cases r with
  |ok x w'=>
   cases x<;>simp only[Oper.uponIn]at h ⊢<;>exact h
  |halt x w'=>cases x<;>simp only[Oper.uponIn]at h ⊢<;>exact h
variable {ops:Array Oper}
def wpListW(P:Program)(ops:Array Oper)(Q:Exit→Act→World→Prop):List Oper→Act→World→Prop
 |[],a,w=>Q .normal a w
 |o::rest,a,w=>if Region.wanted o (yielded ops a.tmps)then ke P o a w (wpListW P ops Q rest) Q else wpListW P ops Q rest (a.put o.dst undef) w
theorem CM{F:Fence}(hF:Wd F):∀(l:List Oper),(∀o∈l,∀c,o.op≠.defer c)→∀{a w},wpListW P ops Q l a w→wpListIn F 0 P ops Q l a w
 |[],_,a,w,h=>h
 |o::r,hd,a,w,h=>by
  unfold wpListW at h
  unfold wpListIn
  split
  ·rename_i hw
   rw[aaS hw]at h
   exact H0 hF (hd o (by simp)) (yG (λa w=>CM hF r (λo ho=>hd o (by simp[ho]))) h)
  ·rename_i hw
   rw[aaR hw]at h
   exact⟨λf _=>by rcases hF with rfl|⟨l,rfl⟩<;>trivial,CM hF r (λo ho=>hd o (by simp[ho])) h⟩
def wpOpW(P:Program)(ops:Array Oper)(Q:Exit→Act→World→Prop)(i:Nat)(K:Act→World→Prop)(a:Act)(w:World):Prop:=
 match ops[i]? with
 |none=>K a w
 |some o=>if Region.wanted o (yielded ops a.tmps)then ke P o a w K Q else K (a.put o.dst undef) w
theorem H2{i:Nat}{K':Act→World→Prop}(hk:∀a w,K a w→K' a w)(h:wpOpW P ops Q i K a w):wpOpW P ops Q i K' a w:=by
 unfold wpOpW at*
 split
 ·exact hk _ _ (by simpa [*]using h)
 ·rename_i o ho
  simp only[ho]at h
  split
  ·rename_i hw;simp only[hw,abG]at h;exact yG hk h
  ·rename_i hw;simp only[hw]at h;exact hk _ _ h
theorem Qp{F:Fence}(hF:Wd F)(hd:∀(i:Nat) o,ops[i]? =some o→∀c,o.op≠.defer c){i:Nat}(h:wpOpW P ops Q i K a w):wpOpIn F 0 P ops Q i K a w:=by
 unfold wpOpW at h
 unfold wpOpIn
 cases ho:ops[i]? with
 |none=>simpa [ho]using h
 |some o=>
  simp only[ho]at h ⊢
  split
  ·rename_i hw
   rw[aaS hw]at h
   exact H0 hF (hd i o ho) h
  ·rename_i hw
   rw[aaR hw]at h
   exact⟨λf _=>by rcases hF with rfl|⟨l,rfl⟩<;>trivial,h⟩
variable {S:World→Prop}
theorem H3{i:Nat}{v:Value}(hi:ops[i]? =some o)(hy:YieldsIf P ops S o v a)(hS:S w)(h:K (a.put o.dst v) w):wpOpW P ops Q i K a w:=by
 unfold wpOpW
 simp only[hi]
 rcases hy with⟨hw,hv⟩|⟨hw,rfl⟩
 ·simp only[hw,abG,ke,hv w hS,Oper.uponIn];exact h
 ·simp only[hw,ab2,abA];exact h
theorem Qq{j:Nat}{oi oj:Oper}{v:Value}(hj:ops[j]? =some oj)(oO:oi.apart ops oj=true)
 (Qr:∀cs b,oi.op≠.select cs b) (Qs:∀cs b,oj.op≠.select cs b)
 (hQ:∀c a w,Q (.panic c) (a.put oi.dst v) w→Q (.panic c) a w)
 (hy:YieldsIf P ops S oi v a) (h:wpOpW P ops Q j K (a.put oi.dst v) w):
 wpOpW P ops Q j (λa' w'=>YieldsIf P ops S oi v a'∧K (a'.put oi.dst v) w') a w:=by
 obtain⟨h1,h2,h3⟩:=Oper.apart_spec oO
 have keep:∀(a:Act),YieldsIf P ops S oi v a→∀u,YieldsIf P ops S oi v (a.put oj.dst u):=λa hy u=>
  hy.of_same (execOp_put oi Qr a oj.dst u h3) (wanted_put oi a oj.dst u h3)
 have Qt:∀d,YieldsIf P ops S oi v {a with defers:=d::a.defers}:=λd=>hy.of_same rfl rfl
 unfold wpOpW at*
 simp only[hj]at*
 rw[wanted_put oj a oi.dst v h1]at h
 split
 ·rename_i hw
  simp only[hw,abG]at h
  unfold ke at*
  rw[execOp_put oj Qs a oi.dst v h1]at h
  generalize (execOp a.eval oj).run P w=r at*
  cases r with
  |ok x w'=>
   cases x<;>simp only[Oper.uponIn]at h ⊢
   case value u=>exact⟨keep a hy u,by rw[←Act.put_comm a v u h2];exact h⟩
   case skip=>exact⟨keep a hy _,by rw[←Act.put_comm a v undef h2];exact h⟩
   case defer d=>
    refine⟨keep _ (Qt d) _,?_⟩
    rw[←Act.put_comm _ v undef h2,←Act.put_defers]
    exact h
   case enter f args=>
    refine⟨h.1,CallsIn.mono h.2 λe j4 he=>?_⟩
    cases e with
    |returned u=>exact⟨keep a hy u,by rw[←Act.put_comm a v u h2];exact he⟩
    |panicked c=>exact hQ _ _ _ he
    |outgrown=>exact he
   case row row args=>exact⟨h.1,RowsIn.mono h.2 λu j4 he=>⟨keep a hy u,by rw[←Act.put_comm a v u h2];exact he⟩⟩
   case round l f tmps assign body=>
    refine⟨h.1,RoundIn.mono h.2 λe j4 he=>?_⟩
    cases e with
    |returned u=>exact⟨keep a hy u,by rw[←Act.put_comm a v u h2];exact he⟩
    |panicked c=>exact hQ _ _ _ he
    |outgrown=>exact he
  |halt x w'=>
   cases x<;>simp only[Oper.uponIn]at h ⊢
   case panic u=>exact hQ _ _ _ h
 ·rename_i hw
  simp only[hw]at h
  exact⟨keep a hy _,by rw[←Act.put_comm a v undef h2];exact h⟩
end
section
variable {cx:Cx} {ι:az} {st:St} {a:Act} {w:World}
structure pY(cx:Cx):Prop where
 fn:∀f args H mv cI,cx.E.F f args H mv cI→Fn cx.P f args H mv cI
 it:∀g bu en ys,cx.E.G g bu en ys→dU cx.P g bu en ys
 yl:cx.bX.G→Cb cx.P cx.bX.X cx.J cx.yl
theorem Mem.H4{h:List Blk}{l:Nat}{y:List PV}{r r':Option (List (List PV))}(hm:Mem cx ι (.gh l r::h) w){w':World}{S':Nat→Prop}(hc:qP ι.S w w' S')(hj:cx.J r' w' ι.I S'):
 Mem cx {ι with X:=λc=>ι.X c∨S' c,S:=S'} (.gh l r'::h) w'∧bc ι.M w w' ({ι with X:=λc=>ι.X c∨S' c,S:=S'}:az).M:=by
 have Qu:∀c,ι.I c→c<w.heap.size:=λc hc=>hm.hr.lt hc
 have CN:∀c,ι.I c→¬ι.X c:=λc ⟨b,o,s,hb⟩=>hm.hr.cD _ _ _ _ hb
 have hL:bc ι.M w w' ({ι with X:=λc=>ι.X c∨S' c,S:=S'}:az).M:=by
  refine⟨λc o hM hx=>hc.keep c o (λhS=>hM (.inr (hm.xs c hS))) hx,λc hM=>?_,hc.grow⟩
  rcases hM with hM|hM|hM
  ·exact .inl (.inl hM)
  ·exact .inl (.inr hM)
  ·rcases hc.new c hM with h1|h1
   ·exact .inl (.inr (hm.xs c h1))
   ·exact .inr h1
 have pO:=hm.hr.blk 0
 have pO:ι (.v 0)=none∧ι.G:=pO
 obtain⟨nH,_⟩:=hm.jt l r rfl
 have aU:∀(b:Bn) c o s,ι b=some (c,o,s)→w'.heap[c]? =w.heap[c]?:=λb c o s hb=>by
  have fm:ι.I c:=⟨b,o,s,hb⟩
  obtain⟨ob,h1,_⟩:=hm.hr.size hb
  rw[h1]
  exact hc.keep c _ (λhS=>CN c fm (hm.xs c hS)) h1
 refine⟨⟨⟨hm.hr.gl.later hL,λb=>?_,hm.hr.inj,λb c o s hb=>?_,λb i=>?_⟩,?_,?_,?_,?_,hm.ge,hm.ow,?_,abg hm.gr hc.grow,⟨hc.os.1.trans hm.os.1,hc.os.2.trans hm.os.2⟩,hm.fx,hm.kl,?_,hm.dn,?_,λhg c h=>hc.up c (hm.su hg c h),hm.dz⟩,hL⟩
 ·cases b with
  |zero=>exact pO
  |succ b=>
   exact(hm.hr.blk (b+1)).later hL (λh=>h) (λ_ _ h=>h) λc o s hb=>aU (.v (b+1)) c o s hb
 ·have fm:ι.I c:=⟨b,o,s,hb⟩
  rintro (hX|hX)
  ·exact CN c fm hX
  ·rcases hc.new c hX with h1|h1
   ·exact CN c fm (hm.xs c h1)
   ·have:=Qu c fm;omega
 ·cases b with
  |zero=>exact HB.bare rfl ((hm.hr.hid 0 i).none rfl)
  |succ b=>exact(hm.hr.hid (b+1) i).later hL (λc o s hb=>aU _ c o s hb) (λc o s hb=>aU _ c o s hb)
 ·rintro c (hX|hX)
  ·exact abY (hm.xl c hX) hc.grow
  ·exact hc.lt c hX
 ·exact λc hS=>.inr hS
 ·exact λc hX=>.inl (hm.xe c hX)
 ·intro c hS
  rcases hc.new c hS with h1|h1
  ·exact hm.se c h1
  ·exact .inr (abg hm.gr h1)
 ·intro c h1 h2 h3
  have h5:=hm.fr c h1 h2 h3
  have h6:cx.w0.heap[c]? =some cx.w0.heap[c]:=abu h3
  rw[h6]at h5 ⊢
  refine hc.keep c _ (λhS=>?_) h5
  rcases hm.se c hS with h7|h7
  ·exact h2 h7
  ·omega
 ·intro d hd
  obtain⟨h1,h2,h3,h4⟩:=hm.dm d hd
  refine⟨.inl h1,λhS=>?_,h3,hc.keep d _ h2 h4⟩
  rcases hc.new d hS with h5|h5
  ·exact h2 h5
  ·have:=(aa8.1 h4).1;omega
 ·intro l2 r2 e
  cases e
  exact⟨nH,hj⟩
theorem Qv{l:List AV}{k:List PV→Prop}(h:qK l k):∃ps,l=ps.map .p∧k ps:=by
 have main:∀(l:List AV) (ps:List PV),allP l=some ps→l=ps.map .p:=by
  intro l
  induction l with
  |nil=>intro ps h;cases h;rfl
  |cons x r ih=>
   intro ps h
   cases x<;>simp only[allP]at h<;>first|(cases h;done)|skip
   split at h
   ·rename_i l2 h2
    cases h
    rw[ih _ h2];rfl
   ·cases h
 unfold qK at h
 split at h
 ·rename_i ps hp
  exact⟨ps,main _ _ hp,h⟩
 ·exact h.elim
theorem Qw(hF:pY cx)(hr:Rel cx ι st a w){o:Oper}{l:Nat}{args:List AV}{vs:Array Value}(aT:(execOp a.eval o).run cx.P w=(Instr.yield l vs).run cx.P w)(cV:fG w ι args vs)
 (hd:∀t,o.dst=some t→cx.bw t=true) {k:St→Prop} (h:vyield cx.E.en l args o.dst st k) {Q:Exit→Act→World→Prop}:ke cx.P o a w (g_ cx false w k) Q:=by
 obtain⟨t,hp⟩:=st
 unfold vyield at h
 split at h
 ·rename_i l' y r hh heq
  simp only at heq
  subst heq
  obtain⟨rfl,h⟩:=h
  obtain⟨ps,rfl,rfl,dZ,vV⟩:=Qv h
  have hm:=hr.mem
  obtain⟨nH,hj⟩:=hm.jt l (some (ps::r)) rfl
  have hG:ι.G:=(hm.hr.blk 0).2
  have hY:=hF.yl (hm.ge▸hG)
  rw[←nH]at hY
  have dv:Ca w (λc=>ι.I c∨ι.X c) ps vs:=⟨by simpa using cV.1,λi x hx=>gW (cV.2 i (.p x) (by simp[hx]))⟩
  obtain⟨fn,tmps,assign,body,hy,rA⟩:=hY ps r w ι.I ι.S ι.X vs hj hm.xe hm.xs dv
  unfold ke
  rw[aT,hy]
  refine⟨λh=>absurd h (by simp[Fence.wide]),RoundIn.mono rA ?_⟩
  rintro e w' ⟨S',hc,⟨rfl,d_⟩|⟨rfl,d_⟩⟩
  ·obtain⟨fS,hL⟩:=Mem.H4 (y:=ps) hm hc d_
   have dZ:k ((⟨t,.gh l (some r)::hh⟩:St).put o.dst (.p (.b true))):=by
    cases he:cx.E.en with
    |false=>rw[he]at dZ;exact dZ
    |true=>
     cases r with
     |nil=>exact absurd d_ (cx.je he _ _ _)
     |cons z r=>rw[he]at dZ;exact dZ
   exact⟨⟨_,_,Rel.put (st:=⟨t,.gh l (some r)::hh⟩) ⟨fS,jf hL (λ_ _ h=>h) hr.tm,hr.sz,hr.df⟩ hd (.p (.b true)),dZ⟩,λh=>by cases h⟩
  ·obtain⟨fS,hL⟩:=Mem.H4 (y:=ps) hm hc d_
   exact⟨⟨_,_,Rel.put (st:=⟨t,.gh l none::hh⟩) ⟨fS,jf hL (λ_ _ h=>h) hr.tm,hr.sz,hr.df⟩ hd (.p (.b false)),vV⟩,λh=>by cases h⟩
 ·exact h.elim
theorem Qx{ro:RO}(h:valsOnly ro=true){E:En}{q:Bool}{d:Option Nat}{k:St→Prop}(hv:iB E q ro d st k):sB ro st λv=>k (st.put d v):=by
 cases ro<;>first|exact hv|(simp[valsOnly]at h)
theorem Qy(hr:Rel cx ι st a w){o:Oper}{ro:RO}(hc:cop cx.P o=some ro)(hd:∀t,o.dst=some t→cx.bw t=true){q:Bool}{k:St→Prop}
 (h:sB ro st λv=>k (st.put o.dst v)) {Q:Exit→Act→World→Prop}:o.wp cx.P a w (g_ cx q w k) Q:=by
 obtain⟨av,v,hk,dC,aT⟩:=GO hr.mem.hr.gl hr.tm hr.mem.hr hc h
 exact dO (aT w (Ext.refl w)) ⟨⟨ι,_,hr.put hd dC,hk⟩,λ_=>Ext.refl w⟩
theorem fG.CO(gl:ga w ι.M)(tm:∀s,RA w ι (lk st.tmps s) (a.tmps.getD s undef)){l:Array Operand}{l':List aS}(h:cOpds l.toList=some l'):fG w ι (evL st l') (l.map a.eval):=by
 obtain⟨h1,h2⟩:=x8 gl tm h
 have e1:(l.toList.map a.eval).toArray=l.map a.eval:=by apply abF;simp
 rw[e1]at h2
 exact⟨by simp[h1],h2⟩
theorem fG.append{x y:List AV}{vs us:Array Value}(h1:fG w ι x vs)(h2:fG w ι y us):fG w ι (x++y) (vs++us):=by
 refine⟨by simp[h1.1,h2.1],λi z hz=>?_⟩
 rw[abI]at hz
 by_cases hi:i<x.length
 ·rw[aaS hi]at hz
  have:=h1.2 i z hz
  have aq:i<vs.size:=by rw[h1.1];exact hi
  simpa [acv,aq]using this
 ·rw[aaR hi]at hz
  have:=h2.2 _ z hz
  have aq:¬i<vs.size:=by rw[h1.1];exact hi
  rw[←h1.1]at this
  simpa [acv,aq]using this
theorem fG.H5{x:List PV}{vs:Array Value}(h1:vs.size=x.length)(h2:∀(i:Nat) y,x[i]? =some y→RP w ι.M y (vs.getD i undef)):fG w ι (x.map .p) vs:=by
 refine⟨by simp[h1],λi z hz=>?_⟩
 rw[aaY]at hz
 obtain⟨y,hy,rfl⟩:=aa0.1 hz
 exact .p (h2 i y hy)
theorem Kc.after{k:St→Prop}{a':Act}{w':World}(h:Kc cx k a' w'):g_ cx false w k a' w':=⟨h,λh=>by cases h⟩
theorem H6(hF:pY cx)(hr:Rel cx ι st a w){o:Oper}{ro:RO}(hc:cop cx.P o=some ro)(hd:∀t,o.dst=some t→cx.bw t=true){q:Bool}{k:St→Prop}
 (h:iB cx.E q ro o.dst st k) {Q:Exit→Act→World→Prop}:ke cx.P o a w (g_ cx q w k) Q:=by
 cases hv:valsOnly ro with
 |true=>exact fI (Qy hr hc hd (Qx hv h))
 |false=>
  have gP:=hc
  unfold cop at hc
  split at hc
  case h_6 e ho=>
   obtain⟨z,hz,rfl⟩:=aa0.1 hc
   rcases F4 cx.P e z with e1|⟨n,z0,rest,e1,h1,h2,h3⟩
   ·rw[e1]at h;exact fI (OB hr ho hz hd h)
   ·rw[e1]at h;exact fI (OC hr ho hz h1 h2 h3 hd h)
  case h_7 e x ho=>
   split at hc
   ·rename_i x' s hx hs
    cases hc
    rcases F5 cx.P e x' s with e1|⟨n,e1⟩
    ·rw[e1]at h;exact fI (OF hr ho hx hd h)
    ·rw[e1]at h;exact fI (OE hr ho hx hd h)
   ·cases hc
  case h_9 t len parts ho=>
   split at hc
   ·rename_i e hu
    split at hc
    ·rename_i s l hs hp
     split at hc
     ·rename_i eO
      cases hc
      exact fI (OZ hr ho hu hs hp eO.1 eO.2.1 eO.2.2.1 eO.2.2.2 hd h)
     ·cases hc
    ·cases hc
   ·cases hc
  case h_11 t x v ho=>
   split at hc
   ·rename_i x' v' s hx dr hs
    cases hc
    cases q with
    |true=>exact h.elim
    |false=>exact fI (Oper.wp_mono (λ_ _=>Kc.after) (OW hr ho hx dr hs hd h))
   ·cases hc
  case h_18 s d x ho=>
   split at hc
   ·cases hc;cases hv
   ·cases hc;cases hv
   ·split at hc
    ·cases hc;cases hv
    ·cases hc
   ·rename_i e x' hs ht hx
    split at hc
    ·rename_i he
     cases hc;exact fI (O5 hr ho hs ht he hx hd h)
    ·cases hc
   ·cases hc
  case h_21 t l c ho=>
   split at hc
   ·rename_i e l' c' hu hl jc
    split at hc
    ·rename_i z s b hz hs hb
     split at hc
     ·rename_i eO
      cases hc
      exact fI (O4 hr ho hu hl jc hz hs hb eO.1 eO.2.1 hd h)
     ·cases hc
    ·cases hc
   ·cases hc
  case h_23 c ho=>
   split at hc
   ·rename_i f eY
    obtain⟨l,hl,rfl⟩:=aa0.1 hc
    have vY:c.callee=.value (.func f):=eY
    refine fI (vL hF.fn hr (vs:=c.args.map a.eval) ?_ (fG.CO hr.mem.hr.gl hr.tm hl) hd h)
    simp[execOp,ho,resolve,vY,Deferred.ofValue,invoke,Act.eval]
   ·rename_i x fJ eY
    split at hc
    ·rename_i x' l hx hl
     cases hc
     have bN:=bt hr.mem.hr.gl hr.tm hx
     have e_:=fG.CO hr.mem.hr.gl hr.tm hl
     have h:vcallv cx.E q (ev st x') (evL st l) o.dst st k:=h
     have vY:c.callee=.value x:=eY
     generalize ev st x'=af at h bN
     unfold vcallv at h
     split at h
     ·rename_i f fi ca
      have hp:=gW bN
      generalize rB:a.eval x=fv at hp
      cases hp
      rename_i fa rC h1 h2 h3 h4
      refine fI (vL hF.fn hr (vs:=fa++c.args.map a.eval++rC) ?_ (((fG.H5 h1 h2).append e_).append (fG.H5 h3 h4)) hd h)
      simp[execOp,ho,resolve,vY,rB,Deferred.ofValue,invoke]
     ·rename_i f fi ca
      generalize rB:a.eval x=fv at bN
      cases bN
      rename_i fa rC h1 h2 h3 h4
      refine fI (vL hF.fn hr (vs:=fa++c.args.map a.eval++rC) ?_ ((fG.append ⟨h1,h2⟩ e_).append ⟨h3,h4⟩) hd h)
      simp[execOp,ho,resolve,vY,rB,Deferred.ofValue,invoke]
     ·rename_i l2 ZU ZV
      cases q with
      |true=>exact h.elim
      |false=>
       obtain⟨rfl,h⟩:=h
       have rB:=vf bN
       refine Qw hF hr (vs:=c.args.map a.eval) ?_ e_ hd h
       simp[execOp,ho,resolve,vY,rB,Deferred.ofValue,invoke]
     ·exact h.elim
    ·cases hc
   ·split at hc
    ·split at hc
     ·cases hc;cases hv
     ·cases hc;cases hv
     ·cases hc;cases hv
     ·cases hc
    ·cases hc
   ·rename_i eY
    split at hc
    ·rename_i s x sT xT cV kO
     have tq:c.args= #[s,x]:=by apply abF;simpa using cV
     have tr:c.argTypes= #[sT,xT]:=by apply abF;simpa using kO
     split at hc
     ·rename_i e e' s' x' hu vU hs hx
      split at hc
      ·rename_i z n b hz hn hb
       split at hc
       ·rename_i eO
        cases hc
        cases q with
        |true=>exact h.elim
        |false=>exact fI (Oper.wp_mono (λ_ _=>Kc.after) (Hc hr ho eY tq tr hu (.inl ⟨_,vU⟩) hn hb hz eO.1 eO.2.2 eO.2.1 hs hx hd h))
       ·cases hc
      ·cases hc
     ·rename_i e s' x' hu vU hs hx
      split at hc
      ·rename_i z n b hz hn hb
       split at hc
       ·rename_i eO
        cases hc
        cases q with
        |true=>exact h.elim
        |false=>exact fI (Oper.wp_mono (λ_ _=>Kc.after) (Hc hr ho eY tq tr hu (.inr vU) hn hb hz eO.1 eO.2.2 eO.2.1 hs hx hd h))
       ·cases hc
      ·cases hc
     ·cases hc
    ·cases hc
   ·rename_i eY
    split at hc
    ·rename_i s x sT xT cV kO
     have tq:c.args= #[s,x]:=by apply abF;simpa using cV
     have tr:c.argTypes= #[sT,xT]:=by apply abF;simpa using kO
     split at hc
     ·rename_i e s' x' hu hs hx
      obtain⟨n,hn,rfl⟩:=aa0.1 hc
      cases q with
      |true=>exact h.elim
      |false=>exact fI (Oper.wp_mono (λ_ _=>Kc.after) (Pf hr ho eY tq tr hu hn hs hx hd h))
     ·cases hc
    ·cases hc
   ·split at hc
    ·split at hc
     ·cases hc;cases hv
     ·cases hc
    ·cases hc
   ·split at hc
    ·split at hc
     ·cases hc;cases hv
     ·cases hc
    ·cases hc
   ·rename_i eY
    split at hc
    ·rename_i s sT cV kO
     have tq:c.args= #[s]:=by apply abF;simpa using cV
     have tr:c.argTypes= #[sT]:=by apply abF;simpa using kO
     split at hc
     ·rename_i e s' hu hs
      split at hc
      ·rename_i z n hz hn
       split at hc
       ·rename_i eO
        cases hc
        cases q with
        |true=>exact h.elim
        |false=>exact fI (Oper.wp_mono (λ_ _=>Kc.after) (Qb hr ho eY tq tr hu hn hz eO.1 eO.2 hs hd h))
       ·cases hc
      ·cases hc
     ·cases hc
    ·cases hc
   ·rename_i r name eY
    split at hc
    ·rename_i x' l hx hl
     cases hc
     exact fI (Qn hF.fn hr ho eY hx (fG.CO hr.mem.hr.gl hr.tm hl) hd (dj (k:=λx=>xU cx.E q (ve cx.P name) x (evL st l) o.dst st k) h))
    ·cases hc
   ·cases hc
  case h_24 t ho=>
   split at hc
   ·obtain⟨⟨ag,ks⟩,hk,rfl⟩:=aa0.1 hc
    exact fI (P3 hr ho hd h)
   ·cases hc
  case h_26 t m x v ho=>
   split at hc
   ·rename_i kt et hu
    split at hc
    ·rename_i ag ks m' x' v' hk hm hx dr
     cases hc
     cases q with
     |true=>exact h.elim
     |false=>exact fI (Oper.wp_mono (λ_ _=>Kc.after) (HW hr (.inl ho) hu hk hm hx dr hd h))
    ·cases hc
   ·cases hc
  case h_27 t m x v ho=>
   split at hc
   ·rename_i kt et hu
    split at hc
    ·rename_i ag ks m' x' v' hk hm hx dr
     cases hc
     cases q with
     |true=>exact h.elim
     |false=>exact fI (Oper.wp_mono (λ_ _=>Kc.after) (HW hr (.inr ho) hu hk hm hx dr hd h))
    ·cases hc
   ·cases hc
  case h_28 t m x ho=>
   split at hc
   ·rename_i kt et hu
    split at hc
    ·rename_i ag ks z m' x' hk hz hm hx
     cases hc
     cases q with
     |true=>exact h.elim
     |false=>exact fI (Oper.wp_mono (λ_ _=>Kc.after) (P9 hr ho hu hk hz hm hx hd h))
    ·cases hc
   ·cases hc
  case h_29 t m s v ho=>
   split at hc
   ·rename_i m' s' v' hm hs dr
    cases hc
    cases q with
    |true=>exact h.elim
    |false=>exact fI (Oper.wp_mono (λ_ _=>Kc.after) (P_ hr ho hm hs dr hd h))
   ·cases hc
  case h_30 t x ho=>
   split at hc
   ·rename_i kt et x' hu hx
    cases hc
    exact fI (Qd hr ho hu hx hd h)
   ·cases hc
  case h_31 x ho=>
   obtain⟨x',hx,rfl⟩:=aa0.1 hc
   cases q with
   |true=>exact h.elim
   |false=>exact fI (Oper.wp_mono (λ_ _=>Kc.after) (Qg hr ho hx hd (dj (k:=λx=>vmnext st x o.dst k) h)))
  all_goals first
   |(obtain⟨x',hx,rfl⟩:=aa0.1 hc;cases hv)
   |skip
  all_goals exfalso
  all_goals revert hc
  all_goals repeat' split
  all_goals intro hc
  all_goals first
   |(cases hc;done)
   |(cases hc;cases hv;done)
   |(unfold cBin at hc;revert hc;repeat' split
     all_goals intro hc
     all_goals first|(cases hc;done)|(cases hc;cases hv;done))
   |(obtain⟨x',hx,hc⟩:=aa0.1 hc;subst hc;cases hv;done)
   |(obtain⟨x',hx,hc⟩:=aa0.1 hc;subst hc;rcases F3 cx.P _ _ x' with e1|⟨_,_,_,e1,_⟩<;>(rw[e1]at hv;cases hv;done))
   |(obtain⟨x',hx,hc⟩:=acj.1 hc;first|(cases hc;done)|(cases hc;cases hv;done))
   |skip
end
section
variable {P:Program} {ops:Array Oper} {Q:Exit→Act→World→Prop} {md:Region.Mode}
def reach(md:Region.Mode)(ops:Array Oper)(i:Nat):Nat→Nat→Bool
 |0,_=>false
 |n+1,j=>match ops[j]? with
  |some o=>o.after.any λe=>Region.binds md e&&(e.on==i||reach md ops i n e.on)
  |none=>false
def still(ops:Array Oper)(i:Nat):Bool:=
 match ops[i]? with
 |some o=>stillOp o
 |none=>false
def Qz(P:Program)(c:Call):Bool:=c.argTypes.any λt=>match P.underlying t with
 |some (.pointer _)=>true
 |_=>false
def QA(P:Program)(o:Oper):Bool:=
 match o.op with
 |.store _ _ _|.mapUpdate _ _ _ _|.insert _ _ _ _|.mapEntry _ _ _|.entryStore _ _ _ _=>true
 |.call c=>match c.callee with
  |.builtin .append|.builtin .copy|.builtin .clear=>true
  |.builtin _=>false
  |_=>Qz P c
 |_=>false
def risky(P:Program)(md:Region.Mode)(ops:Array Oper)(i:Nat):Bool:=
 (List.range ops.size).any λj=>(match ops[j]? with
  |some o=>QA P o
  |none=>false)&&!(i==j||reach md ops i 5 j||reach md ops j 5 i)
def calm(P:Program)(md:Region.Mode)(ops:Array Oper)(i:Nat):Bool:=still ops i||risky P md ops i
def alone(P:Program)(md:Region.Mode)(ops:Array Oper)(j:Nat):Bool:=
 (List.range ops.size).all λi=>i==j||reach md ops i 7 j||reach md ops j 7 i||calm P md ops i
def pZ(md:Region.Mode)(ops:Array Oper)(listed:Array Bool):Prop:=
 ∀(k:Nat) (o:Oper),listed.getD k false=true→ops[k]? =some o→∀e∈o.after,Region.binds md e=true→listed.getD e.on false=true
theorem H7{listed:Array Bool}{j k:Nat}(h:listed.getD k false=true):(listed.setIfInBounds j true).getD k false=true:=by
 by_cases e:j=k
 ·subst e
  have:j<listed.size:=by
   rcases abL j listed.size with h'|h'
   ·exact h'
   ·simp[ab7 h']at h
  simp[this]
 ·simp only[ach]at*
  rw[acg e];exact h
theorem pZ.set{listed:Array Bool}(h:pZ md ops listed){j:Nat}(hj:j∈Region.ready md ops listed):pZ md ops (listed.setIfInBounds j true):=by
 intro k o hk ho e he hb
 by_cases ek:j=k
 ·subst ek
  obtain⟨_,oj,p5,cr⟩:=mem_ready.1 hj
  rw[ho]at p5;cases p5
  exact H7 (cr e he hb)
 ·have:listed.getD k false=true:=by
   simp only[ach]at*
   rw[acg ek]at hk;exact hk
  exact H7 (h k o this ho e he hb)
theorem CP{listed:Array Bool}(b0:pZ md ops listed){i:Nat}:∀(n j:Nat) (oj:Oper),ops[j]? =some oj→
 (∀e∈oj.after,Region.binds md e=true→listed.getD e.on false=true)→reach md ops i n j=true→listed.getD i false=true
 |0,j,oj,_,_,h=>by cases h
 |n+1,j,oj,hj,cr,h=>by
  simp only[reach,hj,Array.any_eq_true',aa2,acz,abH]at h
  obtain⟨e,he,hb,h⟩:=h
  rcases h with h|h
  ·rw[←h];exact cr e he hb
  ·cases ho:ops[e.on]? with
   |none=>cases n<;>simp[reach,ho]at h
   |some o=>exact CP b0 n e.on o ho (λe' ou a7=>b0 e.on o (cr e he hb) ho e' ou a7) h
theorem QB{listed:Array Bool}(b0:pZ md ops listed){i j:Nat}(aU:calm P md ops i=false)(h:alone P md ops j=true)(hi:i∈Region.ready md ops listed)(hj:j∈Region.ready md ops listed):i=j:=by
 obtain⟨yv,oi,nO,QC⟩:=mem_ready.1 hi
 obtain⟨yH,oj,p5,QD⟩:=mem_ready.1 hj
 have aq:=(aa8.1 nO).1
 have h:=abl.1 h i (by simpa using aq)
 have un:∀{k},listed.getD k true=false→listed.getD k false=true→False:=λ{k} h1 h2=>by
  rcases abL k listed.size with h'|h'
  ·simp[h']at h1 h2;rw[h1]at h2;cases h2
  ·simp[ab7 h']at h2
 simp only[aU,acz,abH,ab2,or_false]at h
 rcases h with(h|h)|h
 ·exact h
 ·exact(un yv (CP b0 7 j oj p5 QD h)).elim
 ·exact(un yH (CP b0 7 i oi nO QC h)).elim
def mC(P:Program)(md:Region.Mode)(ops:Array Oper)(Q:Exit→Act→World→Prop):Nat→Array Bool→Act→World→Prop
 |0,listed,a,w=>Region.ready md ops listed=[]∧Q .normal a w
 |fuel+1,listed,a,w=>
  (Region.ready md ops listed=[]→Q .normal a w)∧
  ∀i∈Region.ready md ops listed,wpOpW P ops Q i (λa' w'=>(alone P md ops i=false→Ext w w')∧mC P md ops Q fuel (listed.setIfInBounds i true) a' w') a w
theorem H8{F:Fence}(hF:Wd F)(hd:∀(i:Nat) o,ops[i]? =some o→∀c,o.op≠.defer c):∀(fuel:Nat) (listed:Array Bool) (a:Act) (w:World),
 mC P md ops Q fuel listed a w→wpAnyIn F 0 P md ops Q fuel listed a w
 |0,_,_,_,h=>h
 |fuel+1,_,_,_,h=>⟨h.1,λi hi=>Qp hF hd (H2 (λa' w' h'=>H8 hF hd fuel _ a' w' h'.2) (h.2 i hi))⟩
theorem YieldsIf.weaken{S S':World→Prop}(h:∀w,S' w→S w){o:Oper}{v:Value}{a:Act}(hy:YieldsIf P ops S o v a):YieldsIf P ops S' o v a:=
 hy.imp (λ⟨h1,h2⟩=>⟨h1,λw hw=>h2 w (h w hw)⟩) id
theorem H9{i:Nat}{oi:Oper}{v:Value}(hi:ops[i]? =some oi)(oP:∀(j:Nat) (o:Oper) cs b,ops[j]? =some o→o.op≠.select cs b)
 (hQ:∀c a w,Q (.panic c) (a.put oi.dst v) w→Q (.panic c) a w)
 {S:World→World→Prop} (hS:∀w w',Ext w w'→S w w') (QE:∀w w' j4,S w w'→S w' j4→S w j4) (QF:calm P md ops i=true→∀w w',S w w'):
 ∀(fuel:Nat) (listed:Array Bool) (a:Act) (w:World),
  (∀j oj,ops[j]? =some oj→j≠i→listed.getD j true=false→(∀e∈oj.after,Region.binds md e=true→e.on≠i)→oi.apart ops oj=true)→
  pZ md ops listed→i∈Region.ready md ops listed→YieldsIf P ops (S w) oi v a→
  mC P md ops Q fuel (listed.setIfInBounds i true) (a.put oi.dst v) w→mC P md ops Q (fuel+1) listed a w:=by
 intro fuel
 induction fuel with
 |zero=>
  intro listed a w _ _ hr hy H
  refine⟨λh=>(by rw[h]at hr;cases hr),λj hj=>?_⟩
  by_cases mn:j=i
  ·subst mn;exact H3 hi hy (hS _ _ (Ext.refl w)) ⟨λ_=>Ext.refl w,H⟩
  ·have:=ready_mono hj mn
   rw[H.1]at this
   cases this
 |succ fuel ih=>
  intro listed a w vZ b0 hr hy H
  refine⟨λh=>(by rw[h]at hr;cases hr),λj hj=>?_⟩
  by_cases mn:j=i
  ·subst mn;exact H3 hi hy (hS _ _ (Ext.refl w)) ⟨λ_=>Ext.refl w,H⟩
  ·have h1:=H.2 j (ready_mono hj mn)
   have e_:∀w w',(alone P md ops j=false→Ext w w')→S w w':=λw w' he=>by
    cases aU:calm P md ops i with
    |true=>exact QF aU _ _
    |false=>cases h:alone P md ops j with
     |false=>exact hS _ _ (he h)
     |true=>exact absurd (QB b0 aU h hr hj).symm mn
   obtain⟨H_,oj,p5,cr⟩:=mem_ready.1 hj
   have BJ:∀e∈oj.after,Region.binds md e=true→e.on≠i:=λe he hb heq=>by
    have h1:=cr e he hb
    have h0:=(mem_ready.1 hr).1
    rw[heq]at h1
    rcases abL i listed.size with h'|h'
    ·simp[h']at h0 h1;rw[h0]at h1;cases h1
    ·simp[ab7 h']at h1
   have h2:=Qq p5 (vZ j oj p5 mn H_ BJ) (λcs b=>oP i oi cs b hi) (λcs b=>oP j oj cs b p5) hQ hy h1
   have QG:∀k ok,ops[k]? =some ok→k≠i→(listed.setIfInBounds j true).getD k true=false→
    (∀e∈ok.after,Region.binds md e=true→e.on≠i)→oi.apart ops ok=true:=λk ok hk QH p6 cP=>by
    refine vZ k ok hk QH ?_ cP
    by_cases rD:j=k
    ·subst rD;exact H_
    ·rw[getD_set_ne true rD]at p6;exact p6
   refine H2 (λa' w' h3=>⟨h3.2.1,ih (listed.setIfInBounds j true) a' w' QG (b0.set hj) (ready_mono hr (abx mn))
    (YieldsIf.weaken (λj4 QI=>QE _ _ _ (e_ _ _ h3.2.1) QI) h3.1) ?_⟩) h2
   rw[Array.setIfInBounds_comm _ _ mn]
   exact h3.2.2
theorem QJ{F:Fence}(hF:Wd F)(hd:∀(i:Nat) o,ops[i]? =some o→∀c,o.op≠.defer c){id:Nat}{a:Act}{w:World}(hm:P.follows .mixedOrders=true)
 (h:mC P .any ops Q ops.size (Array.replicate ops.size false) a {w with drawn:=w.drawn+1}):(Code.region id ops true).wpIn F 0 P Q a w:=
 wpIn_region_any hm (H8 hF hd _ _ _ _ h)
theorem QM(n:Nat):pZ md ops (Array.replicate n false):=by
 intro k o hk
 simp[Array.getElem?_replicate]at hk
 split at hk<;>simp at hk
end
def dOk(n:Nat→Bool):Option Nat→Bool
 |none=>true
 |some t=>n t
def cG(ops:Array Oper):Option (Nat×Bool)→Option (Option (Nat×Bool))
 |none=>some none
 |some (j,b)=>match (ops[j]?).bind (·.dst)with
  |some s=>some (some (s,b))
  |none=>none
def cit(P:Program)(n:Nat→Bool)(ops:Array Oper)(o:Oper):Option It:=
 match cop P o,cG ops o.guard with
 |some ro,some g=>if dOk n o.dst then some ⟨g,o.dst,ro⟩else none
 |_,_=>none
def cits(P:Program)(n:Nat→Bool)(ops:Array Oper):List Oper→Option (List It)
 |[]=>some []
 |o::r=>match cit P n ops o,cits P n ops r with
  |some i,some l=>some (i::l)
  |_,_=>none
def calts(it:Nat→Option It)(al:Nat→Bool)(sub:Nat→Option DT):List Nat→Option DT
 |[]=>some .xI
 |i::r=>match it i,sub i,calts it al sub r with
  |some x,some t,some o=>some (.alt x (al i) t o)
  |_,_,_=>none
def takable(P:Program)(it:Nat→Option It)(ops:Array Oper)(listed:Array Bool)(i:Nat):Bool:=
 (match it i with
 |some x=>valsOnly x.o
 |none=>false)&&(still ops i||!risky P .any ops i)&&Region.free .any ops listed i
def yI(p:Nat→Bool):List Nat→Option Nat
 |[]=>none
 |i::r=>bif p i then some i else yI p r
def cdt(P:Program)(it:Nat→Option It)(ops:Array Oper):Nat→Array Bool→Option DT
 |0,listed=>match Region.ready .any ops listed with
  |[]=>some .done
  |_=>none
 |fuel+1,listed=>match Region.ready .any ops listed with
  |[]=>some .done
  |i0::r0=>match yI (takable P it ops listed) (i0::r0)with
   |some i=>match it i,cdt P it ops fuel (listed.setIfInBounds i true)with
    |some x,some t=>some (.take x t)
    |_,_=>none
   |none=>calts it (alone P .any ops) (λi=>cdt P it ops fuel (listed.setIfInBounds i true)) (i0::r0)
def tt(P:Program)(n:Nat→Bool)(ops:Array Oper)(i:Nat):Option It:=(ops[i]?).bind (cit P n ops)
def Ia(o:Oper):Bool:=
 match o.op with
 |.defer _=>false
 |_=>true
def yJ(P:Program)(n:Nat→Bool)(ops:Array Oper):Option DT:=
 if Region.noSelect ops&&ops.toList.all Ia then cdt P (tt P n ops) ops ops.size (Array.replicate ops.size false)else none
section
variable {cx:Cx} {ι:az} {st:St} {a:Act} {w:World} {ops:Array Oper} {Q:Exit→Act→World→Prop}
theorem QN{p:Nat→Bool}{l:List Nat}{i:Nat}(h:yI p l=some i):i∈l∧p i=true:=by
 induction l with
 |nil=>cases h
 |cons x r ih=>
  unfold yI at h
  cases hp:p x with
  |true=>rw[hp]at h;cases h;exact⟨by simp,hp⟩
  |false=>rw[hp]at h;obtain⟨h1,h2⟩:=ih h;exact⟨by simp[h1],h2⟩
theorem yK{P:Program}{n:Nat→Bool}{o:Oper}{it:It}(h:cit P n ops o=some it):cop P o=some it.o∧cG ops o.guard=some it.g∧o.dst=it.d∧∀t,o.dst=some t→n t=true:=by
 unfold cit at h
 split at h
 ·rename_i ro g h1 h2
  split at h
  ·rename_i hd
   cases h
   refine⟨h1,h2,rfl,λt ht=>?_⟩
   rw[ht]at hd
   simpa [dOk]using hd
  ·cases h
 ·cases h
theorem QO{t:List (Nat×AV)}{s:Nat}{x:AV}(h:lk t s=x)(s':Nat):lk ((s,x)::t) s'=lk t s':=by
 simp only[lk]
 by_cases e:s=s'
 ·subst e;simp[h]
 ·rw[f_ e];rfl
theorem Rel.dup(hr:Rel cx ι st a w){s:Nat}{x:AV}(h:lk st.tmps s=x):Rel cx ι ⟨(s,x)::st.tmps,st.heap⟩ a w:=
 ⟨hr.mem,λs'=>by rw[QO h];exact hr.tm s',hr.sz,hr.df⟩
theorem RA.skip{w:World}{ι:az}:RA w ι (.aD []) undef:=.aD rfl (λi x h=>by simp at h)
theorem CQ(hr:Rel cx ι st a w){o:Oper}{g:Option (Nat×Bool)}(hg:cG ops o.guard=some g)(hd:∀t,o.dst=some t→cx.bw t=true){k yes:St→Prop}(h:guarded g o.dst st k yes):
 (Region.wanted o (yielded ops a.tmps)=true∧∃st',yes st'∧Rel cx ι st' a w)∨
 (Region.wanted o (yielded ops a.tmps)=false∧∃st',k (st'.put o.dst (.aD []))∧Rel cx ι st' a w):=by
 cases v7:o.guard with
 |none=>
  rw[v7]at hg;cases hg
  exact .inl ⟨by simp[Region.wanted,v7],st,h,hr⟩
 |some jb=>
  obtain⟨j,b⟩:=jb
  rw[v7]at hg
  unfold cG at hg
  simp only at hg
  split at hg
  ·rename_i s hs
   cases hg
   unfold guarded at h
   simp only at h
   split at h
   ·rename_i c hc
    have nL:=hr.tm s
    rw[hc]at nL
    have hv:=pF nL
    have hy:yielded ops a.tmps j=some c:=by
     unfold yielded
     rw[hs]
     have aq:s<a.tmps.size:=by
      rcases abL s a.tmps.size with h'|h'
      ·exact h'
      ·simp[ab7 h',undef]at hv
     simp only[Option.bind_some]
     have:a.tmps[s]? =some (.bool c):=by
      simp[aq]at hv ⊢;exact hv
     rw[this]
    have hw:Region.wanted o (yielded ops a.tmps)=(c==b):=by
     simp only[Region.wanted,v7,hy]
     cases c<;>cases b<;>rfl
    have h:=AX h
    rw[hw]
    cases c<;>cases b
    ·exact .inl ⟨rfl,_,h,hr.dup hc⟩
    ·exact .inr ⟨rfl,_,h,hr.dup hc⟩
    ·exact .inr ⟨rfl,_,h,hr.dup hc⟩
    ·exact .inl ⟨rfl,_,h,hr.dup hc⟩
   ·rename_i hc
    have nL:=hr.tm s
    rw[hc]at nL
    obtain⟨cs,hv⟩:∃cs,a.tmps.getD s undef=.tuple cs:=by
     generalize a.tmps.getD s undef=v at nL
     cases nL
     exact⟨_,rfl⟩
    have hy:yielded ops a.tmps j=none:=by
     unfold yielded
     rw[hs]
     simp only[Option.bind_some]
     rcases abL s a.tmps.size with h'|h'
     ·have:a.tmps[s]? =some (.tuple cs):=by
       simp[h']at hv ⊢;exact hv
      rw[this]
     ·rw[ab7 h']
    refine .inr ⟨?_,_,h,hr⟩
    simp only[Region.wanted,v7,hy]
    rfl
   ·exact h.elim
  ·cases hg
theorem Ib(hF:pY cx){K:St→Prop}(hK:∀{a w},Kc cx K a w→Q .normal a w):∀(l:List Oper) (rE:List It),cits cx.P cx.bw ops l=some rE→
 ∀{ι:az} {st:St} {a:Act} {w:World},Rel cx ι st a w→vops cx.E rE st K→wpListW cx.P ops Q l a w
 |[],rE,hc,ι,st,a,w,hr,h=>by
  cases hc;exact hK ⟨ι,st,hr,h⟩
 |o::r,rE,hc,ι,st,a,w,hr,h=>by
  unfold cits at hc
  split at hc
  ·rename_i it l hit hl
   cases hc
   obtain⟨h1,h2,h3,h4⟩:=yK hit
   obtain⟨g,d,ro⟩:=it
   subst h3
   have ih:=λ{ι st a w}=>Ib hF hK r l hl (ι:=ι) (st:=st) (a:=a) (w:=w)
   unfold vops at h
   unfold wpListW
   rcases CQ hr h2 h4 h with⟨hw,st',h,aV⟩|⟨hw,st',h,aV⟩
   ·rw[hw,aaS rfl]
    refine yG ?_ (H6 hF aV h1 h4 h)
    rintro a' w' ⟨⟨aC,B1,CR,hk⟩,_⟩
    exact ih CR hk
   ·rw[hw,aaR (by simp)]
    exact ih (aV.put h4 RA.skip) h
  ·cases hc
theorem Rel.QP{w':World}(hr:Rel cx ι st a w)(hh:w'.heap=w.heap)(ho:w'.os=w.os∧w'.output=w.output):Rel cx ι st a w':=by
 have hL:bc ι.M w w' ι.M:=⟨λc o _ h=>by rw[hh];exact h,λc h=>.inl h,by rw[hh];exact aaV _⟩
 exact⟨hr.mem.same hh ho,λs=>(hr.tm s).later hL (λ_ _ h=>h),hr.sz,hr.df⟩
theorem QQ(hF:pY cx){K:St→Prop}(hK:∀{a w},Kc cx K a w→Q .normal a w)(hQ:∀c a w a' w',Q (.panic c) a w→Q (.panic c) a' w')(oP:Region.noSelect ops=true):
 ∀(fuel:Nat) (listed:Array Bool) (t:DT),cdt cx.P (tt cx.P cx.bw ops) ops fuel listed=some t→pZ .any ops listed→
 ∀{ι:az} {st:St} {a:Act} {w:World},Rel cx ι st a w→vdt cx.E t st K→mC cx.P .any ops Q fuel listed a w:=by
 intro fuel
 induction fuel with
 |zero=>
  intro listed t hc _ ι st a w hr h
  unfold cdt at hc
  split at hc
  ·rename_i rF;cases hc;exact⟨rF,hK ⟨ι,st,hr,h⟩⟩
  ·cases hc
 |succ fuel ih=>
  intro listed t hc b0 ι st a w hr h
  unfold cdt at hc
  split at hc
  ·rename_i rF
   cases hc
   exact⟨λ_=>hK ⟨ι,st,hr,h⟩,by rw[rF];simp⟩
  ·rename_i i0 r0 rF
   split at hc
   ·rename_i i QR
    obtain⟨cW,tu⟩:=QN QR
    rw[←rF]at cW
    split at hc
    ·rename_i it t' hit iJ
     cases hc
     unfold tt at hit
     obtain⟨oi,nO,CS⟩:=acj.1 hit
     obtain⟨h1,h2,h3,h4⟩:=yK CS
     obtain⟨g,d,ro⟩:=it
     subst h3
     have vZ:Region.free .any ops listed i=true:=by
      unfold takable at tu;simp only[aa2]at tu;exact tu.2
     have Ic:still ops i=false→calm cx.P .any ops i=false:=λaU=>by
      unfold takable at tu
      simp only[aa2,aU,ac6,abW]at tu
      unfold calm
      rw[aU,tu.1.2];rfl
     have Ie:∀(v:Value),still ops i=true→YieldsIf cx.P ops (λ_=>True) oi v a→mC cx.P .any ops Q fuel (listed.setIfInBounds i true) (a.put oi.dst v) w→
      mC cx.P .any ops Q (fuel+1) listed a w:=λv aU hy hn=>
      H9 nO (Region.noSelect_spec oP) (λc a w=>hQ _ _ _ _ _) (S:=λ_ _=>True) (λ_ _ _=>trivial) (λ_ _ _ _ _=>trivial) (λ_ _ _=>trivial) fuel listed a w (Region.free_spec nO vZ) b0 cW hy hn
     have done:∀(v:Value),calm cx.P .any ops i=false→YieldsIf cx.P ops (Ext w) oi v a→mC cx.P .any ops Q fuel (listed.setIfInBounds i true) (a.put oi.dst v) w→
      mC cx.P .any ops Q (fuel+1) listed a w:=λv aU hy hn=>
      H9 nO (Region.noSelect_spec oP) (λc a w=>hQ _ _ _ _ _) (S:=Ext) (λ_ _ h=>h) (λ_ _ _ h1 h2=>h1.trans h2) (λh=>by rw[aU]at h;cases h) fuel listed a w (Region.free_spec nO vZ) b0 cW hy hn
     unfold vdt at h
     rcases CQ hr h2 h4 h with⟨hw,st',h,aV⟩|⟨hw,st',h,aV⟩
     ·cases aU:still ops i with
      |true=>
       have yL:stillOp oi=true:=by unfold still at aU;rw[nO]at aU;exact aU
       obtain⟨av,v,hk,dC,aT⟩:=Om aV.mem.hr.gl aV.tm yL h1 h
       exact Ie v aU (.inl ⟨hw,λw _=>aT w⟩) (ih _ _ iJ (b0.set cW) (aV.put h4 dC) hk)
      |false=>
       have aU:=Ic aU
       obtain⟨av,v,hk,dC,aT⟩:=GO aV.mem.hr.gl aV.tm aV.mem.hr h1 h
       exact done v aU (.inl ⟨hw,aT⟩) (ih _ _ iJ (b0.set cW) (aV.put h4 dC) hk)
     ·cases aU:still ops i with
      |true=>exact Ie undef aU (.inr ⟨hw,rfl⟩) (ih _ _ iJ (b0.set cW) (aV.put h4 RA.skip) h)
      |false=>exact done undef (Ic aU) (.inr ⟨hw,rfl⟩) (ih _ _ iJ (b0.set cW) (aV.put h4 RA.skip) h)
    ·cases hc
   ·
    refine⟨λh0=>(by rw[rF]at h0;cases h0),?_⟩
    have main:∀(l:List Nat) (t:DT),calts (tt cx.P cx.bw ops) (alone cx.P .any ops) (λi=>cdt cx.P (tt cx.P cx.bw ops) ops fuel (listed.setIfInBounds i true)) l=some t→
     vdt cx.E t st K→∀i∈l,i∈Region.ready .any ops listed→
     wpOpW cx.P ops Q i (λa' w'=>(alone cx.P .any ops i=false→Ext w w')∧mC cx.P .any ops Q fuel (listed.setIfInBounds i true) a' w') a w:=by
     intro l
     induction l with
     |nil=>intro t _ _ i hi;cases hi
     |cons x r yM=>
      intro t hc h i hi tv
      unfold calts at hc
      split at hc
      ·rename_i it t' o hit iJ ho
       cases hc
       obtain⟨g,d,ro⟩:=it
       unfold vdt at h
       obtain⟨h,jx⟩:=h
       rcases abb.1 hi with rfl|hi
       ·unfold tt at hit
        obtain⟨oi,nO,CS⟩:=acj.1 hit
        obtain⟨h1,h2,h3,h4⟩:=yK CS
        subst h3
        unfold wpOpW
        simp only[nO]
        rcases CQ hr h2 h4 h with⟨hw,st',h,aV⟩|⟨hw,st',h,aV⟩
        ·rw[hw,aaS rfl]
         refine yG ?_ (H6 hF aV h1 h4 h)
         rintro a' w' ⟨⟨aC,B1,CR,hk⟩,jw⟩
         refine⟨λe_=>jw (by rw[e_];rfl),ih _ _ iJ (b0.set tv) CR hk⟩
        ·rw[hw,aaR (by simp)]
         exact⟨λ_=>Ext.refl w,ih _ _ iJ (b0.set tv) (aV.put h4 RA.skip) h⟩
       ·exact yM o ho jx i hi tv
      ·cases hc
    intro i hi
    exact main (i0::r0) t hc h i (by rw[←rF];exact hi) hi
theorem QT{F:Fence}(hW:Wd F)(hF:pY cx)(hm:cx.P.follows .mixedOrders=true){K:St→Prop}(hK:∀{a w},Kc cx K a w→Q .normal a w)(hQ:∀c a w a' w',Q (.panic c) a w→Q (.panic c) a' w'){t:DT}
 (hc:yJ cx.P cx.bw ops=some t) (hr:Rel cx ι st a w) (h:vdt cx.E t st K) {id:Nat}:(Code.region id ops true).wpIn F 0 cx.P Q a w:=by
 unfold yJ at hc
 split at hc
 ·rename_i oP
  simp only[aa2]at oP
  have hd:∀(i:Nat) o,ops[i]? =some o→∀c,o.op≠.defer c:=λi o ho c e=>by
   have:=abl.1 oP.2 o (by simpa using adJ ho)
   simp[Ia,e]at this
  exact QJ hW hd hm (QQ hF hK hQ oP.1 _ _ _ hc (QM _) (hr.QP (w':={w with drawn:=w.drawn+1}) rfl ⟨rfl,rfl⟩) h)
 ·cases hc
theorem Ig{P:Program}{n:Nat→Bool}:∀{l:List Oper} {rE:List It},cits P n ops l=some rE→∀o∈l,∀c,o.op≠.defer c
 |[],_,_,o,ho,_=>by cases ho
 |x::r,rE,h,o,ho,c=>by
  unfold cits at h
  split at h
  ·rename_i it l hit hl
   rcases abb.1 ho with rfl|ho
   ·intro e
    obtain⟨h1,_⟩:=yK hit
    unfold cop at h1
    rw[e]at h1
    cases h1
   ·exact Ig hl o ho c
  ·cases h
end
section
variable {cx:Cx} {ι:az} {st st':St} {a:Act} {w:World}
theorem kf{h:List Blk}{b:Nat}:da h b=true↔nth .dead h b≠.dead:=by
 unfold da
 cases nth .dead h b<;>simp
theorem QU{h:List Blk}{b:Nat}:da h b=false↔nth .dead h b=.dead:=by
 unfold da
 cases nth .dead h b<;>simp
def keepB(h:List Blk):Bn→Bool
 |.v b=>da h b
 |.h b i=>((nth .dead h b).inner i).isSome
def az.cut(ι:az)(h:List Blk):az:={ι with m:=λb=>if keepB h b then ι b else none}
theorem az.oQ{h:List Blk}{b:Bn}{p:Nat×Nat×Nat}(hb:(ι.cut h) b=some p):ι b=some p∧keepB h b=true:=by
 simp only[az.cut]at hb
 split at hb
 ·rename_i hl;exact⟨hb,hl⟩
 ·cases hb
theorem az.jk{h:List Blk}{b:Bn}(hl:keepB h b=true):(ι.cut h) b=ι b:=by
 simp only[az.cut,hl,abG]
theorem QV{h:List Blk}{x:Bn}(hk:keepB h x=true):da h x.base=true:=by
 cases x with
 |v b=>exact hk
 |h b i=>
  refine kf.2 λe=>?_
  simp only[keepB,Bn.base]at*
  rw[e]at hk;cases hk
theorem az.v8{h:List Blk}{c:Nat}(hc:(ι.cut h).M c):ι.M c:=by
 rcases hc with⟨b,o,s,hb⟩|hc
 ·exact .inl ⟨b,o,s,(az.oQ hb).1⟩
 ·exact .inr hc
theorem ar.get{h:List Blk}{fz kp:Nat→Bool}:∀{xs ys:List Blk},ar h fz kp xs ys→∀b,aj h fz kp (nth .dead xs b) (nth .dead ys b)
 |_,_,.nil l,b=>by rw[mg _ [] b (by simp)];exact .dead _
 |_,_,.cons h0 h1,b=>by
  cases b with
  |zero=>exact h0
  |succ b=>exact h1.get b
theorem aA.get{h:List Blk}{fz kp:Nat→Bool}{t:List (Nat×AV)}:∀{t':List (Nat×AV)},aA h fz kp t t'→∀s,lk t' s=.undef∨ah h fz kp (lk t s) (lk t' s)
 |_,.nil,s=>.inl rfl
 |_,.cons (s:=s0) h0 h1,s=>by
  simp only[lk]
  by_cases e:s0=s
  ·subst e;simp;exact .inr h0
  ·rw[f_ e];exact h1.get s
theorem CT{h h':List Blk}(hr:bL ι h w):∀b:Bn,(!da h' b.base)=true→∀c o s,ι b=some (c,o,s)→¬(ι.cut h').M c:=by
 intro b hb c o s yN hM
 rcases hM with⟨b',o',s',a7⟩|hX
 ·obtain⟨h1,h2⟩:=az.oQ a7
  have:=hr.inj b b' _ _ _ _ _ yN h1
  subst this
  rw[QV h2]at hb;cases hb
 ·exact hr.cD _ _ _ _ yN hX
theorem yO{h':List Blk}:∀b:Nat,da h' b=true→∀p,ι (.v b)=some p→(ι.cut h') (.v b)=some p:=λb hb p hp=>by rw[az.jk (b:=.v b) hb];exact hp
theorem aj.sound{h h':List Blk}(hr:bL ι h w){b:Nat}(hb:aj h (λb=>!da h' b) (λb=>da h' b) (nth .dead h b) (nth .dead h' b)):
 RB w (ι.cut h') ((ι.cut h') (.v b)) (nth .dead h' b)∧∀i,HB w (ι.cut h') ((ι.cut h') (.v b)) ((ι.cut h') (.h b i)) i (nth .dead h' b):=by
 have h0:=hr.blk b
 have hh:=hr.hid b
 have sound:∀{x y:AV} {v:Value},RA w ι x v→ah h (λb=>!da h' b) (λb=>da h' b) x y→RA w (ι.cut h') y v:=λhx hk=>
  ah.sound hr (CT hr) yO (λc=>az.v8) hx hk
 have hL:bc ι.M w w (ι.cut h').M:=⟨λ_ _ _ h=>h,λc hc=>.inl (az.v8 hc),aaV _⟩
 have bare:∀{y:Blk},nth .dead h' b=y→y.bare=true→∀i,(ι.cut h') (.h b i)=none:=λ{y} hy hb i=>by
  have:keepB h' (.h b i)=false:=by
   simp only[keepB];rw[hy]
   cases y<;>first|rfl|cases hb
  simp[az.cut,this]
 have CU:∀i,((nth .dead h' b).inner i).isSome=true→(ι.cut h') (.h b i)=ι (.h b i):=λi hi=>az.jk hi
 have yP:∀i,((nth .dead h' b).inner i).isSome=false→(ι.cut h') (.h b i)=none:=λi hi=>by
  have:keepB h' (.h b i)=false:=hi
  simp[az.cut,this]
 have q8:∀{i wd:Nat} {rows:List (List PV)} {t:Bool} {v:Value},(nth .dead h b).inner i=some (wd,rows,t)→pC (ι (.h b i)) wd rows.length v→((nth .dead h' b).inner i).isSome=false→RP w (ι.cut h').M (.aw wd rows none) v:=λ{i wd rows t v} h1 h2 h3=>
  hr.q8 h1 h2 (λc o s hc hM=>by
   rcases hM with⟨b',o',s',a7⟩|hX
   ·obtain⟨g1,g2⟩:=az.oQ a7
    have:=hr.inj _ _ _ _ _ _ _ hc g1
    subst this
    have g2:((nth .dead h' b).inner i).isSome=true:=g2
    rw[h3]at g2;cases g2
   ·exact hr.cD _ _ _ _ hc hX) hL
 generalize hx:nth .dead h b=x at hb h0 hh q8
 generalize hy:nth .dead h' b=y at hb bare CU yP q8
 cases hb with
 |dead=>
  refine⟨?_,λi=>HB.bare rfl (bare rfl rfl i)⟩
  show _=none
  have:keepB h' (.v b)=false:=QU.2 hy
  simp[az.cut,this]
 |mx hl=>
  refine⟨?_,λi=>HB.bare rfl (bare rfl rfl i)⟩
  have:keepB h' (.v b)=true:=kf.2 (by rw[hy];simp)
  rw[az.jk this]
  obtain⟨c,o,s,cs,ty,fz,h1,h2,h3,h4,h5,h6⟩:=h0
  obtain⟨g1,g2⟩:=hl.get
  refine⟨c,o,s,cs,ty,fz,h1,h2,h3,h4,by rw[←g1];exact h5,λj y hy=>?_⟩
  obtain⟨x,hx,hk⟩:=g2 j y hy
  obtain⟨v,v1,v2,v3⟩:=h6 j x hx
  exact⟨v,v1,v2,sound v3 hk⟩
 |pr hl=>
  refine⟨?_,λi=>HB.bare rfl (bare rfl rfl i)⟩
  have:keepB h' (.v b)=true:=kf.2 (by rw[hy];simp)
  rw[az.jk this]
  have hlen:=hl.len
  rcases h0 with⟨h1,h2⟩|⟨c,o,s,cs,ty,fz,h1,h2,h3,h4,h5,h6,h7⟩
  ·refine .inl ⟨h1,?_⟩
   subst h2
   exact abf (by simpa using hlen.symm)
  ·refine .inr ⟨c,o,s,cs,ty,fz,h1,h2,h3,h4,by rw[←hlen];exact h5,λi row hi=>?_,λi row j x hi hx=>?_⟩
   ·obtain⟨r0,gy,hle⟩:=hl.get i row hi
    rw[←hle.len];exact h6 i r0 gy
   ·obtain⟨r0,gy,hle⟩:=hl.get i row hi
    obtain⟨x0,fJ,Ih⟩:=hle.get j x hx
    obtain⟨o1,v,hv,hp⟩:=h7 i r0 j x0 gy fJ
    exact⟨Ih.one o1,v,hv,(Ih.sound hp).later hL⟩
 |mp=>
  refine⟨?_,λi=>HB.bare rfl (bare rfl rfl i)⟩
  have:keepB h' (.v b)=true:=kf.2 (by rw[hy];simp)
  rw[az.jk this]
  obtain⟨c,o,s,h1,h2⟩:=h0
  exact⟨c,o,s,h1,h2.later hL rfl⟩
 |ax ha hl=>
  refine⟨?_,λi=>HB.bare rfl (bare rfl rfl i)⟩
  have:keepB h' (.v b)=true:=kf.2 (by rw[hy];simp)
  rw[az.jk this]
  obtain⟨hn,c,o,s,cs,ty,fz,h1,h2,h3,h4,h5,h6⟩:=h0
  obtain⟨g1,g2⟩:=hl.get
  have e_:=ha.len
  refine⟨by rw[←e_];exact hn,c,o,s,cs,ty,fz,h1,h2,h3,h4,?_,λj y hy=>?_⟩
  ·simp only[aa7,aa3]at h5 ⊢
   rw[←e_,←g1];exact h5
  ·rw[abI]at hy
   split at hy
   ·rename_i aq
    rw[aaY]at hy
    obtain⟨y0,vI,rfl⟩:=aa0.1 hy
    obtain⟨x,hx,hk⟩:=ha.get j y0 vI
    obtain⟨v,v1,v2,v3⟩:=h6 j (.p x) (by rw[abm (by simpa [e_]using aq),aaY,hx];rfl)
    exact⟨v,v1,v2,sound v3 (.p hk)⟩
   ·rename_i dH
    obtain⟨x,hx,hk⟩:=g2 _ y hy
    obtain⟨v,v1,v2,v3⟩:=h6 j x (by rw[abq (by simpa [e_]using dH),aa3,e_];simpa using hx)
    exact⟨v,v1,v2,sound v3 hk⟩
 |gh=>
  refine⟨?_,λi=>HB.bare rfl (bare rfl rfl i)⟩
  have:keepB h' (.v b)=true:=kf.2 (by rw[hy];simp)
  rw[az.jk this]
  exact h0
 |prt=>
  rename_i wd r s
  refine⟨?_,λi=>HB.bare rfl (bare rfl rfl i)⟩
  have:keepB h' (.v b)=true:=kf.2 (by rw[hy];simp)
  rw[az.jk this]
  rcases h0 with⟨h1,h2⟩|⟨c,o,s',cs,ty,fz,h1,h2,h3,h4,h5,h6,h7⟩
  ·exact .inl ⟨h1,(List.append_eq_nil_iff.1 h2).1⟩
  ·have aq:∀(i:Nat) row,r[i]? =some row→(r++s)[i]? =some row:=λi row hi=>by
    rw[abm (aaW.1 hi).1];exact hi
   refine .inr ⟨c,o,s',cs,ty,fz,h1,h2,h3,h4,?_,λi row hi=>h6 i row (aq i row hi),λi row j x hi hx=>?_⟩
   ·rw[aa7,aa6]at h5;omega
   ·obtain⟨o1,v,hv,hp⟩:=h7 i row j x (aq i row hi) hx
    exact⟨o1,v,hv,hp.later hL⟩
 |mi hm=>
  refine⟨?_,λi=>HB.bare rfl (bare rfl rfl i)⟩
  have:keepB h' (.v b)=true:=kf.2 (by rw[hy];simp)
  rw[az.jk this]
  exact RB.qN (λb hb=>⟨b,(hm b hb).1,λp hp=>yO b (hm b hb).2 p hp⟩) (λ_ _ _ _=>rfl) h0
 |pn=>
  rename_i wo wd c op
  have hk:keepB h' (.v b)=true:=kf.2 (by rw[hy];simp)
  rw[az.jk hk]
  refine⟨RB.sG hL (λ_ _ _ _=>rfl) h0,λi=>?_⟩
  have h1:=(hh i).later hL (λ_ _ _ _=>rfl) (λ_ _ _ _=>rfl)
  unfold HB at h1 ⊢
  cases hi:(Blk.pn wo wd c op).inner i with
  |none=>rw[hi]at h1;exact yP i (by rw[hi];rfl)
  |some z=>rw[hi]at h1;rw[CU i (by rw[hi];rfl)];exact h1
 |bF=>
  rename_i ag ks wd e op
  have hk:keepB h' (.v b)=true:=kf.2 (by rw[hy];simp)
  rw[az.jk hk]
  refine⟨RB.sH hL (λ_ _ _ _=>rfl) h0,λi=>?_⟩
  have h1:=(hh i).later hL (λ_ _ _ _=>rfl) (λ_ _ _ _=>rfl)
  unfold HB at h1 ⊢
  cases hi:(Blk.bF ag ks wd e op).inner i with
  |none=>rw[hi]at h1;exact yP i (by rw[hi];rfl)
  |some z=>rw[hi]at h1;rw[CU i (by rw[hi];rfl)];exact h1
 |u7 hl hc=>
  rename_i wo wd rows c
  have hk:keepB h' (.v b)=true:=kf.2 (by rw[hy];simp)
  rw[az.jk hk]
  have hold:∀i,ι (.h b i)=none:=λi=>(hh i).none rfl
  have Ii:∀i,(ι.cut h') (.h b i)=none:=λi=>by
   simp only[az.cut,hold];split<;>rfl
  rcases h0 with⟨h1,h2⟩|⟨c0,o,s,cs,ty,fz,h1,h2,h3,h4,h5,h6,h7⟩
  ·subst h2
   have gP:c=[]:=abf (by rw[hl];simp)
   subst gP
   exact⟨.inl ⟨h1,rfl⟩,λi=>Ii i⟩
  ·have cell:∀j fl rs,c[j]? =some (fl,rs)→∃v,cs[o+j]? =some v∧dQ v=true∧(fl=false→RP w (ι.cut h').M (.aw wd rs (some rs.length)) v)∧(fl=true→rs=[]∧∃oa,v=.slice oa 0 0):=λj fl rs hj=>by
    have QW:j<rows.length*wo:=by rw[←hl];exact(aaW.1 hj).1
    obtain⟨n,m,hn,hm,rfl⟩:=B2 QW
    have bm:=aaU hn
    have ct:=h6 n _ bm
    have eK:=aaU (l:=rows[n]) (i:=m) (by omega)
    obtain⟨g1,v,g2,g3⟩:=h7 n _ m _ bm eK
    have g4:=hc n m _ _ bm eK
    rw[hj]at g4
    refine⟨v,g2,g3.sE g1,λe=>?_,λe=>?_⟩
    ·subst e
     rcases g4 with⟨e1,_⟩|⟨r2,e1,e2⟩
     ·cases e1
     ·cases e1;rw[e2]at g3;exact g3.later hL
    ·subst e
     rcases g4 with⟨e1,w0,e2⟩|⟨r2,e1,_⟩
     ·cases e1
      rw[e2]at g3
      obtain⟨oa,c1,hv,_,aR,_⟩:=lF g3
      have:c1=0:=aR 0 rfl
      subst this
      exact⟨rfl,oa,by simpa using hv⟩
     ·cases e1
   refine⟨.inr ⟨c0,o,s,cs,ty,fz,h1,h2,h3,h4,by rw[hl];exact h5,λj fl rs hj=>?_⟩,λi=>?_⟩
   ·obtain⟨v,v1,v2,v3,_⟩:=cell j fl rs hj
    exact⟨v,v1,v2,v3⟩
   ·unfold HB
    rw[Ii i]
    simp only[Blk.inner]
    cases hi:c[i]? with
    |none=>trivial
    |some z=>
     obtain⟨fl,rs⟩:=z
     cases fl with
     |false=>trivial
     |true=>
      obtain⟨v,v1,v2,_,v3⟩:=cell i true rs hi
      obtain⟨e1,oa,e2⟩:=v3 rfl
      subst e1
      exact⟨.inl ⟨rfl,rfl⟩,λ_=>⟨v,⟨c0,o,s,h1,by rw[cell_of h2];exact v1⟩,.inr ⟨rfl,oa,e2⟩⟩⟩
 |FT hl hw hc=>
  rename_i wo wd rows c
  refine⟨?_,λi=>HB.bare rfl (bare rfl rfl i)⟩
  have hk:keepB h' (.v b)=true:=kf.2 (by rw[hy];simp)
  rw[az.jk hk]
  rcases h0 with⟨h1,h2⟩|⟨c0,o,s,cs,ty,fz,h1,h2,h3,h4,h5,h6⟩
  ·refine .inl ⟨h1,?_⟩
   subst h2
   cases rows with
   |nil=>rfl
   |cons r rows=>
    have h8:0=(rows.length+1)*(wo+1):=hl
    have:=Nat.mul_pos (adS rows.length) (adS wo)
    simp at*
  ·refine .inr ⟨c0,o,s,cs,ty,fz,h1,h2,h3,h4,by rw[←hl];exact h5,hw,λn row j x hn hx=>?_⟩
   obtain⟨fl,rs,e1,rfl⟩:=hc n j row x hn hx
   obtain⟨v,v1,v2,v3⟩:=h6 _ fl rs e1
   refine⟨rfl,v,v1,?_⟩
   cases fl with
   |false=>exact((v3 rfl).later hL).vA
   |true=>
    have h9:=hh (n*(wo+1)+j)
    unfold HB at h9
    have a_:(Blk.pn (wo+1) wd c none).inner (n*(wo+1)+j)=some (wd,rs,true):=by simp only[Blk.inner];rw[e1];rfl
    rw[a_]at h9
    obtain⟨u,⟨c2,o2,s2,q1,q2⟩,u2⟩:=h9.2 rfl
    rw[h1]at q1;cases q1
    rw[cell_of h2,v1]at q2;cases q2
    exact q8 a_ u2 rfl
 |FU=>
  rename_i ag ks wd
  have hk:keepB h' (.v b)=true:=kf.2 (by rw[hy];simp)
  rw[az.jk hk]
  obtain⟨c,o,s,h1,es,h2,h3,h4⟩:=h0
  exact⟨⟨c,o,s,h1,es,h2,h3,λi k rows hi=>by simp at hi⟩,λi=>yP i rfl⟩
 |FV he=>
  rename_i ag ks wd e e'
  subst he
  refine⟨?_,λi=>HB.bare rfl (bare rfl rfl i)⟩
  have hk:keepB h' (.v b)=true:=kf.2 (by rw[hy];simp)
  rw[az.jk hk]
  obtain⟨c,o,s,h1,es,h2,h3,h4⟩:=h0
  refine⟨c,o,s,h1,es,by rw[aa3];exact h2,by rw[aa3];exact h3,λi k v hi=>?_⟩
  rw[aaY]at hi
  obtain⟨⟨k',rows⟩,bp,e1⟩:=aa0.1 hi
  cases e1
  obtain⟨g0,en,g1,g2,g3⟩:=h4 i _ rows bp
  refine⟨g0,en,g1,g2,g3.later hL,?_⟩
  have h9:=hh i
  unfold HB at h9
  have a_:(Blk.bF ag ks wd e none).inner i=some (wd,rows,true):=by simp only[Blk.inner];rw[bp];rfl
  rw[a_]at h9
  obtain⟨u,⟨c2,o2,s2,BF,ee,q1,q2,q3,q4⟩,u2⟩:=h9.2 rfl
  rw[h1]at q1;cases q1
  rw[h2]at q2;cases q2
  rw[g1]at q3;cases q3
  rw[←q4]at u2
  exact q8 a_ u2 rfl
theorem CV{fx:Nat→Bool}{h:List Blk}:∀{k:Nat},fixOk fx h k=true→∀b,b<k→fx b=true→da h b=true
 |0,_,b,hb,_=>by omega
 |k+1,hf,b,hb,hx=>by
  simp only[fixOk,aa2,acz,abW]at hf
  by_cases e:b=k
  ·subst e
   rcases hf.1 with h|h
   ·rw[h]at hx;cases hx
   ·unfold da;exact h
  ·exact CV hf.2 b (by omega) hx
theorem QX{h':List Blk}:bc ι.M w w (ι.cut h').M:=⟨λ_ _ _ h=>h,λc hc=>.inl (az.v8 hc),aaV _⟩
theorem bL.cut{h h':List Blk}(hr:bL ι h w)(hle:ar h (λb=>!da h' b) (λb=>da h' b) h h'):bL (ι.cut h') h' w:=
 ⟨hr.gl.later QX,λb=>(aj.sound hr (hle.get b)).1,λb b' c o s o' s' h1 h2=>hr.inj b b' c o s o' s' (az.oQ h1).1 (az.oQ h2).1,
  λb c o s h1=>hr.cD b c o s (az.oQ h1).1,λb i=>(aj.sound hr (hle.get b)).2 i⟩
theorem aj.QY{h:List Blk}{fz kp:Nat→Bool}{x:Blk}{l:Nat}{r:Option (List (List PV))}(hb:aj h fz kp x (.gh l r)):x=.gh l r:=by
 generalize hy:Blk.gh l r=y at hb
 cases hb<;>first|(cases hy;done)|rfl
theorem Mem.cut{h h':List Blk}(hm:Mem cx ι h w)(hle:ar h (λb=>!da h' b) (λb=>da h' b) h h')(hk:cx.E.k≤h'.length)(hf:fixOk cx.E.fx h' cx.E.k=true):Mem cx (ι.cut h') h' w:=
 hm.step (hm.hr.cut hle) (λ_ _ _ h=>h) (λc ⟨b,o,s,hb⟩=>.inl ⟨b,o,s,(az.oQ hb).1⟩) (aaV _) ⟨rfl,rfl⟩ rfl rfl rfl rfl
  (λb hb=>by rw[az.jk (b:=.v b) (CV hf b (cx.fk b hb) hb)]) hk (λl r e=>by have:=hle.get 0;rw[e]at this;exact this.QY)
theorem Rel.CW(hr:Rel cx ι st a w)(h:cZ cx.E st st'):Rel cx (ι.cut st'.heap) st' a w:=by
 obtain⟨⟨hk,hf⟩,ht,hh⟩:=h
 refine⟨hr.mem.cut hh (by simpa using hk) hf,λs=>?_,hr.sz,hr.df⟩
 rcases ht.get s with h|h
 ·rw[h];exact .aE _
 ·exact ah.sound hr.mem.hr (CT hr.mem.hr) yO (λc=>az.v8) (hr.tm s) h
theorem Rel.mono(hr:Rel cx ι st a w)(h:cZ cx.E st st'):∃aC,Rel cx aC st' a w:=⟨_,hr.CW h⟩
theorem QZ(live:List Nat)(t:List (Nat×AV))(s:Nat):lk (live.map λs=>(s,lk t s)) s=.undef∨lk (live.map λs=>(s,lk t s)) s=lk t s:=by
 induction live with
 |nil=>exact .inl rfl
 |cons x r ih=>
  simp only[aby,lk]
  by_cases e:x=s
  ·subst e;simp
  ·rw[f_ e];exact ih
theorem Rel.trim(hr:Rel cx ι st a w)(live:List Nat):Rel cx ι (Hk.trim live st) a w:=
 ⟨hr.mem,λs=>by
  rcases QZ live st.tmps s with h|h
  ·simp only[Hk.trim,h];exact .aE _
  ·simp only[Hk.trim,h];exact hr.tm s,hr.sz,hr.df⟩
theorem Ij(t:List (Nat×AV))(n:Nat)(x:AV)(s:Nat):lk (setT t n x) s=lk t s∨(s=n∧lk (setT t n x) s=x):=by
 induction t with
 |nil=>exact .inl rfl
 |cons p r ih=>
  obtain⟨k,v⟩:=p
  simp only[setT]
  by_cases e:k=n
  ·subst e
   simp only[acF,cond_true,lk]
   by_cases e2:k=s
   ·subst e2;simp
   ·rw[f_ e2];exact .inl rfl
  ·rw[f_ e]
   simp only[cond_false,lk]
   by_cases e2:k=s
   ·subst e2;simp
   ·rw[f_ e2];exact ih
theorem CX(n wd:Nat)(x:AV):(∃w0,x=.p (.aw w0 [] (some 0))∧matV n wd x=(.sl n wd 0 0 none,[.pr wd []]))∨matV n wd x=(x,[]):=by
 unfold matV
 split
 ·rename_i w0;exact .inl ⟨w0,rfl,rfl⟩
 ·exact .inr rfl
theorem RA.kJ{w0 n wd:Nat}{v:Value}(h:RA w ι (.p (.aw w0 [] (some 0))) v):RA w ι (.sl n wd 0 0 none) v:=by
 obtain⟨oa,c0,hv,hc,aR,_⟩:=lF (gW h)
 have gP:c0=0:=aR 0 rfl
 subst gP
 rw[hv]
 exact .db (λk hk=>by cases hk)
theorem Mem.more{h:List Blk}(hm:Mem cx ι h w)(wd:Nat):Mem cx ι (h++[.pr wd []]) w:=by
 refine hm.step ⟨hm.hr.gl,λb=>?_,hm.hr.inj,hm.hr.cD,GP hm.hr rfl⟩ (λ_ _ _ h=>h) (λc h=>.inl h) (aaV _) ⟨rfl,rfl⟩ rfl rfl rfl rfl (λ_ _=>rfl) (by have:=hm.kl;simp;omega) (λl r e=>?_)
 ·rw[pD]
  split
  ·rename_i e
   have:=hm.hr.blk b
   rw[mg _ _ _ (by omega)]at this
   exact .inl ⟨this,rfl⟩
  ·exact hm.hr.blk b
 ·rw[pD]at e
  split at e
  ·cases e
  ·exact e
theorem Rel.mat1(hr:Rel cx ι st a w)(m:pB):Rel cx ι (st.mat1 m) a w:=by
 cases m with
 |slot s wd=>
  simp only[St.mat1]
  rcases CX st.heap.length wd (lk st.tmps s)with⟨w0,hx,he⟩|he
  ·rw[he]
   refine⟨hr.mem.more wd,λs'=>?_,hr.sz,hr.df⟩
   rcases Ij st.tmps s (.sl st.heap.length wd 0 0 none) s' with h|⟨h1,h2⟩
   ·simp only[h];exact hr.tm s'
   ·subst h1
    simp only[h2]
    have:=hr.tm s'
    rw[hx]at this
    exact this.kJ
  ·rw[he]
   refine⟨by simpa using hr.mem,λs'=>?_,hr.sz,hr.df⟩
   rcases Ij st.tmps s (lk st.tmps s) s' with h|⟨h1,h2⟩
   ·simp only[h];exact hr.tm s'
   ·subst h1
    simp only[h2];exact hr.tm s'
 |cell b j wd=>
  simp only[St.mat1]
  split
  ·rename_i cells hb
   have aq:b<st.heap.length:=hr.mem.hr.fO (by rw[hb];simp)
   have mq:∀x,(∀v,RA w ι (nth .undef cells j) v→RA w ι x v)→Mem cx ι (setNth st.heap b (.mx (setNth cells j x))) w:=by
    intro x hx
    refine hr.mem.step ⟨hr.mem.hr.gl,λb'=>?_,hr.mem.hr.inj,hr.mem.hr.cD,yu hr.mem.hr aq (by rw[hb];rfl) rfl⟩ (λ_ _ _ h=>h) (λc h=>.inl h) (aaV _) ⟨rfl,rfl⟩ rfl rfl rfl rfl (λ_ _=>rfl) (by rw[eA];simpa using hr.mem.kl) (λl r e=>by
     rw[dc _ _ _ _ _ aq]at e
     split at e
     ·cases e
     ·exact e)
    rw[dc _ _ _ _ _ aq]
    have h0:=hr.mem.hr.blk b'
    split
    ·rename_i e
     subst e
     rw[hb]at h0
     obtain⟨c,o,s,cs,ty,fz,h1,h2,h3,h4,h5,h6⟩:=h0
     refine⟨c,o,s,cs,ty,fz,h1,h2,h3,h4,by rw[eA];simpa using h5,λi y hy=>?_⟩
     rw[eA,abd]at hy
     split at hy
     ·rename_i e
      subst e
      split at hy
      ·rename_i rG
       cases hy
       obtain⟨v,v1,v2,v3⟩:=h6 j _ (aaU rG)
       refine⟨v,v1,v2,hx v ?_⟩
       rw[iD,aaU rG];exact v3
      ·cases hy
     ·exact h6 i y hy
    ·exact h0
   rcases CX st.heap.length wd (nth .undef cells j)with⟨w0,hx,he⟩|he
   ·rw[he]
    have hm:=(mq (.sl st.heap.length wd 0 0 none) (λv hv=>by rw[hx]at hv;exact hv.kJ)).more wd
    exact⟨hm,hr.tm,hr.sz,hr.df⟩
   ·rw[he]
    refine⟨by simpa using mq (nth .undef cells j) (λv hv=>hv),hr.tm,hr.sz,hr.df⟩
  ·rename_i n arr cells hb
   cases Ik:Nat.ble n j with
   |false=>exact hr
   |true=>
   simp only[cond_true]
   have Ik:n≤j:=abj Ik
   have aq:b<st.heap.length:=hr.mem.hr.fO (by rw[hb];simp)
   have mq:∀x,(∀v,RA w ι (nth .undef cells (j - n)) v→RA w ι x v)→Mem cx ι (setNth st.heap b (.ax n arr (setNth cells (j - n) x))) w:=by
    intro x hx
    refine hr.mem.step ⟨hr.mem.hr.gl,λb'=>?_,hr.mem.hr.inj,hr.mem.hr.cD,yu hr.mem.hr aq (by rw[hb];rfl) rfl⟩ (λ_ _ _ h=>h) (λc h=>.inl h) (aaV _) ⟨rfl,rfl⟩ rfl rfl rfl rfl (λ_ _=>rfl) (by rw[eA];simpa using hr.mem.kl) (λl r e=>by
     rw[dc _ _ _ _ _ aq]at e
     split at e
     ·cases e
     ·exact e)
    rw[dc _ _ _ _ _ aq]
    have h0:=hr.mem.hr.blk b'
    split
    ·rename_i e
     subst e
     rw[hb]at h0
     obtain⟨hn,c,o,s,cs,ty,fz,h1,h2,h3,h4,h5,h6⟩:=h0
     refine⟨hn,c,o,s,cs,ty,fz,h1,h2,h3,h4,by rw[eA];simpa using h5,λi y hy=>?_⟩
     rw[eA]at hy
     have e_:(arr.map AV.p).length=n:=by simpa using hn
     by_cases hi:i<n
     ·rw[abm (by omega)]at hy
      exact h6 i y (by rw[abm (by omega)];exact hy)
     ·rw[abq (by omega),e_,abd]at hy
      split at hy
      ·rename_i e
       split at hy
       ·rename_i rG
        cases hy
        obtain⟨v,v1,v2,v3⟩:=h6 i (cells[j - n]) (by rw[abq (by omega),e_,←e];exact aaU rG)
        refine⟨v,v1,v2,hx v ?_⟩
        rw[iD,aaU rG];exact v3
       ·cases hy
      ·exact h6 i y (by rw[abq (by omega),e_];exact hy)
    ·exact h0
   rcases CX st.heap.length wd (nth .undef cells (j - n))with⟨w0,hx,he⟩|he
   ·rw[he]
    have hm:=(mq (.sl st.heap.length wd 0 0 none) (λv hv=>by rw[hx]at hv;exact hv.kJ)).more wd
    exact⟨hm,hr.tm,hr.sz,hr.df⟩
   ·rw[he]
    refine⟨by simpa using mq (nth .undef cells (j - n)) (λv hv=>hv),hr.tm,hr.sz,hr.df⟩
  ·exact hr
theorem Rel.kJ(hr:Rel cx ι st a w)(ms:List pB):Rel cx ι (st.kJ ms) a w:=by
 induction ms generalizing st with
 |nil=>exact hr
 |cons m r ih=>exact ih (hr.mat1 m)
theorem Il{fx:Nat→Bool}{ids:List Nat}:∀{n:Nat},xV fx ids n=true→∀k,k<n→nth 0 ids (nth 0 ids k)=k∧nth 0 ids k<ids.length∧((fx k=true∨k=0)→nth 0 ids k=k)
 |0,_,k,hk=>by omega
 |n+1,h,k,hk=>by
  simp only[xV,aa2]at h
  by_cases e:k=n
  ·subst e
   obtain⟨⟨⟨h1,h2⟩,h3⟩,_⟩:=h
   refine⟨abt h1,abj h2,λhf=>?_⟩
   have:(fx k||Nat.beq k 0)=true:=by
    rcases hf with hf|rfl
    ·rw[hf];rfl
    ·simp
   rw[this]at h3
   exact abt (by simpa using h3)
  ·exact Il h.2 k (by omega)
theorem Im(ids:List Nat)(n:Nat):∀(t:List (Nat×AV)) (s:Nat),lk (u9 ids n t) s=AV.ren ids n (lk t s)
 |[],s=>rfl
 |(k,x)::r,s=>by
  simp only[u9,lk]
  cases Nat.beq k s
  ·exact Im ids n r s
  ·rfl
theorem RB.ren{w:World}{ι aC:az}{ids:List Nat}{n:Nat}(hm:∀b p,ι b=some p→aC (Bn.map (renB ids n) b)=some p)(hM:aC.M=ι.M)(hG:aC.G=ι.G){p:Option (Nat×Nat×Nat)}{x:Blk}(h:RB w ι p x):RB w aC p (x.ren ids n):=by
 have dC:∀{x v},RA w ι x v→RA w aC (AV.ren ids n x) v:=λh=>h.ren hm (λc hc=>by rw[←hM];exact hc)
 cases x with
 |dead=>exact h
 |mx cells=>
  obtain⟨c,o,s,cs,ty,fz,h1,h2,h3,h4,h5,h6⟩:=h
  refine⟨c,o,s,cs,ty,fz,h1,h2,h3,h4,by rw[jA];exact h5,λj y hy=>?_⟩
  rw[jz]at hy
  obtain⟨z,hz,rfl⟩:=aa0.1 hy
  obtain⟨v,v1,v2,v3⟩:=h6 j z hz
  exact⟨v,v1,v2,dC v3⟩
 |pr wd rows=>
  rcases h with h|⟨c,o,s,cs,ty,fz,h1,h2,h3,h4,h5,h6,h7⟩
  ·exact .inl h
  ·refine .inr ⟨c,o,s,cs,ty,fz,h1,h2,h3,h4,h5,h6,λi row j y hr hy=>?_⟩
   obtain⟨a,v,b,d⟩:=h7 i row j y hr hy
   exact⟨a,v,b,by rw[hM];exact d⟩
 |mp ag ks ents=>
  obtain⟨c,o,s,h1,es,h2,h3,h4⟩:=h
  refine⟨c,o,s,h1,es,h2,h3,λi k v hi=>?_⟩
  rw[hM];exact h4 i k v hi
 |gh l r=>exact⟨h.1,by rw[hG];exact h.2⟩
 |pn wo wd c op=>exact RB.sG ⟨λ_ _ _ h=>h,λc hc=>.inl (by rw[←hM];exact hc),aaV _⟩ (λ_ _ _ _=>rfl) h
 |bF ag ks wd e op=>exact RB.sH ⟨λ_ _ _ h=>h,λc hc=>.inl (by rw[←hM];exact hc),aaV _⟩ (λ_ _ _ _=>rfl) h
 |mi m k s=>
  refine RB.qN (λb hb=>?_) (λ_ _ _ _=>rfl) h
  obtain⟨b',a7,rfl⟩:=aa0.1 hb
  exact⟨b',a7,λp hp=>hm (.v b') p hp⟩
 |ax m arr cells=>
  obtain⟨hn,c,o,s,cs,ty,fz,h1,h2,h3,h4,h5,h6⟩:=h
  refine⟨hn,c,o,s,cs,ty,fz,h1,h2,h3,h4,by simpa [jA]using h5,λj y hy=>?_⟩
  have e:arr.map AV.p++AV.dX ids n cells=AV.dX ids n (arr.map AV.p++cells):=by rw[Cg,oM]
  rw[e,jz]at hy
  obtain⟨z,hz,rfl⟩:=aa0.1 hy
  obtain⟨v,v1,v2,v3⟩:=h6 j z hz
  exact⟨v,v1,v2,dC v3⟩
theorem Io(g:List Blk):∀ids:List Nat,(getIds g ids).length=ids.length
 |[]=>rfl
 |x::r=>by simp[getIds,Io g r]
theorem Rel.perm(hr:Rel cx ι st a w){ids:List Nat}(h:Bg cx.E.fx st.heap.length ids=true):∃aC,Rel cx aC (st.perm ids) a w:=by
 unfold Bg at h
 simp only[aa2]at h
 obtain⟨hl,h⟩:=h
 have hl:ids.length=st.heap.length:=abt hl
 have hs:=λk hk=>Il h k hk
 let m':Bn→Option (Nat×Nat×Nat):=λb=>if b.base<ids.length then ι (b.map (nth 0 ids))else ι b
 let aC:az:={ι with m:=m'}
 have gg:∀b:Bn,b.base<ids.length→aC b=ι (b.map (nth 0 ids)):=λb hb=>aaS hb
 have jy:∀b:Bn,¬b.base<ids.length→aC b=ι b:=λb hb=>aaR hb
 have aq:∀(b:Bn) p,ι b=some p→b.base<ids.length:=λb p hb=>by
  obtain⟨c,o,s⟩:=p
  obtain⟨ob,_,hd⟩:=hr.mem.hr.size hb
  have:=hr.mem.hr.fO hd
  omega
 have ic:∀(b:Bn) p,ι b=some p→aC (b.map (renB ids ids.length))=some p:=λb p hb=>by
  have cn:=aq b p hb
  obtain⟨h1,h2,_⟩:=hs b.base (by omega)
  rw[gg _ (by rw[Bn.pV,rj cn];exact h2),Bn.oK (by rw[rj cn];exact h1)];exact hb
 have hI:aC.I=ι.I:=by
  funext c
  refine propext ⟨?_,?_⟩
  ·rintro ⟨b,o,s,hb⟩
   by_cases cn:b.base<ids.length
   ·rw[gg b cn]at hb;exact⟨_,o,s,hb⟩
   ·rw[jy b cn]at hb;exact⟨_,o,s,hb⟩
  ·rintro ⟨b,o,s,hb⟩;exact⟨_,o,s,ic b _ hb⟩
 have hM:aC.M=ι.M:=by
  funext c
  show(aC.I c∨ι.X c)=(ι.I c∨ι.X c)
  rw[hI]
 have kP:∀b,b<ids.length→nth .dead (st.perm ids).heap b=(nth .dead st.heap (nth 0 ids b)).ren ids ids.length:=λb hb=>by
  show nth .dead (getIds _ _) b=_
  rw[Hi _ _ _ hb,rk]
 have hlen:(st.perm ids).heap.length=ids.length:=by
  exact Io _ ids
 have Ct:bL aC (st.perm ids).heap w:=by
  refine⟨by rw[hM];exact hr.mem.hr.gl,λb=>?_,λb b' c o s o' s' h1 h2=>?_,λb c o s h1=>?_,λb i=>?_⟩
  ·by_cases hb:b<ids.length
   ·rw[kP b hb,gg (.v b) hb]
    exact(hr.mem.hr.blk _).ren ic hM rfl
   ·rw[mg _ _ _ (by omega),jy (.v b) hb]
    have:=hr.mem.hr.blk b
    rw[mg _ _ _ (by omega)]at this
    exact this
  ·have key:∀(b:Bn) c o s,aC b=some (c,o,s)→b.base<ids.length∧ι (b.map (nth 0 ids))=some (c,o,s):=λb c o s hb=>by
    by_cases cn:b.base<ids.length
    ·exact⟨cn,by rw[←gg b cn];exact hb⟩
    ·rw[jy b cn]at hb;exact(cn (aq b _ hb)).elim
   obtain⟨a1,a2⟩:=key _ _ _ _ h1
   obtain⟨a3,a4⟩:=key _ _ _ _ h2
   have:=hr.mem.hr.inj _ _ _ _ _ _ _ a2 a4
   have e1:=(hs b.base (by omega)).1
   have e2:=(hs b'.base (by omega)).1
   rw[←Bn.oK (x:=b) e1,←Bn.oK (x:=b') e2,this]
  ·by_cases cn:b.base<ids.length
   ·rw[gg b cn]at h1;exact hr.mem.hr.cD _ _ _ _ h1
   ·rw[jy b cn]at h1;exact hr.mem.hr.cD _ _ _ _ h1
  ·by_cases hb:b<ids.length
   ·rw[kP b hb,gg (.v b) hb,gg (.h b i) hb]
    exact((hr.mem.hr.hid (nth 0 ids b) i).later ⟨λ_ _ _ h=>h,λc hc=>.inl (by rw[←hM];exact hc),aaV _⟩ (λ_ _ _ _=>rfl) (λ_ _ _ _=>rfl)).ren _ _
   ·rw[mg _ _ _ (by omega),jy (.v b) hb,jy (.h b i) hb]
    have:=hr.mem.hr.hid b i
    rw[mg _ _ _ (by omega)]at this
    exact this
 refine⟨aC,hr.mem.step Ct (λ_ _ _ h=>h) (λc hc=>.inl (by rw[←hI];exact hc)) (aaV _) ⟨rfl,rfl⟩ rfl rfl rfl rfl (λb hb=>?_) (by rw[hlen,hl];exact hr.mem.kl) (λl r e=>?_),λs=>?_,hr.sz,hr.df⟩
 ·by_cases cn:b<ids.length
  ·rw[gg (.v b) cn]
   show ι (.v (nth 0 ids b))=_
   rw[(hs b (by omega)).2.2 (.inl hb)]
  ·exact jy (.v b) cn
 ·by_cases h0:0<ids.length
  ·rw[kP 0 h0,(hs 0 (by omega)).2.2 (.inr rfl)]at e
   generalize nth .dead st.heap 0=x at e ⊢
   cases x<;>simp only[Blk.ren]at e<;>first|exact e|cases e
  ·rw[mg _ _ _ (by omega)]at e;cases e
 ·show RA w aC (lk (u9 ids ids.length st.tmps) s) _
  rw[Im]
  exact(hr.tm s).ren ic (λc hc=>by rw[←hM];exact hc)
end
end Hk
