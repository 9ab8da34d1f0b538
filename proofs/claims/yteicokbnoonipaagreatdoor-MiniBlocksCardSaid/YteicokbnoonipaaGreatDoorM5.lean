/- Texts of this claim, put together: MiI, Lv, Tm, MiF, LaidF, SrtF, SrtR, MiBk, Mg, Fw, Fx, Mn, L10a, L12g, L10b, R10a, R10b, R10c, L12h, L10c, Wrap, Read, Read2, Read3, Shapes, DfArg, LaidG. -/
import Derived.Test.YteicokbnoonipaaGreatDoorM4
import Derived.Test.YteicokbnoonipaaGreatDoorM3
import Derived.Test.YteicokbnoonipaaGreatDoorProg
import Derived.Shelf.SlSortCmp.NoneTotal
import Derived.Ground.NamesProg
import Derived.WalkKit
import Derived.Deep.QuietTactic
import Derived.BigQuiet
import Derived.ChangeSame
import Derived.Carry
import Derived.Test.YteicokbnoonipaaGreatDoorRows
import Derived.Lib.LaidTab
set_option linter.unusedSimpArgs false
set_option linter.unusedVariables false
set_option maxHeartbeats 4000000
set_option maxRecDepth 100000
namespace Hk
open Go Go.Proofs
def kB(d:aw)(c j:Nat):List (Bool×List (List PV)):=(List.range (d.n+1)).map λx=>(true,aG ((List.range j).filter λs=>decide (d.go s c=x)))
theorem Wx{h:List Blk}{fz kp:Nat→Bool}(d:aw)(c n:Nat)(hn:n=d.n+1):aj h fz kp (.pr 1 (List.replicate n [.au 0 [] (some 0)])) (.pn 1 1 (kB d c 0) none):=by
 subst hn
 refine aj.uU (by simp[kB]) λi j row x h1 h2=>?_
 have hi:i<d.n+1:=by have:=(aaK.1 h1).1;simpa using this
 have hr:row=[.au 0 [] (some 0)]:=by rw[ab1,aaG hi]at h1;cases h1;rfl
 subst hr
 cases j with
 |succ j=>simp at h2
 |zero=>
  simp at h2
  subst h2
  exact .inl ⟨by simp[kB,hi,aG],0,rfl⟩
theorem ux(d:aw)(c j:Nat){g:Nat}(hg:g<d.n+1):(kB d c j)[g]? =some (true,aG ((List.range j).filter λs=>decide (d.go s c=g))):=by
 unfold kB;rw[aaM,abo hg];rfl
theorem uy(d:aw)(c j:Nat):(kB d c j).length=d.n+1:=by simp[kB]
theorem Aa(a b:List Nat):aG (a++b)=aG a++aG b:=by simp[aG]
theorem LS(d:aw)(c j:Nat){g:Nat}(hg:g<d.n+1)(e:d.go j c=g):(kB d c j).set g (true,aG ((List.range j).filter λs=>decide (d.go s c=g))++[[i64 (j:Nat)]])=kB d c (j+1):=by
 refine abj λk=>?_
 rw[aaZ,uy]
 by_cases hk:k<d.n+1
 ·rw[ux d c (j+1) hk,abH,abD]
  by_cases h:g=k
  ·subst h
   rw[aaG rfl,aaG hk,Aa]
   simp[e,aG]
  ·rw[aaF h,ux d c j hk]
   simp[e,h]
 ·rw[aaF (by omega),aaS (by rw[uy];omega),aaS (by rw[uy];omega)]
theorem Wy(d:aw)(c:Nat):(kB d c d.n).set d.n (true,aG ((List.range d.n).filter λs=>decide (d.go s c=d.n))++[[i64 (d.n:Nat)]])=(d.pf c).map λl=>(true,aG l):=by
 refine abj λk=>?_
 rw[aaZ,uy,aaM]
 unfold aw.pf
 rw[aaM]
 by_cases hk:k<d.n+1
 ·rw[abo hk]
  by_cases h:d.n=k
  ·rw[aaG h,aaG (by omega)]
   simp[←h,aG]
  ·rw[aaF h,ux d c d.n hk]
   simp[abk h]
 ·rw[aaF (by omega),aaS (by rw[uy];omega),aaS (by simp;omega)];rfl
theorem Wz(d:aw)(c:Nat):((d.pf c).map λl=>(true,aG l)).map (λc:Bool×List (List PV)=>[PV.au 1 c.2 none])=(d.pf c).map bJ:=by
 rw[abE];rfl
theorem qn{α:Type}{l:List α}{i:Nat}{u v:α}(h:l[i]? =some u):(l.set i v)[i]? =some v:=by
 rw[aaZ,aaG rfl,aaG (aaK.1 h).1]
theorem jo{h:List Blk}{fz kp:Nat→Bool}{wo wd:Nat}{c c':List (Bool×List (List PV))}{op:Option Nat}(e:c=c'):aj h fz kp (.pn wo wd c op) (.pn wo wd c' op):=by subst e;exact .pn
theorem WA(d:aw)(c:Nat):d.a6 (c+1)=d.a6 c++[d.pf c]:=by simp[aw.a6,abH]
theorem WB{d:aw}{c:Nat}{cells:List (Bool×List (List PV))}(e:cells=(d.pf c).map λl=>(true,aG l)):(d.a6 c).map iR++[[PV.au 1 (cells.map λc=>[PV.au 1 c.2 none]) none]]=(d.a6 (c+1)).map iR:=by
 subst e
 rw[Wz,WA,abb];rfl
def aw.aX(d:aw)(s:Nat):Int:=d.tag.getD s 0
theorem WC{h:List Blk}{fz kp:Nat→Bool}(T:Nat→Int)(n:Nat):aj h fz kp (.pr 1 [[.au 1 [[i64 (n:Nat)]] (some 1)]]) (.pn 1 1 (dV T n 0 0) none):=by
 rw[Wv]
 refine aj.uU rfl λi j row x h1 h2=>?_
 cases i with
 |succ i=>simp at h1
 |zero=>
  simp at h1;subst h1
  cases j with
  |succ j=>simp at h2
  |zero=>
   simp at h2;subst h2
   exact .inr ⟨_,rfl,rfl⟩
theorem EM(t:Int):dQ false [.int .i64] (PV.int .i64 t):=⟨trivial,trivial⟩
theorem WD{T:Nat→Int}{n j:Nat}{t:Int}(h:j<n)(h2:n≤600):(dq T n j t).length≤600:=by
 unfold dq
 rw[aaV]
 have h1:=abO (λs=>decide (T s=t)) (List.range j)
 rw[abQ]at h1
 have h3:(if t= -1 then[n]else[]).length≤1:=by split<;>simp
 omega
theorem LU{T:Nat→Int}{n j:Nat}{t:Int}(h:nY T j t=false):dq T n j t=[n]:=by
 unfold nY at h
 rw[adg]at h
 have h1:t= -1:=by have:=acW h.1;exact adp.1 this
 unfold dq
 rw[aaG h1,acz.2 λs hs=>by have:=abK.1 h.2 s hs;simpa using this];rfl
def c5.EN(p:c5):List Blk:=[.dead,.pr 3 (dx p.todo),.pr 1 (aG p.block),.mx [.sl 1 3 0 p.todo.length none],
 .mx [.p (i64 p.C),.p (.au 1 (p.a6.map iR) none),.sl 2 1 0 p.block.length none,.sl 8 1 0 p.members.length none,.ptr 3 1 0 0],.dead,.dead,.dead,.pr 1 (p.members.map bJ)]
def EO(T:Nat→Int)(n C:Nat)(I:List (List (List Nat)))(t:List Td):c5:=⟨C,I,eG T n n,(tgE T n).map (dq T n n),t⟩
theorem WE{h:List Blk}{fz kp:Nat→Bool}(T:Nat→Int)(n:Nat):aj h fz kp (.pn 1 1 (dV T n n n) none) (.pr 1 (((tgE T n).map (dq T n n)).map bJ)):=by
 refine aj.FG (wo:=0) (by simp[dV]) (λi row h=>?_) λi j row x h1 h2=>?_
 ·rw[aaM]at h
  obtain⟨l,_,rfl⟩:=aaO.1 h
  rfl
 ·rw[aaM,aaM]at h1
  obtain⟨l,hl,rfl⟩:=aaO.1 h1
  obtain⟨t,ht,rfl⟩:=aaO.1 hl
  cases j with
  |succ j=>simp[bJ]at h2
  |zero=>
   simp[bJ]at h2
   subst h2
   refine⟨nY T n t,aG (dq T n n t),?_,rfl⟩
   unfold dV
   rw[aaM,show i*(0+1)+0=i by omega,ht];rfl
theorem LV(T:Nat→Int)(n C:Nat):∀k,((List.range k).flatMap λb=>gp (dq T n n ((tgE T n).getD b 0)).length b C).length=k*C
 |0=>by simp
 |k+1=>by rw[abH,adS,aaV,LV T n C k,aaU];simp[gp]
theorem WG(T:Nat→Int)(n:Nat){b:Nat}(h:b<(tgE T n).length):((tgE T n).map (dq T n n))[b]? =some (dq T n n ((tgE T n).getD b 0)):=by
 rw[aaM,aaN,aaI h];rfl
theorem WH:dQ false [.int .i64] (PV.int .i64 (-1)):=⟨trivial,trivial⟩
theorem uz{n:Nat}(h:n≤600):(n+1)*24≤cK:=by
 have e2:cK=70368744177664:=rfl
 rw[e2];omega
theorem lU{n:Nat}(h:n≤600):(n+1)*8≤cK:=by
 have e2:cK=70368744177664:=rfl
 rw[e2];omega
theorem WI(d:aw)(hd:d.Fit)(hm:d.may=true)(C:Nat)(hC:d.cls=(C:Int)):
 Fn Tryz.prog 91 [.p d.pv] [] [] (λr H=>∃q:c5,mQ d.go d.tg (d.n+1) C q∧r=.ptr 4 5 0 0∧H=q.EN):=by
 have hn:d.next.length≤600:=(aw.fL hm).1
 have gx:d.n≤600:=hn
 have EP:C≤256:=by
  have:=hm
  unfold aw.may cJ at this
  simp only[aaQ,abv]at this
  have h1:=this.1.2
  have h2:=oO (nameOf d.o)
  omega
 have cd:(d.next.map aQ).length=d.next.length:=by simp
 have dH:=bR d.tag
 have o4:d.tag.length=d.n:=(aw.fL hm).2.1
 have hX:intAr .add .i64 ((d.next.map aQ).length:Nat) 1=((d.n+1:Nat):Int):=by rw[cd,cg (by omega) (by omega)];rfl
 have bM:0≤intAr .add .i64 ((d.next.map aQ).length:Nat) 1∧intAr .add .i64 ((d.next.map aQ).length:Nat) 1≤intAr .add .i64 ((d.next.map aQ).length:Nat) 1∧intAr .add .i64 ((d.next.map aQ).length:Nat) 1*(8:Nat)≤(cK:Nat)∧intAr .add .i64 ((d.next.map aQ).length:Nat) 1≤(cK:Nat):=by
  rw[hX]
  have e:d.n=d.next.length:=rfl
  have e2:cK=70368744177664:=rfl
  rw[e2];omega
 refine dd [[1,3,4,32,33],[1,3,4,5,6,32,33,40,41,42],[4,10,95,96,97],[4,155,156]] [[2,5,8,11,14,18,21,24,26,31,32,0,1,1,1,21,18,24,26,31,32,0,1,1,24,18,26,31,32],[2,5,8,14,17,20,23,26,29,32,35,38,12,42,46,47,52,0,1,1,1,42,12,46,47,52,0,1,1,46,12,47,52]] ?_
 (refine ai ?_)
 refine⟨_,d.rest.map .p,bO (rest:=d.rest),⟨rfl,bH _,rfl⟩,?_⟩
 (refine ai ?_)
 apply once
 ·intro a7
  repeat' (first
   |exact True.intro
   |(refine And.intro bM ?_;(refine cu ?_))
   |(refine fB.via ⟨[(1,.ptr 0 259 0 0),(3,.p (i64 (d.next.map aQ).length)),(4,.ptr 4 5 0 0)],[.ax 256 (aO d.o) (d.rest.map .p),.pr 3 [],.pr 1 (List.replicate (intAr .add .i64 ((d.next.map aQ).length:Nat) 1).toNat [i64 0]),.mx [.sl 1 3 0 0 none],
    .mx [.p (i64 d.cls),.p (.au 0 [] (some 0)),.sl 2 1 0 (intAr .add .i64 ((d.next.map aQ).length:Nat) 1).toNat none,.p (.au 0 [] (some 0)),.ptr 3 1 0 0]]⟩ ?_ ?_;exact a7.of;(refine⟨⟨rfl,rfl⟩,?_,?_⟩<;>(((repeat'(first|exact aA.nil|exact ar.nil _|refine aA.cons ?_ ?_|refine ar.cons ?_ ?_|exact ah.ptr rfl|exact ah.sl rfl (.inl rfl)|exact ah.aF rfl|exact ah.mpr rfl|refine ah.pe ?_|refine ah.aD ?_|refine ah.agg ?_|refine aj.pe ?_|refine aj.aI ?_|refine aj.aL ?_|refine aj.aK ?_ ?_|refine aj.mx ?_|exact ak.nil|refine ah.fn ?_ ?_|refine ak.cons ?_ ?_|exact ah.aE _|exact aj.dead _))<;>(try with_reducible rfl))));done)
   |(refine fB.perm [0,2,1,3,4] ⟨[(1,.ptr 0 259 0 0),(3,.p (i64 (d.next.map aQ).length)),(4,.ptr 4 5 0 0)],[.ax 256 (aO d.o) (d.rest.map .p),.pr 3 [],.pr 1 (List.replicate (intAr .add .i64 ((d.next.map aQ).length:Nat) 1).toNat [i64 0]),.mx [.sl 1 3 0 0 none],
    .mx [.p (i64 d.cls),.p (.au 0 [] (some 0)),.sl 2 1 0 (intAr .add .i64 ((d.next.map aQ).length:Nat) 1).toNat none,.p (.au 0 [] (some 0)),.ptr 3 1 0 0]]⟩ ?_ rfl ?_;exact a7.of;(refine⟨⟨rfl,rfl⟩,?_,?_⟩<;>(((repeat'(first|exact aA.nil|exact ar.nil _|refine aA.cons ?_ ?_|refine ar.cons ?_ ?_|exact ah.ptr rfl|exact ah.sl rfl (.inl rfl)|exact ah.aF rfl|exact ah.mpr rfl|refine ah.pe ?_|refine ah.aD ?_|refine ah.agg ?_|refine aj.pe ?_|refine aj.aI ?_|refine aj.aL ?_|refine aj.aK ?_ ?_|refine aj.mx ?_|exact ak.nil|refine ah.fn ?_ ?_|refine ak.cons ?_ ?_|exact ah.aE _|exact aj.dead _))<;>(try with_reducible rfl))));done)
   |(refine fB.perm [0,1,3,2,4] ⟨[(1,.ptr 0 259 0 0),(3,.p (i64 (d.next.map aQ).length)),(4,.ptr 4 5 0 0)],[.ax 256 (aO d.o) (d.rest.map .p),.pr 3 [],.pr 1 (List.replicate (intAr .add .i64 ((d.next.map aQ).length:Nat) 1).toNat [i64 0]),.mx [.sl 1 3 0 0 none],
    .mx [.p (i64 d.cls),.p (.au 0 [] (some 0)),.sl 2 1 0 (intAr .add .i64 ((d.next.map aQ).length:Nat) 1).toNat none,.p (.au 0 [] (some 0)),.ptr 3 1 0 0]]⟩ ?_ rfl ?_;exact a7.of;(refine⟨⟨rfl,rfl⟩,?_,?_⟩<;>(((repeat'(first|exact aA.nil|exact ar.nil _|refine aA.cons ?_ ?_|refine ar.cons ?_ ?_|exact ah.ptr rfl|exact ah.sl rfl (.inl rfl)|exact ah.aF rfl|exact ah.mpr rfl|refine ah.pe ?_|refine ah.aD ?_|refine ah.agg ?_|refine aj.pe ?_|refine aj.aI ?_|refine aj.aL ?_|refine aj.aK ?_ ?_|refine aj.mx ?_|exact ak.nil|refine ah.fn ?_ ?_|refine ak.cons ?_ ?_|exact ah.aE _|exact aj.dead _))<;>(try with_reducible rfl))));done)
   |(refine And.intro ?_ ?_<;>(refine cu ?_)))
 ·(refine ai ?_)
  refine⟨[.cell 4 1 1],Nat,λc=>⟨[(1,.ptr 0 259 0 0),(3,.p (i64 d.n)),(4,.ptr 4 5 0 0),(32,.p (i64 C)),(33,.p (i64 c))],
   [.ax 256 (aO d.o) (d.rest.map .p),.pr 3 [],.pr 1 (List.replicate (d.n+1) [i64 0]),.mx [.sl 1 3 0 0 none],.mx [.p (i64 C),.sl 5 1 0 c none,.sl 2 1 0 (d.n+1) none,.p (.au 0 [] (some 0)),.ptr 3 1 0 0],.pr 1 ((d.a6 c).map iR)]⟩,
   λc=>c≤C,λc=>C - c,⟨0,aaP _,⟨rfl,rfl⟩,?_,?_⟩,λc hc=>?_⟩
  ·(((repeat'(first|exact aA.nil|exact ar.nil _|refine aA.cons ?_ ?_|refine ar.cons ?_ ?_|exact ah.ptr rfl|exact ah.sl rfl (.inl rfl)|exact ah.aF rfl|exact ah.mpr rfl|refine ah.pe ?_|refine ah.aD ?_|refine ah.agg ?_|refine aj.pe ?_|refine aj.aI ?_|refine aj.aL ?_|refine aj.aK ?_ ?_|refine aj.mx ?_|exact ak.nil|refine ah.fn ?_ ?_|refine ak.cons ?_ ?_|exact ah.aE _|exact aj.dead _))<;>(try with_reducible rfl)))
   all_goals first|exact aaH (λn:Nat=>i64 (n:Int)) cd|exact aaH i64 hC|rfl
  ·(((repeat'(first|exact aA.nil|exact ar.nil _|refine aA.cons ?_ ?_|refine ar.cons ?_ ?_|exact ah.ptr rfl|exact ah.sl rfl (.inl rfl)|exact ah.aF rfl|exact ah.mpr rfl|refine ah.pe ?_|refine ah.aD ?_|refine ah.agg ?_|refine aj.pe ?_|refine aj.aI ?_|refine aj.aL ?_|refine aj.aK ?_ ?_|refine aj.mx ?_|exact ak.nil|refine ah.fn ?_ ?_|refine ak.cons ?_ ?_|exact ah.aE _|exact aj.dead _))<;>(try with_reducible rfl)))
   all_goals first|exact aaH i64 hC|exact ah.sle (by rw[hX,Int.toNat_natCast]) rfl|rfl|(rw[hX,Int.toNat_natCast])
  ·have hc:c≤C:=hc
   (refine ai ?_)
   refine jk (λh=>?_) (λh=>?_)
   ·have h:c<C:=by have h:(c:Int)<C:=h;omega
    have uA:=h
    have vE:intAr .add .i64 (d.n:Nat) 1=((d.n+1:Nat):Int):=by rw[←hX,cd];rfl
    (refine ai ?_)
    refine And.intro (by
     rw[vE]
     have e:d.n=d.next.length:=rfl
     have e2:cK=70368744177664:=rfl
     rw[e2];omega) ?_
    (refine ai ?_)
    refine⟨[],Nat,λj=>⟨[(1,.ptr 0 259 0 0),(3,.p (i64 d.n)),(4,.ptr 4 5 0 0),(5,.p (i64 c)),(6,.sl 6 1 0 (d.n+1) none),(32,.p (i64 C)),(33,.p (i64 c)),(40,.p (.au 1 (d.next.map aQ) none)),(41,.p (i64 d.n)),(42,.p (i64 j))],
     [.ax 256 (aO d.o) (d.rest.map .p),.pr 3 [],.pr 1 (List.replicate (d.n+1) [i64 0]),.mx [.sl 1 3 0 0 none],.mx [.p (i64 C),.sl 5 1 0 c none,.sl 2 1 0 (d.n+1) none,.p (.au 0 [] (some 0)),.ptr 3 1 0 0],.pr 1 ((d.a6 c).map iR),.pn 1 1 (kB d c j) none]⟩,
     λj=>j≤d.n,λj=>d.n - j,⟨0,aaP _,⟨rfl,rfl⟩,?_,?_⟩,λj hj=>?_⟩
    ·(((repeat'(first|exact aA.nil|exact ar.nil _|refine aA.cons ?_ ?_|refine ar.cons ?_ ?_|exact ah.ptr rfl|exact ah.sl rfl (.inl rfl)|exact ah.aF rfl|exact ah.mpr rfl|refine ah.pe ?_|refine ah.aD ?_|refine ah.agg ?_|refine aj.pe ?_|refine aj.aI ?_|refine aj.aL ?_|refine aj.aK ?_ ?_|refine aj.mx ?_|exact ak.nil|refine ah.fn ?_ ?_|refine ak.cons ?_ ?_|exact ah.aE _|exact aj.dead _))<;>(try with_reducible rfl)))
     all_goals first|exact aaH (λn:Nat=>i64 (n:Int)) cd|exact aaH i64 hC|exact ah.sle (by rw[vE,Int.toNat_natCast]) rfl|rfl
    ·(refine a8 ?_)
     all_goals first|exact Wx d c _ (by rw[vE,Int.toNat_natCast])|exact aaH i64 hC|rfl
    ·have hj:j≤d.n:=hj
     (refine ai ?_)
     refine jk (λh=>?_) (λh=>?_)
     ·have h:j<d.n:=by have h:(j:Int)<d.n:=h;omega
      obtain⟨r,hr⟩:∃r,d.next[j]? =some r:=⟨_,aaI h⟩
      have LW:=(aw.fL hm).2.2 j h
      have er:d.next.getD j []=r:=by rw[aaN,hr];rfl
      rw[er]at LW
      obtain⟨x,hx⟩:∃x,r[c]? =some x:=⟨_,aaI (by omega)⟩
      have b7:(d.next.map aQ)[(j:Int).toNat]? =some [.au 1 (ints r) none]:=by rw[Int.toNat_natCast,aaM,hr];rfl
      have fW:(ints r)[(c:Int).toNat]? =some [i64 x]:=by rw[Int.toNat_natCast];exact c7 hx
      have w8:=LW.2.2 x (aaY hx)
      have cz:=bR r
      have gX:d.go j c=if x<0 then d.n else x.toNat:=by
       unfold aw.go
       rw[aaG h,er]
       have e:r.getD c 0=x:=by rw[aaN,hx];rfl
       rw[e]
      have h':j<d.next.length:=h
      (refine ai ?_)
      (refine aB ?_)
      refine aJ b7 ?_
      (refine ai ?_)
      (refine aB ?_)
      refine aJ fW ?_
      (refine ai ?_)
      have fin:∀g:Nat,d.go j c=g→g<d.n+1→True:=λ_ _ _=>trivial
      refine jk (λfJ=>?_) (λfJ=>?_)
      ·have fJ:x<0:=fJ
       rw[aaG fJ]at gX
       (refine ai ?_)
       have mU:(kB d c j)[(0+((d.n:Int)).toNat)*1+0]? =some (true,aG ((List.range j).filter λs=>decide (d.go s c=d.n))):=by
        rw[show(0+((d.n:Int)).toNat)*1+0=d.n by omega];exact ux d c j (by omega)
       have dR:(aG ((List.range j).filter λs=>decide (d.go s c=d.n))).length≤j:=by rw[cQ];exact aa2 (abO _ _) (by simp)
       have aU:=LS d c j (g:=d.n) (by omega) gX
       refine⟨true,_,mU,rfl,?_⟩
       (refine ai ?_)
       refine⟨_,mU,⟨rfl,rfl,?_⟩,?_⟩
       ·exact lU (by omega)
       (refine ai ?_)
       refine⟨⟨rfl,.inr rfl⟩,_,qn mU,aaV,?_⟩
       (refine ai ?_)
       refine⟨j+1,h,(show d.n - (j+1)<d.n - j by omega),⟨rfl,rfl⟩,?_,?_⟩
       ·(refine a8 ?_)
        exact cL (by omega)
       ·(refine a8 ?_)
        all_goals first|exact jo (by rw[show(0+((d.n:Int)).toNat)*1+0=d.n by omega];exact aU)
      ·have fJ:0≤x:=fJ
       rw[aaF (by omega)]at gX
       (refine ai ?_)
       have mU:(kB d c j)[(0+(x).toNat)*1+0]? =some (true,aG ((List.range j).filter λs=>decide (d.go s c=x.toNat))):=by
        rw[show(0+(x).toNat)*1+0=x.toNat by omega];exact ux d c j (by omega)
       have dR:(aG ((List.range j).filter λs=>decide (d.go s c=x.toNat))).length≤j:=by rw[cQ];exact aa2 (abO _ _) (by simp)
       have aU:=LS d c j (g:=x.toNat) (by omega) gX
       refine⟨true,_,mU,rfl,?_⟩
       (refine ai ?_)
       refine⟨_,mU,⟨rfl,rfl,?_⟩,?_⟩
       ·exact lU (by omega)
       (refine ai ?_)
       refine⟨⟨rfl,.inr rfl⟩,_,qn mU,aaV,?_⟩
       (refine ai ?_)
       refine⟨j+1,h,(show d.n - (j+1)<d.n - j by omega),⟨rfl,rfl⟩,?_,?_⟩
       ·(refine a8 ?_)
        exact cL (by omega)
       ·(refine a8 ?_)
        all_goals first|exact jo (by rw[show(0+(x).toNat)*1+0=x.toNat by omega];exact aU)
     ·have tX:j=d.n:=by have h:(d.n:Int)≤j:=h;omega
      subst tX
      have mU:(kB d c d.n)[(0+(d.n:Int).toNat)*1+0]? =some (true,aG ((List.range d.n).filter λs=>decide (d.go s c=d.n))):=by
       rw[show(0+(d.n:Int).toNat)*1+0=d.n by omega];exact ux d c d.n (by omega)
      have dR:(aG ((List.range d.n).filter λs=>decide (d.go s c=d.n))).length≤d.n:=by rw[cQ];exact aa2 (abO _ _) (by simp)
      have aU:=Wy d c
      have kP:=uy d c d.n
      have cz:0+c=((d.a6 c).map iR).length:=by rw[aaR,aaL];simp[aw.a6]
      (refine ai ?_)
      refine⟨true,_,mU,rfl,?_⟩
      (refine ai ?_)
      refine⟨_,mU,⟨rfl,rfl,?_⟩,?_⟩
      ·exact lU (by omega)
      (refine ai ?_)
      refine⟨⟨rfl,.inr rfl⟩,_,qn mU,aaV,?_⟩
      (refine ai ?_)
      refine And.intro ⟨rfl,rfl,by rw[abd,kP]⟩ ?_
      (refine ai ?_)
      refine And.intro (uz (by omega)) ?_
      (refine ai ?_)
      refine⟨c+1,uA,(show C - (c+1)<C - c by omega),⟨rfl,rfl⟩,?_,?_⟩
      ·(refine a8 ?_)
       all_goals first|exact cL (by omega)
      ·(refine a8 ?_)
       refine WB ?_
       rw[show(0+(d.n:Int).toNat)*1+0=d.n by omega];exact aU
   ·have uA:c=C:=by have h:(C:Int)≤c:=h;omega
    subst uA
    (refine ai ?_)
    refine And.intro WH ?_
    (refine IP ?_)
    refine lz.cap ?_
    (refine ai ?_)
    refine⟨[],Nat,λj=>⟨[(4,.ptr 4 5 0 0),(10,.mpr 6),(95,.p (.au 1 (ints d.tag) none)),(96,.p (i64 d.tag.length)),(97,.p (i64 j))],
     [.ax 256 (aO d.o) (d.rest.map .p),.pr 3 [],.pr 1 (aG (eG d.aX d.n j)),.mx [.sl 1 3 0 0 none],.mx [.p (i64 c),.sl 5 1 0 c none,.sl 2 1 0 (d.n+1) none,.sl 8 1 0 (tgE d.aX j).length none,.ptr 3 1 0 0],.pr 1 ((d.a6 c).map iR),
      .mp false [.int .i64] (jV d.aX j),.dead,.pn 1 1 (dV d.aX d.n j j) none]⟩,
     λj=>j≤d.n,λj=>d.n - j,⟨0,aaP _,⟨rfl,rfl⟩,?_,?_⟩,λj hj=>?_⟩
    ·(refine dE ?_ ?_)
     all_goals first|exact aaH (λn:Nat=>i64 (n:Int)) dH|rfl
    ·(((repeat'(first|exact aA.nil|exact ar.nil _|refine aA.cons ?_ ?_|refine ar.cons ?_ ?_|exact ah.ptr rfl|exact ah.sl rfl (.inl rfl)|exact ah.aF rfl|exact ah.mpr rfl|refine ah.pe ?_|refine ah.aD ?_|refine ah.agg ?_|refine aj.pe ?_|refine aj.aI ?_|refine aj.aL ?_|refine aj.aK ?_ ?_|refine aj.mx ?_|exact ak.nil|refine ah.fn ?_ ?_|refine ak.cons ?_ ?_|exact ah.aE _|exact aj.dead _))<;>(try with_reducible rfl)))
     all_goals first|exact(Wu _).symm|exact Ww.symm|exact WC _ _
    ·have hj:j≤d.n:=hj
     (refine ai ?_)
     refine jk (λh=>?_) (λh=>?_)
     ·have h:j<d.n:=by have h:(j:Int)<d.tag.length:=h;omega
      obtain⟨t,ht⟩:∃t,d.tag[j]? =some t:=⟨_,aaI (by omega)⟩
      have eT:d.aX j=t:=by unfold aw.aX;rw[aaN,ht];rfl
      have gm:(ints d.tag)[(j:Int).toNat]? =some [i64 t]:=by rw[Int.toNat_natCast];exact c7 ht
      have jL:=Wo (T:=d.aX) j t
      have Kp:=EK (T:=d.aX) j
      have LX:(aG (eG d.aX d.n j))[0+(j:Int).toNat]? =some [i64 (((eG d.aX d.n j).getD j 0:Nat):Int)]:=by
       rw[aaL,Int.toNat_natCast]
       refine kz ?_
       rw[aaN,aaI (by rw[EJ];omega)];rfl
      apply once
      ·intro a7
       by_cases a_:t∈tgE d.aX j
       ·rw[aaG a_]at jL
        have ER:=rL a_
        have hE:tgE d.aX (j+1)=tgE d.aX j:=LN (by rw[eT];exact a_)
        have uB:(0:Int)≤((0+ix (tgE d.aX j) t:Nat):Int)∧((0+ix (tgE d.aX j) t:Nat):Int)<((tgE d.aX j).length:Nat):=by omega
        (refine ai ?_)
        (refine aB ?_)
        refine aJ gm ?_
        (refine ai ?_)
        refine And.intro (EM t) ?_
        conv=>whnf
        refine⟨_,jL,?_⟩
        (refine ai ?_)
        refine⟨_,LX,rfl,aaJ _,?_⟩
        (refine ai ?_)
        have jq:(dV d.aX d.n j j)[(0+((0+ix (tgE d.aX j) t:Nat):Int).toNat)*1+0]? =some (mT d.aX d.n j t):=by
         rw[show(0+((0+ix (tgE d.aX j) t:Nat):Int).toNat)*1+0=ix (tgE d.aX j) t by omega];exact LP a_
        have b0:(aG (dq d.aX d.n j t)).length≤600:=by rw[cQ];exact WD (by omega) (by omega)
        have oz:(tgE d.aX j).length=(tgE d.aX (j+1)).length:=by rw[hE]
        have Ab:jV d.aX j=jV d.aX (j+1):=by unfold jV;rw[hE]
        have Ac:(aG (eG d.aX d.n j)).set (0+(j:Int).toNat) [i64 ((0+ix (tgE d.aX j) t:Nat):Int)]=aG (eG d.aX d.n (j+1)):=by
         rw[aaL,Int.toNat_natCast,aaL,←hE,←eT];exact LR h
        have sd:(dV d.aX d.n j j).set ((0+((0+ix (tgE d.aX j) t:Nat):Int).toNat)*1+0) (true,aG (dq d.aX d.n j t)++[[i64 (j:Nat)]])=dV d.aX d.n (j+1) (j+1):=by
         rw[show(0+((0+ix (tgE d.aX j) t:Nat):Int).toNat)*1+0=ix (tgE d.aX j) t by omega,←LQ,eT,hE]
         unfold dV;rw[hE]
        cases ib:nY d.aX j t with
        |true=>
         have jq:(dV d.aX d.n j j)[(0+((0+ix (tgE d.aX j) t:Nat):Int).toNat)*1+0]? =some (true,aG (dq d.aX d.n j t)):=by rw[jq];unfold mT;rw[ib]
         refine⟨true,_,jq,rfl,?_⟩
         (refine cu ?_)
         repeat' (first
          |exact True.intro
          |(refine⟨_,jq,⟨rfl,rfl,lU b0⟩,?_⟩;(refine cu ?_))
          |(refine⟨⟨rfl,.inr rfl⟩,_,qn jq,aaV,?_⟩;(refine cu ?_))
          |(refine And.intro uB ?_;(refine cu ?_))
          |(refine fB.via ⟨[(4,.ptr 4 5 0 0),(10,.mpr 6),(95,.p (.au 1 (ints d.tag) none)),(96,.p (i64 d.tag.length)),(97,.p (i64 j))],
           [.ax 256 (aO d.o) (d.rest.map .p),.pr 3 [],.pr 1 (aG (eG d.aX d.n (j+1))),.mx [.sl 1 3 0 0 none],.mx [.p (i64 c),.sl 5 1 0 c none,.sl 2 1 0 (d.n+1) none,.sl 8 1 0 (tgE d.aX (j+1)).length none,.ptr 3 1 0 0],.pr 1 ((d.a6 c).map iR),
            .mp false [.int .i64] (jV d.aX (j+1)),.dead,.pn 1 1 (dV d.aX d.n (j+1) (j+1)) none]⟩ ?_ ?_;exact a7.of;(refine⟨⟨rfl,rfl⟩,?_,?_⟩<;>(((repeat'(first|exact aA.nil|exact ar.nil _|refine aA.cons ?_ ?_|refine ar.cons ?_ ?_|exact ah.ptr rfl|exact ah.sl rfl (.inl rfl)|exact ah.aF rfl|exact ah.mpr rfl|refine ah.pe ?_|refine ah.aD ?_|refine ah.agg ?_|refine aj.pe ?_|refine aj.aI ?_|refine aj.aL ?_|refine aj.aK ?_ ?_|refine aj.mx ?_|exact ak.nil|refine ah.fn ?_ ?_|refine ak.cons ?_ ?_|exact ah.aE _|exact aj.dead _))<;>(try with_reducible rfl))));all_goals first|exact Ac|exact ah.sle oz rfl|exact Ab|exact jo sd)
          |(refine And.intro ?_ ?_<;>(refine cu ?_)))
         done
        |false=>
         have jq:(dV d.aX d.n j j)[(0+((0+ix (tgE d.aX j) t:Nat):Int).toNat)*1+0]? =some (false,[[i64 (d.n:Nat)]]):=by rw[jq];unfold mT;rw[ib,LU ib];rfl
         rw[LU ib]at sd
         have fH:=(aaK.1 jq).1
         refine⟨false,_,jq,?_⟩
         (refine cu ?_)
         repeat' (first
          |exact True.intro
          |(refine And.intro ⟨acR 1,lU (n:=1) (by omega)⟩ ?_;(refine cu ?_))
          |(refine And.intro ⟨(aaL _).trans List.length_append.symm,.inl rfl,fH⟩ ?_;(refine cu ?_))
          |(refine And.intro uB ?_;(refine cu ?_))
          |(refine fB.via ⟨[(4,.ptr 4 5 0 0),(10,.mpr 6),(95,.p (.au 1 (ints d.tag) none)),(96,.p (i64 d.tag.length)),(97,.p (i64 j))],
           [.ax 256 (aO d.o) (d.rest.map .p),.pr 3 [],.pr 1 (aG (eG d.aX d.n (j+1))),.mx [.sl 1 3 0 0 none],.mx [.p (i64 c),.sl 5 1 0 c none,.sl 2 1 0 (d.n+1) none,.sl 8 1 0 (tgE d.aX (j+1)).length none,.ptr 3 1 0 0],.pr 1 ((d.a6 c).map iR),
            .mp false [.int .i64] (jV d.aX (j+1)),.dead,.pn 1 1 (dV d.aX d.n (j+1) (j+1)) none]⟩ ?_ ?_;exact a7.of;(refine⟨⟨rfl,rfl⟩,?_,?_⟩<;>(((repeat'(first|exact aA.nil|exact ar.nil _|refine aA.cons ?_ ?_|refine ar.cons ?_ ?_|exact ah.ptr rfl|exact ah.sl rfl (.inl rfl)|exact ah.aF rfl|exact ah.mpr rfl|refine ah.pe ?_|refine ah.aD ?_|refine ah.agg ?_|refine aj.pe ?_|refine aj.aI ?_|refine aj.aL ?_|refine aj.aK ?_ ?_|refine aj.mx ?_|exact ak.nil|refine ah.fn ?_ ?_|refine ak.cons ?_ ?_|exact ah.aE _|exact aj.dead _))<;>(try with_reducible rfl))));all_goals first|exact Ac|exact ah.sle oz rfl|exact Ab|exact jo sd)
          |(refine And.intro ?_ ?_<;>(refine cu ?_)))
         done
       ·rw[aaF a_]at jL
        (refine ai ?_)
        (refine aB ?_)
        refine aJ gm ?_
        (refine ai ?_)
        refine And.intro (EM t) ?_
        conv=>whnf
        refine⟨_,jL,?_⟩
        (refine ai ?_)
        refine And.intro (EM t) ?_
        (refine ai ?_)
        have mq:¬d.aX j∈tgE d.aX j:=by rw[eT];exact a_
        have hE:tgE d.aX (j+1)=tgE d.aX j++[t]:=by rw[z_ mq,eT]
        have mN:ix (tgE d.aX (j+1)) t=(tgE d.aX j).length:=by rw[hE];exact pZ a_
        have uB:(0:Int)≤(((tgE d.aX j).length:Nat):Int)∧(((tgE d.aX j).length:Nat):Int)<(((tgE d.aX j).length+1:Nat):Int):=by omega
        have ct:=Wr (n:=d.n) mq
        have iu:(0+(((tgE d.aX j).length:Nat):Int).toNat)*1+0=ix (tgE d.aX (j+1)) t:=by rw[mN];omega
        have bn:mT d.aX d.n j t=(true,[]):=by rw[←eT];exact LO mq
        have jq:(dV d.aX d.n j j++List.replicate 1 (true,[]))[(0+(((tgE d.aX j).length:Nat):Int).toNat)*1+0]? =some (true,[]):=by
         rw[ct,iu,←bn];exact LP (by rw[hE];simp)
        have oz:(tgE d.aX j).length+1=(tgE d.aX (j+1)).length:=by rw[hE];simp
        have Ab:mput (jV d.aX j) (i64 t) (i64 (((tgE d.aX j).length:Nat):Int))=jV d.aX (j+1):=by rw[←eT];exact Wn mq
        have Ac:(aG (eG d.aX d.n j)).set (0+(j:Int).toNat) [i64 (((tgE d.aX j).length:Nat):Int)]=aG (eG d.aX d.n (j+1)):=by
         rw[aaL,Int.toNat_natCast,←mN,←eT];exact LR h
        have sd:(dV d.aX d.n j j++List.replicate 1 (true,[])).set ((0+(((tgE d.aX j).length:Nat):Int).toNat)*1+0) (true,[]++[[i64 (j:Nat)]])=dV d.aX d.n (j+1) (j+1):=by
         rw[ct,iu,←LQ,eT]
         have e:aG (dq d.aX d.n j t)=[]:=aaH Prod.snd bn
         rw[e]
        refine⟨1,0,rfl,⟨rfl,rfl,(xc ..).symm,uz (by omega)⟩,?_⟩
        (refine ai ?_)
        refine⟨_,LX,rfl,aaJ _,?_⟩
        (refine ai ?_)
        refine⟨true,_,jq,rfl,?_⟩
        (refine cu ?_)
        repeat' (first
         |exact True.intro
         |(refine⟨_,jq,⟨rfl,rfl,lU (n:=0) (by omega)⟩,?_⟩;(refine cu ?_))
         |(refine⟨⟨rfl,.inr rfl⟩,_,qn jq,aaV,?_⟩;(refine cu ?_))
         |(refine And.intro uB ?_;(refine cu ?_))
         |(refine fB.via ⟨[(4,.ptr 4 5 0 0),(10,.mpr 6),(95,.p (.au 1 (ints d.tag) none)),(96,.p (i64 d.tag.length)),(97,.p (i64 j))],
          [.ax 256 (aO d.o) (d.rest.map .p),.pr 3 [],.pr 1 (aG (eG d.aX d.n (j+1))),.mx [.sl 1 3 0 0 none],.mx [.p (i64 c),.sl 5 1 0 c none,.sl 2 1 0 (d.n+1) none,.sl 8 1 0 (tgE d.aX (j+1)).length none,.ptr 3 1 0 0],.pr 1 ((d.a6 c).map iR),
           .mp false [.int .i64] (jV d.aX (j+1)),.dead,.pn 1 1 (dV d.aX d.n (j+1) (j+1)) none]⟩ ?_ ?_;exact a7.of;(refine⟨⟨rfl,rfl⟩,?_,?_⟩<;>(((repeat'(first|exact aA.nil|exact ar.nil _|refine aA.cons ?_ ?_|refine ar.cons ?_ ?_|exact ah.ptr rfl|exact ah.sl rfl (.inl rfl)|exact ah.aF rfl|exact ah.mpr rfl|refine ah.pe ?_|refine ah.aD ?_|refine ah.agg ?_|refine aj.pe ?_|refine aj.aI ?_|refine aj.aL ?_|refine aj.aK ?_ ?_|refine aj.mx ?_|exact ak.nil|refine ah.fn ?_ ?_|refine ak.cons ?_ ?_|exact ah.aE _|exact aj.dead _))<;>(try with_reducible rfl))));all_goals first|exact Ac|exact ah.sle oz rfl|exact Ab|exact jo sd)
         |(refine And.intro ?_ ?_<;>(refine cu ?_)))
        done
      ·(refine ai ?_)
       refine⟨j+1,h,(show d.n - (j+1)<d.n - j by omega),⟨rfl,rfl⟩,?_,?_⟩
       ·(refine a8 ?_)
        exact cL (by omega)
       ·(refine a8 ?_)
        all_goals first|exact jo rfl
     ·have tX:j=d.n:=by have h:(d.tag.length:Int)≤j:=h;omega
      subst tX
      have Kp:=EK (T:=d.aX) d.n
      have b0:=xc (T:=d.aX) d.n d.n d.n
      have LY:=EJ (T:=d.aX) d.n d.n
      have D7:((d.a6 c).map iR).length=c:=by simp[aw.a6]
      (refine ai ?_)
      refine⟨[],Nat×List Td,λx=>⟨[(4,.ptr 4 5 0 0),(155,.p (i64 (tgE d.aX d.n).length)),(156,.p (i64 x.1))],(EO d.aX d.n c (d.a6 c) x.2).EN⟩,
       λx=>x.1≤(tgE d.aX d.n).length∧x.2.Perm ((List.range x.1).flatMap λb=>gp (dq d.aX d.n d.n ((tgE d.aX d.n).getD b 0)).length b c),
       λx=>(tgE d.aX d.n).length - x.1,⟨(0,[]),⟨aaP _,List.Perm.refl _⟩,⟨rfl,rfl⟩,?_,?_⟩,λx hx=>?_⟩
      ·(refine a8 ?_)
       all_goals first|rfl
      ·show ar _ _ _ _ [_,_,_,_,_,_,_,_,_]
       (((repeat'(first|exact aA.nil|exact ar.nil _|refine aA.cons ?_ ?_|refine ar.cons ?_ ?_|exact ah.ptr rfl|exact ah.sl rfl (.inl rfl)|exact ah.aF rfl|exact ah.mpr rfl|refine ah.pe ?_|refine ah.aD ?_|refine ah.agg ?_|refine aj.pe ?_|refine aj.aI ?_|refine aj.aL ?_|refine aj.aK ?_ ?_|refine aj.mx ?_|exact ak.nil|refine ah.fn ?_ ?_|refine ak.cons ?_ ?_|exact ah.aE _|exact aj.dead _))<;>(try with_reducible rfl)))
       all_goals first|rfl|exact WE _ _|exact ah.sle (EJ _ _).symm rfl|exact ah.sle (aaR ..).symm rfl|exact ah.dI (rs:=(d.a6 c).map iR) rfl rfl (eF (aby D7)) D7 (.refl _)
      ·obtain⟨b,t⟩:=x
       obtain⟨hb,hp⟩:=hx
       have hb:b≤(tgE d.aX d.n).length:=hb
       have hp:t.Perm ((List.range b).flatMap λb=>gp (dq d.aX d.n d.n ((tgE d.aX d.n).getD b 0)).length b c):=hp
       have kP:t.length=b*c:=by rw[hp.length_eq];exact LV _ _ _ _
       have NW:b*c≤601*256:=adl (by omega) EP
       show awp _ _ _ ⟨_,[_,_,_,_,_,_,_,_,_]⟩
       (refine ai ?_)
       refine jk (λh=>?_) (λh=>?_)
       ·have h:b<(tgE d.aX d.n).length:=by have h:(b:Int)<((tgE d.aX d.n).length:Nat):=h;omega
        have pb:=Et (EO d.aX d.n c (d.a6 c) t) b (dq d.aX d.n d.n ((tgE d.aX d.n).getD b 0)) (WG _ _ h) (by show t.length+c<2^38;omega)
        (refine ai ?_)
        refine iK [4,2,8,3,1] pb rfl rfl (ak.cons (ah.ptr rfl) (ak.cons (ah.pe rfl) ak.nil)) ?_
        rintro r H ⟨rfl,t',ji,rfl⟩
        (refine ai ?_)
        refine⟨(b+1,t'),⟨h,?_⟩,(show(tgE d.aX d.n).length - (b+1)<(tgE d.aX d.n).length - b by omega),⟨rfl,rfl⟩,?_,?_⟩
        ·show t'.Perm ((List.range (b+1)).flatMap _)
         rw[abH,adS,List.flatMap_singleton]
         exact ji.trans (List.perm_append_comm.trans (List.Perm.append_right _ hp))
        ·(refine a8 ?_)
         exact cL (by omega)
        ·show ar _ _ _ _ [_,_,_,_,_,_,_,_,_]
         (((repeat'(first|exact aA.nil|exact ar.nil _|refine aA.cons ?_ ?_|refine ar.cons ?_ ?_|exact ah.ptr rfl|exact ah.sl rfl (.inl rfl)|exact ah.aF rfl|exact ah.mpr rfl|refine ah.pe ?_|refine ah.aD ?_|refine ah.agg ?_|refine aj.pe ?_|refine aj.aI ?_|refine aj.aL ?_|refine aj.aK ?_ ?_|refine aj.mx ?_|exact ak.nil|refine ah.fn ?_ ?_|refine ak.cons ?_ ?_|exact ah.aE _|exact aj.dead _))<;>(try with_reducible rfl)))
         all_goals rfl
       ·have ft:b=(tgE d.aX d.n).length:=by have h:(((tgE d.aX d.n).length:Nat):Int)≤b:=h;omega
        subst ft
        have hg:=VX (T:=d.aX) d.go d.n c (d.a6 c) (aw.VZ c d) (λs c' _ nm=>aw.zU hm s c' (by rw[hC];exact adT.2 nm)) hp
        (refine ai ?_)
        refine⟨.ptr 4 5 0 0,(EO d.aX d.n c (d.a6 c) t).EN,⟨_,hg,rfl,rfl⟩,⟨rfl,rfl⟩,?_,?_⟩
        ·(exact cI)
        ·show ar _ _ _ _ [_,_,_,_,_,_,_,_,_]
         (exact cI)
         all_goals rfl
def ln(m:List Bool):List Blk:=[.mx [.sl 1 1 0 m.length none],.pr 1 (bT m)]
theorem WJ(m:List Bool)(x:Int)(hx:x<m.length):RF Tryz.prog 220 [.p (i64 x),.ptr 0 1 0 0] (ln m) (.b (dg m x)):=by
 have cj:=mP m
 refine dd [] [] ?_
 unfold ln
 by_cases h0:0≤x
 ·have hg:(bT m)[0+x.toNat]? =some [.b (m.getD x.toNat false)]:=by rw[aaL];exact qg (by omega)
  have e:dg m x=m.getD x.toNat false:=by unfold dg;rw[aa5 h0,abM]
  rw[e]
  (refine ai ?_)
  (refine aB ?_)
  refine aJ hg ?_
  (refine ai ?_)
  refine⟨_,_,⟨rfl,rfl⟩,⟨rfl,rfl⟩,?_,?_⟩<;>(((repeat'(first|exact aA.nil|exact ar.nil _|refine aA.cons ?_ ?_|refine ar.cons ?_ ?_|exact ah.ptr rfl|exact ah.sl rfl (.inl rfl)|exact ah.aF rfl|exact ah.mpr rfl|refine ah.pe ?_|refine ah.aD ?_|refine ah.agg ?_|refine aj.pe ?_|refine aj.aI ?_|refine aj.aL ?_|refine aj.aK ?_ ?_|refine aj.mx ?_|exact ak.nil|refine ah.fn ?_ ?_|refine ak.cons ?_ ?_|exact ah.aE _|exact aj.dead _))<;>(try with_reducible rfl)))
 ·have e:dg m x=false:=by unfold dg;rw[aa_ h0,Bool.false_and]
  rw[e]
  (refine ai ?_)
  (refine aB ?_)
  refine⟨_,_,⟨rfl,rfl⟩,⟨rfl,rfl⟩,?_,?_⟩<;>(((repeat'(first|exact aA.nil|exact ar.nil _|refine aA.cons ?_ ?_|refine ar.cons ?_ ?_|exact ah.ptr rfl|exact ah.sl rfl (.inl rfl)|exact ah.aF rfl|exact ah.mpr rfl|refine ah.pe ?_|refine ah.aD ?_|refine ah.agg ?_|refine aj.pe ?_|refine aj.aI ?_|refine aj.aL ?_|refine aj.aK ?_ ?_|refine aj.mx ?_|exact ak.nil|refine ah.fn ?_ ?_|refine ak.cons ?_ ?_|exact ah.aE _|exact aj.dead _))<;>(try with_reducible rfl)))
theorem WK(zs:List Int)(m:List Bool)(hz:zs.length<2^60)(hb:∀z∈zs,z<(m.length:Int)):
 RF Tryz.prog 159 [.p (.au 1 (ints zs) none),.fn 220 [] [.ptr 0 1 0 0]] (ln m) (i64 (idxI (dg m) zs)):=by
 have cz:=bR zs
 refine dd [[0,1,7,8]] [] ?_
 unfold ln
 (refine ai ?_)
 refine⟨[],Nat,λi=>⟨[(0,.p (.au 1 (ints zs) none)),(1,.fn 220 [] [.ptr 0 1 0 0]),(7,.p (i64 zs.length)),(8,.p (i64 i))],ln m⟩,
  λi=>i≤zs.length∧∀j z,j<i→zs[j]? =some z→dg m z=false,λi=>zs.length - i,⟨0,⟨aaP _,λj z h _=>absurd h (ab_ _)⟩,⟨rfl,rfl⟩,?_,?_⟩,λi hi=>?_⟩
 ·(refine dE ?_ ?_)
  all_goals first|exact aaH (λn:Nat=>i64 (n:Int)) cz|rfl
 ·show ar _ _ _ _ [_,_]
  (exact cI)
 ·obtain⟨hi,cO⟩:=hi
  by_cases br:i=zs.length
  ·have e:idxI (dg m) zs= -1:=by
    have:zs.findIdx? (dg m)=none:=by
     rw[acd]
     intro z hz
     obtain⟨j,hj,rfl⟩:=acY.1 hz
     exact cO j _ (by omega) (aaI hj)
    unfold idxI;rw[this]
   subst br
   rw[e]
   show awp _ _ _ ⟨_,[_,_]⟩
   (refine ai ?_)
   (refine aB ?_)
   refine⟨_,ln m,⟨rfl,rfl⟩,⟨rfl,rfl⟩,?_,?_⟩
   ·(exact cI)
   ·show ar _ _ _ _ [_,_]
    (exact cI)
  ·have aq:i<zs.length:=by omega
   obtain⟨z,ik⟩:∃z,zs[i]? =some z:=⟨_,aaI aq⟩
   have hg:=c7 ik
   have nP:=WJ m z (hb z (cM ik))
   unfold ln at nP
   show awp _ _ _ ⟨_,[_,_]⟩
   (refine ai ?_)
   (refine aB ?_)
   refine⟨_,hg,?_⟩
   (refine ai ?_)
   refine mz [0,1] nP rfl rfl (ak.cons (ah.pe rfl) (ak.cons (ah.ptr rfl) ak.nil)) ?_
   (refine ai ?_)
   refine dr (λhb=>?_) (λhb=>?_)
   ·have e:idxI (dg m) zs=(i:Nat):=by
     have:zs.findIdx? (dg m)=some i:=by
      rw[acb]
      refine⟨aq,?_,λj hj=>?_⟩
      ·rw[(aaK.1 ik).2];exact hb
      ·rw[cO j _ hj (aaI (by omega))];simp
     unfold idxI;rw[this]
    rw[e]
    (refine ai ?_)
    refine⟨_,ln m,⟨rfl,rfl⟩,⟨rfl,rfl⟩,?_,?_⟩
    ·(exact cI)
    ·show ar _ _ _ _ [_,_]
     (exact cI)
   ·(refine ai ?_)
    refine⟨i+1,⟨aq,λj z' hj jR=>?_⟩,by show zs.length - (i+1)<zs.length - i;omega,⟨rfl,rfl⟩,?_,?_⟩
    ·by_cases e:j=i
     ·subst e;rw[ik]at jR;cases jR;simpa using hb
     ·exact cO j z' (by omega) jR
    ·(refine a8 ?_)
     all_goals first|exact cL (by omega)|rfl
    ·show ar _ _ _ _ [_,_]
     (exact cI)
theorem WL(zs:List Int)(m:List Bool)(hz:zs.length<2^60)(hb:∀z∈zs,z<(m.length:Int)):
 RF Tryz.prog 146 [.p (.au 1 (ints zs) none),.fn 220 [] [.ptr 0 1 0 0]] (ln m) (.b (zs.any (dg m))):=by
 have hi:=WK zs m hz hb
 unfold ln at hi
 refine dd [] [] ?_
 unfold ln
 (refine ai ?_)
 refine mz [0,1] hi rfl rfl (ak.cons (ah.pe rfl) (ak.cons (ah.fn ak.nil (ak.cons (ah.ptr rfl) ak.nil)) ak.nil)) ?_
 (refine ai ?_)
 refine⟨.p (.b (zs.any (dg m))),ln m,⟨rfl,rfl⟩,⟨rfl,rfl⟩,?_,?_⟩
 ·(refine a8 ?_)
  exact aaH PV.b (Jt (dg m) zs)
 ·show ar _ _ _ _ [_,_]
  (exact cI)
def kC(d:aw)(i:Nat):List Bool:=(List.range d.n).map λs=>if s<i then decide (0≤d.tag.getD s 0)else false
theorem Ad(d:aw)(i:Nat):(kC d i).length=d.n:=by simp[kC]
theorem ET{d:aw}{i s:Nat}(hs:s<d.n):(kC d i).getD s false=if s<i then decide (0≤d.tag.getD s 0)else false:=by
 unfold kC;rw[aaN,aaM,abo hs];rfl
theorem WM(d:aw):bT (kC d 0)=List.replicate d.n [.b false]:=by
 unfold bT kC
 rw[abE,show(im∘λs=>if s<0 then decide (0≤d.tag.getD s 0)else false)=λ_=>[PV.b false] from by funext s;simp[im],ac1,abQ]
theorem WN{d:aw}{i:Nat}(hi:i<d.n):(bT (kC d i)).set i [.b (decide (0≤d.tag.getD i 0))]=bT (kC d (i+1)):=by
 rw[zM]
 congr 1
 refine abj λb=>?_
 rw[aaZ]
 unfold kC
 simp only[aaR,abQ,aaM]
 by_cases hb:b<d.n
 ·rw[abo hb]
  by_cases e:i=b
  ·subst e;rw[aaG rfl,aaG hi];simp
  ·rw[aaF e]
   have e1:(b<i+1)=(b<i):=by apply propext;omega
   simp[e1]
 ·have e:¬i=b:=by omega
  rw[aaF e,aaS (by simp;omega)];rfl
structure nZ(d:aw)(m:List Bool):Prop where
 len:m.length=d.n
 sound:∀i,m.getD i false=true→Reach d i
 tags:∀i,i<d.n→0≤d.tag.getD i 0→m.getD i false=true
theorem nZ.start{d:aw}(hm:d.may=true):nZ d (kC d d.n):=by
 refine⟨Ad _ _,λi h=>?_,λi hi h=>by rw[ET hi,aaG hi];exact aa5 h⟩
 by_cases hi:i<d.n
 ·rw[ET hi,aaG hi]at h
  exact Wj (by have:=(aw.fL hm).2.1;omega) (abG h)
 ·rw[aaN,aaS (by rw[Ad];omega)]at h;cases h
theorem nZ.mark{d:aw}{m:List Bool}(h:nZ d m){i:Nat}(hi:i<d.n)(hr:(b_ d i).any (dg m)=true):nZ d (m.set i true):=by
 refine⟨by rw[abd];exact h.len,λj hj=>?_,λj hj ht=>?_⟩
 ·rw[wP]at hj
  split at hj
  ·rename_i e
   obtain⟨rfl,_⟩:=e
   obtain⟨x,hx,hl⟩:=ab3.1 hr
   unfold dg at hl
   rw[aaQ,aa7]at hl
   exact Wi hi hx hl.1 (h.sound _ hl.2)
  ·exact h.sound j hj
 ·rw[wP]
  split
  ·rfl
  ·exact h.tags j hj ht
theorem nZ.done{d:aw}(hm:d.may=true){m:List Bool}(h:nZ d m)(hc:∀i,i<d.n→m.getD i false=false→(b_ d i).any (dg m)=false):m=cV d:=by
 have key:∀i,Reach d i→m.getD i false=true:=by
  intro i hr
  induction hr with
  | @here i t h1 h2=>
    have hi:=(aaK.1 h1).1
    refine h.tags i (by have:=(aw.fL hm).2.1;omega) ?_
    rw[aaN,h1];exact h2
  | @next i r x h1 h2 h3 h4 ih=>
    have hi:i<d.n:=(aaK.1 h1).1
    cases hv:m.getD i false with
    |true=>rfl
    |false=>
     have:=hc i hi hv
     rw[abK]at this
     have hx:=this x (by unfold b_;rw[aaN,h1];exact h2)
     exact absurd (show dg m x=true by unfold dg;rw[aa5 h3,ih];rfl) hx
 refine abj λi=>?_
 by_cases hi:i<d.n
 ·have e:m.getD i false=(cV d).getD i false:=by
   rw[abn,EG hm]
   exact⟨h.sound i,key i⟩
  have h1:=aaI (show i<m.length by rw[h.len];exact hi)
  have h2:=aaI (show i<(cV d).length by rw[r5];exact hi)
  rw[aaN,aaN,h1,h2]at e
  rw[h1,h2];exact aaH some e
 ·rw[aaS (by rw[h.len];omega),aaS (by rw[r5];exact adQ hi)]
theorem WO{m:List Bool}{i:Nat}(hi:i<m.length)(h:m.getD i false=false):(m.set i true).count false<m.count false:=by
 refine EI m i ?_
 rw[aaN,aaI hi]at h ⊢
 exact h
theorem WQ(d:aw)(hd:d.Fit)(hm:d.may=true):PF Tryz.prog 163 [d.pv] (.au 1 (bT (cV d)) none):=by
 have hn:d.n≤600:=(aw.fL hm).1
 have cd:(d.next.map aQ).length=d.n:=by simp[aw.n]
 have dH:=bR d.tag
 have o4:d.tag.length=d.n:=(aw.fL hm).2.1
 have bM:(0≤(((d.next.map aQ).length:Nat):Int)∧(((d.next.map aQ).length:Nat):Int)≤(((d.next.map aQ).length:Nat):Int)∧(((d.next.map aQ).length:Nat):Int)*(1:Nat)≤(cK:Nat)∧(((d.next.map aQ).length:Nat):Int)≤(cK:Nat)):=by
  have e2:cK=70368744177664:=rfl
  rw[e2];omega
 refine aY [[1,3,13,14,15,40,41,42],[1,3,40,41,42],[1,3,27,28,29,40,41,42]] [] ?_
 (refine ai ?_)
 refine⟨_,d.rest.map .p,bO (rest:=d.rest),⟨rfl,bH _,rfl⟩,?_⟩
 (refine ai ?_)
 refine⟨[],Nat,λi=>⟨[(1,.ptr 0 259 0 0),(3,.ptr 2 1 0 0),(13,.p (.au 1 (ints d.tag) none)),(14,.p (i64 d.n)),(15,.p (i64 i))],[.ax 256 (aO d.o) (d.rest.map .p),.pr 1 (bT (kC d i)),.mx [.sl 1 1 0 d.n none]]⟩,
  λi=>i≤d.n,λi=>d.n - i,⟨0,aaP _,⟨rfl,rfl⟩,?_,?_⟩,λi hi=>?_⟩
 ·(refine dE ?_ ?_)
  all_goals first|rfl|exact aaH (λn:Nat=>i64 (n:Int)) (dH.trans o4)
 ·(refine dE ?_ ?_)
  all_goals first|rfl|exact ah.sle cd rfl|(rw[WM,←cd];rfl)
 ·have hi:i≤d.n:=hi
  have cj:(bT (kC d i)).length=d.n:=by rw[mP,Ad]
  by_cases h:i<d.n
  ·have gm:(ints d.tag)[(i:Int).toNat]? =some [i64 (d.tag.getD i 0)]:=by
    rw[Int.toNat_natCast];refine c7 ?_;rw[aaN,aaI (by omega)];rfl
   have gj:(bT (kC d i))[0+(i:Int).toNat]? =some [.b false]:=by
    rw[aaL,Int.toNat_natCast,qg (by rw[Ad];exact h),ET h,aaF (ab9 _)]
   have aU:=WN h
   (refine ai ?_)
   (refine aB ?_)
   refine aJ gm ?_
   (refine ai ?_)
   refine⟨_,gj,rfl,aaJ _,?_⟩
   (refine ai ?_)
   refine⟨i+1,h,(show d.n - (i+1)<d.n - i by omega),⟨rfl,rfl⟩,?_,?_⟩
   ·(refine a8 ?_)
    all_goals first|exact cL (by omega)|rfl
   ·(refine a8 ?_)
    all_goals first|(rw[aaL,Int.toNat_natCast];exact aU)
  ·have br:i=d.n:=by omega
   subst br
   (refine ai ?_)
   (refine aB ?_)
   refine⟨[],List Bool,λm=>⟨[(1,.ptr 0 259 0 0),(3,.ptr 2 1 0 0)],[.ax 256 (aO d.o) (d.rest.map .p),.pr 1 (bT m),.mx [.sl 1 1 0 d.n none]]⟩,
    λm=>nZ d m,λm=>m.count false,⟨kC d d.n,nZ.start hm,⟨rfl,rfl⟩,?_,?_⟩,λm hI=>?_⟩
   ·(exact cI)
   ·(exact cI)
   ·have hI:nZ d m:=hI
    have oh:(bT m).length=d.n:=by rw[mP,hI.len]
    (refine ai ?_)
    refine⟨[],Nat,λi=>⟨[(1,.ptr 0 259 0 0),(3,.ptr 2 1 0 0),(27,.p (.au 1 (d.next.map aQ) none)),(28,.p (i64 d.n)),(29,.p (i64 i))],[.ax 256 (aO d.o) (d.rest.map .p),.pr 1 (bT m),.mx [.sl 1 1 0 d.n none]]⟩,
     λi=>i≤d.n∧∀a,a<i→m.getD a false=false→(b_ d a).any (dg m)=false,λi=>d.n - i,⟨0,⟨aaP _,λa ha=>absurd ha (ab_ a)⟩,⟨rfl,rfl⟩,?_,?_⟩,λi Dm=>?_⟩
    ·(refine dE ?_ ?_)
     all_goals first|rfl|exact aaH (λn:Nat=>i64 (n:Int)) cd
    ·(exact cI)
    ·obtain⟨hi,hc⟩:=Dm
     have hi:i≤d.n:=hi
     by_cases h:i<d.n
     ·obtain⟨r,hr⟩:∃r,d.next[i]? =some r:=⟨_,aaI h⟩
      have er:b_ d i=r:=by unfold b_;rw[aaN,hr];rfl
      have b7:(d.next.map aQ)[(i:Int).toNat]? =some [.au 1 (ints r) none]:=by rw[Int.toNat_natCast,aaM,hr];rfl
      have gj:(bT m)[0+(i:Int).toNat]? =some [.b (m.getD i false)]:=by rw[aaL,Int.toNat_natCast];exact qg (by rw[hI.len];exact h)
      have bm:=nX hm h
      rw[er]at bm
      have oZ:=WL r m (by have:=hd.row r (cM hr);omega) (λz hz=>by rw[hI.len];exact(bm.2.2 z hz).2)
      unfold ln at oZ
      rw[hI.len]at oZ
      cases hv:m.getD i false with
      |true=>
       rw[hv]at gj
       (refine ai ?_)
       (refine aB ?_)
       refine aJ b7 ?_
       (refine ai ?_)
       (refine aB ?_)
       refine aJ gj ?_
       (refine ai ?_)
       refine⟨i+1,⟨h,λa ha hf=>?_⟩,(show d.n - (i+1)<d.n - i by omega),⟨rfl,rfl⟩,?_,?_⟩
       ·by_cases e:a=i
        ·rw[e,hv]at hf;cases hf
        ·exact hc a (by have ha:a<i+1:=ha;omega) hf
       ·(refine a8 ?_)
        all_goals first|exact cL (by omega)|rfl
       ·(exact cI)
      |false=>
       rw[hv]at gj
       (refine ai ?_)
       (refine aB ?_)
       refine aJ b7 ?_
       (refine ai ?_)
       (refine aB ?_)
       refine aJ gj ?_
       (refine ai ?_)
       refine mz [2,1] oZ rfl rfl (ak.cons (ah.pe rfl) (ak.cons (ah.fn ak.nil (ak.cons (ah.ptr rfl) ak.nil)) ak.nil)) ?_
       cases hb:r.any (dg m)with
       |true=>
        (refine ai ?_)
        (refine aB ?_)
        refine⟨_,gj,rfl,aaJ _,?_⟩
        (refine ai ?_)
        refine⟨m.set i true,hI.mark h (by rw[er];exact hb),WO (by rw[hI.len];exact h) hv,⟨rfl,rfl⟩,?_,?_⟩
        ·(exact cI)
        ·(refine a8 ?_)
         all_goals first|(rw[aaL,Int.toNat_natCast];exact zM m i true)
       |false=>
        (refine ai ?_)
        refine⟨i+1,⟨h,λa ha hf=>?_⟩,(show d.n - (i+1)<d.n - i by omega),⟨rfl,rfl⟩,?_,?_⟩
        ·by_cases e:a=i
         ·rw[e,er];exact hb
         ·exact hc a (by have ha:a<i+1:=ha;omega) hf
        ·(refine a8 ?_)
         all_goals first|exact cL (by omega)|rfl
        ·(exact cI)
     ·have br:i=d.n:=by omega
      subst br
      obtain rfl:=hI.done hm λa ha=>hc a ha
      (refine ai ?_)
      (refine aB ?_)
      refine⟨.p (.au 1 (bT (cV d)) none),[],⟨rfl,rfl⟩,⟨rfl,rfl⟩,?_,.nil _⟩
      exact ah.dI rfl rfl (eF (aby oh)) oh (.refl _)
def c6(L:List Bool)(Q:List Nat)(r:List Int)(c:Nat):List Nat:=(r.take c).foldl (ep L) Q
theorem LZ{L:List Bool}{Q:List Nat}{r:List Int}{c:Nat}{x:Int}(h:r[c]? =some x):c6 L Q r (c+1)=ep L (c6 L Q r c) x:=by
 unfold c6
 rw[abp,h,adR];rfl
theorem WR(L:List Bool)(Q:List Nat)(r:List Int):c6 L Q r r.length=r.foldl (ep L) Q:=by unfold c6;rw[aa4]
theorem WS(L:List Bool)(Q:List Nat)(r:List Int)(c:Nat):∃t,r.foldl (ep L) Q=c6 L Q r c++t:=by
 have e:r.foldl (ep L) Q=(r.drop c).foldl (ep L) (c6 L Q r c):=by
  unfold c6;rw[←adR,abY]
 rw[e];exact ur _ _
theorem WT{L:List Bool}{n:Nat}{Q:List Nat}(h:TQ L n Q){r:List Int}(hr:∀x∈r,x<(n:Int))(c:Nat):TQ L n (c6 L Q r c):=h.fold λx hx=>hr x (acx hx)
def jW(L:List Bool)(Q:List Nat)(r:List Int)(c:Nat):List PV:=[i64 (jF L (r.foldl (ep L) Q) (r.getD c 0))]
theorem WU(L:List Bool)(Q:List Nat)(r:List Int):upto r.length r.length (jW L Q r) [i64 0]=ints (r.map (jF L (r.foldl (ep L) Q))):=by
 rw[v_]
 refine abj λc=>?_
 unfold ints
 rw[aaM,aaM,aaM]
 by_cases hc:c<r.length
 ·rw[abo hc,aaI hc]
  show some (jW L Q r c)=some [_]
  unfold jW
  rw[aaN,aaI hc];rfl
 ·rw[aaS (by simp;omega),aaS (by omega)];rfl
theorem L3{L:List Bool}{Q:List Nat}{r:List Int}{c:Nat}{x:Int}(h:r[c]? =some x)(hl:dg L x=false):jW L Q r c=[i64 (-1)]:=by
 unfold jW
 rw[aaN,h]
 show[i64 (jF L _ x)]=_
 unfold jF;rw[aaF (by rw[hl];simp)]
theorem WV{L:List Bool}{Q:List Nat}{r:List Int}{c:Nat}{x:Int}(h:r[c]? =some x)(hl:dg L x=true):jW L Q r c=[i64 (ix (c6 L Q r (c+1)) x.toNat:Nat)]:=by
 obtain⟨t,ht⟩:=WS L Q r (c+1)
 unfold jW
 rw[aaN,h,ht]
 show[i64 (jF L _ x)]=_
 unfold jF
 rw[aaG hl,rW (by rw[LZ h];exact LB hl)]
theorem L4(d:aw):cP (.agg (aO d.o++[i64 d.cls,bC,bC])) (⟨d.o,d.cls,[],[]⟩:aw).pv:=
 cP.agg (D2 (.cons (.refl _) (.cons (.nil (.inl rfl)) (.cons (.nil (.inl rfl)) (.refl _)))) _)
def WW(d:aw)(L:List Bool)(i:Nat)(Q:List Nat):St:=
 ⟨[(1,.ptr 0 259 0 0),(2,.ptr 1 259 0 0),(3,.ptr 2 259 0 0),(4,.p (.au 1 (bT L) none)),(5,.sl 3 1 0 d.n none),(7,.sl 4 1 0 Q.length none)],
  [.ax 256 (aO d.o) (d.rest.map .p),.ax 256 fV iQ,.ax 256 (aO d.o) [.p (i64 d.cls),.sl 5 1 0 i none,.sl 6 1 0 i none],.pr 1 (ints (jm d.n Q)),.pr 1 (aG Q),.pr 1 ((fb d L Q i).map aQ),.pr 1 (ints (fX d Q i))]⟩
theorem WX{n:Nat}(h:¬n=0):(upto n n (λ_=>[i64 (-1)]) [i64 0]).set (0+(0:Int).toNat) [i64 0]=ints (jm n [0]):=by
 rw[v_]
 refine abj λb=>?_
 rw[aaZ]
 unfold ints jm
 simp only[aaR,abQ,aaM]
 by_cases hb:b<n
 ·rw[abo hb]
  by_cases e:b=0
  ·subst e
   rw[aaG (show 0+(0:Int).toNat=0 from rfl),aaG (show 0+(0:Int).toNat<n from hb)]
   simp[ix,ck]
  ·have e1:¬0+(0:Int).toNat=b:=λh=>e (by rw[←h];rfl)
   rw[aaF e1]
   simp[e,ck]
 ·have e:¬0+(0:Int).toNat=b:=λh=>hb (by rw[←h];show 0<n;omega)
  rw[aaF e,aaS (by simp;omega)];rfl
theorem L5(d:aw)(hd:d.Fit)(hm:d.may=true):PF Tryz.prog 99 [d.pv] (dy d).pv:=by
 have hn:d.n≤600:=(aw.fL hm).1
 have cd:(d.next.map aQ).length=d.n:=by simp[aw.n]
 have dH:=bR d.tag
 have o4:d.tag.length=d.n:=(aw.fL hm).2.1
 have fu:=wE d hd
 rw[hm]at fu
 have sU:=WQ d hd hm
 have cj:(bT (cV d)).length=d.n:=by rw[mP,r5];rfl
 by_cases oA:d.n=0
 ·have cO:dy d=⟨d.o,d.cls,[],[]⟩:=LI (λh=>by
   have:=Wh hm ((EG hm 0).1 h)
   have e:d.n=d.next.length:=rfl
   omega)
  rw[cO]
  refine aY [[1,2,3,4,5,35,36,82,83,84,85,86],[1,2,3,4,5,7,82,83,84,85,86],[1,2,3,4,5,7,8,9,69,70,71,82,83,84,85,86]] [[2,5,8,11,14,17,20,24,28,29,34]] ?_
  (refine ai ?_)
  refine⟨_,d.rest.map .p,bO (rest:=d.rest),⟨rfl,bH _,rfl⟩,?_⟩
  (refine ai ?_)
  refine aH fu rfl rfl ?_
  (refine ai ?_)
  refine⟨aO d.o,[.p (i64 d.cls)],bO (rest:=[i64 d.cls]),⟨rfl,bH _,rfl,aa6 rfl⟩,?_⟩
  (refine ai ?_)
  refine⟨aO d.o,[.p (i64 d.cls),.p bC,.p bC],bO (rest:=[i64 d.cls,bC,bC]),⟨rfl,rfl,bH _,rfl,aa6 rfl⟩,?_⟩
  (refine ai ?_)
  refine aH sU rfl rfl ?_
  (refine ai ?_)
  (refine aB ?_)
  refine⟨aO d.o,[.p (i64 d.cls),.p bC,.p bC],bO (rest:=[i64 d.cls,bC,bC]),⟨rfl,rfl,bH _,rfl,aa6 rfl⟩,?_⟩
  (refine ai ?_)
  exact y3 rfl rfl (L4 d)
 ·cases h0:(cV d).getD 0 false with
  |false=>
   have cO:dy d=⟨d.o,d.cls,[],[]⟩:=LI (by rw[h0];simp)
   have pV:(bT (cV d))[(0:Int).toNat]? =some [.b false]:=by rw[show(0:Int).toNat=0 from rfl,qg (by rw[←mP,cj];omega),h0]
   rw[cO]
   refine aY [[1,2,3,4,5,35,36,82,83,84,85,86],[1,2,3,4,5,7,82,83,84,85,86],[1,2,3,4,5,7,8,9,69,70,71,82,83,84,85,86]] [[2,5,8,11,14,17,20,24,28,29,34]] ?_
   (refine ai ?_)
   refine⟨_,d.rest.map .p,bO (rest:=d.rest),⟨rfl,bH _,rfl⟩,?_⟩
   (refine ai ?_)
   refine aH fu rfl rfl ?_
   (refine ai ?_)
   refine⟨aO d.o,[.p (i64 d.cls)],bO (rest:=[i64 d.cls]),⟨rfl,bH _,rfl,aa6 rfl⟩,?_⟩
   (refine ai ?_)
   refine⟨aO d.o,[.p (i64 d.cls),.p bC,.p bC],bO (rest:=[i64 d.cls,bC,bC]),⟨rfl,rfl,bH _,rfl,aa6 rfl⟩,?_⟩
   (refine ai ?_)
   refine aH sU rfl rfl ?_
   (refine ai ?_)
   (refine aB ?_)
   refine aJ pV ?_
   (refine ai ?_)
   refine⟨aO d.o,[.p (i64 d.cls),.p bC,.p bC],bO (rest:=[i64 d.cls,bC,bC]),⟨rfl,rfl,bH _,rfl,aa6 rfl⟩,?_⟩
   (refine ai ?_)
   exact y3 rfl rfl (L4 d)
  |true=>
   have pV:(bT (cV d))[(0:Int).toNat]? =some [.b true]:=by rw[show(0:Int).toNat=0 from rfl,qg (by rw[←mP,cj];omega),h0]
   refine aY [[1,2,3,4,5,35,36,82,83,84,85,86],[1,2,3,4,5,7,82,83,84,85,86],[1,2,3,4,5,7,8,9,69,70,71,82,83,84,85,86]] [[2,5,8,11,14,17,20,24,28,29,34]] ?_
   (refine ai ?_)
   refine⟨_,d.rest.map .p,bO (rest:=d.rest),⟨rfl,bH _,rfl⟩,?_⟩
   (refine ai ?_)
   refine aH fu rfl rfl ?_
   (refine ai ?_)
   refine⟨aO d.o,[.p (i64 d.cls)],bO (rest:=[i64 d.cls]),⟨rfl,bH _,rfl,aa6 rfl⟩,?_⟩
   (refine ai ?_)
   refine⟨aO d.o,[.p (i64 d.cls),.p bC,.p bC],bO (rest:=[i64 d.cls,bC,bC]),⟨rfl,rfl,bH _,rfl,aa6 rfl⟩,?_⟩
   (refine ai ?_)
   refine aH sU rfl rfl ?_
   (refine ai ?_)
   (refine aB ?_)
   refine aJ pV ?_
   (refine ai ?_)
   have bM:(0≤(((bT (cV d)).length:Nat):Int)∧(((bT (cV d)).length:Nat):Int)≤(((bT (cV d)).length:Nat):Int)∧(((bT (cV d)).length:Nat):Int)*(8:Nat)≤(cK:Nat)∧(((bT (cV d)).length:Nat):Int)≤(cK:Nat)):=by
    have e2:cK=70368744177664:=rfl
    rw[e2,cj];omega
   have aag:(cV d).length=d.n:=by rw[←mP,cj]
   have WY:∀x:Nat,x<d.n→(bT (cV d))[(x:Int).toNat]? =some [.b ((cV d).getD x false)]:=λx hx=>by rw[Int.toNat_natCast];exact qg (by omega)
   have rQ:=gF.start (d:=d) h0 (by have e:d.n=d.next.length:=rfl;omega)
   have C4:=LD hm h0
   have zy:=Wk h0
   have WZ:∀s,s<d.next.length→∀x∈b_ d s,x<(d.next.length:Int):=λs hs x hx=>((nX hm hs).2.2 x hx).2
   have W0:trimQ d (cV d) (d.next.length+1) 0 [0]=cA d:=rfl
   rw[W0]at rQ
   generalize cA d=Qf at rQ C4 zy
   generalize cV d=L at*
   refine And.intro bM ?_
   (refine ai ?_)
   refine⟨[],Nat,λi=>⟨[(1,.ptr 0 259 0 0),(2,.ptr 1 259 0 0),(3,.ptr 2 259 0 0),(4,.p (.au 1 (bT L) none)),(5,.sl 3 1 0 d.n none),(35,.p (i64 d.n)),(36,.p (i64 i))],
    [.ax 256 (aO d.o) (d.rest.map .p),.ax 256 fV iQ,.ax 256 (aO d.o) [.p (i64 d.cls),.p bC,.p bC],.pr 1 (upto d.n i (λ_=>[i64 (-1)]) [i64 0])]⟩,
    λi=>i≤d.n,λi=>d.n - i,⟨0,aaP _,⟨rfl,rfl⟩,?_,?_⟩,λi hi=>?_⟩
   ·(((repeat'(first|exact aA.nil|exact ar.nil _|refine aA.cons ?_ ?_|refine ar.cons ?_ ?_|exact ah.ptr rfl|exact ah.sl rfl (.inl rfl)|exact ah.aF rfl|exact ah.mpr rfl|refine ah.pe ?_|refine ah.aD ?_|refine ah.agg ?_|refine aj.pe ?_|refine aj.aI ?_|refine aj.aL ?_|refine aj.aK ?_ ?_|refine aj.mx ?_|exact ak.nil|refine ah.fn ?_ ?_|refine ak.cons ?_ ?_|exact ah.aE _|exact aj.dead _))<;>(try with_reducible rfl)))
    all_goals first|rfl|exact ah.sle cj rfl|exact aaH (λn:Nat=>i64 (n:Int)) cj
   ·(((repeat'(first|exact aA.nil|exact ar.nil _|refine aA.cons ?_ ?_|refine ar.cons ?_ ?_|exact ah.ptr rfl|exact ah.sl rfl (.inl rfl)|exact ah.aF rfl|exact ah.mpr rfl|refine ah.pe ?_|refine ah.aD ?_|refine ah.agg ?_|refine aj.pe ?_|refine aj.aI ?_|refine aj.aL ?_|refine aj.aK ?_ ?_|refine aj.mx ?_|exact ak.nil|refine ah.fn ?_ ?_|refine ak.cons ?_ ?_|exact ah.aE _|exact aj.dead _))<;>(try with_reducible rfl)))
    all_goals first|rfl|(rw[tt,←cj];rfl)
   ·have hi:i≤d.n:=hi
    by_cases h:i<d.n
    ·have iw:(upto d.n i (λ_=>[i64 (-1)]) [i64 0])[0+(i:Int).toNat]? =some [i64 0]:=by rw[aaL,Int.toNat_natCast,kn h,aaF (ab9 _)]
     have Ei:=mD (f:=λ_=>[i64 (-1)]) (z:=[i64 0]) h
     (refine ai ?_)
     (refine aB ?_)
     refine⟨_,iw,rfl,aaJ _,?_⟩
     (refine ai ?_)
     refine⟨i+1,h,(show d.n - (i+1)<d.n - i by omega),⟨rfl,rfl⟩,?_,?_⟩
     ·(refine a8 ?_)
      all_goals first|exact cL (by omega)|rfl
     ·(refine a8 ?_)
      all_goals first|(rw[aaL,Int.toNat_natCast];exact Ei)
    ·have br:i=d.n:=by omega
     subst br
     have W1:(upto d.n d.n (λ_=>[i64 (-1)]) [i64 0])[0+(0:Int).toNat]? =some [i64 (-1)]:=by rw[aaL,show(0:Int).toNat=0 from rfl,kn (by omega),aaG (by omega)]
     (refine ai ?_)
     (refine aB ?_)
     refine⟨_,W1,rfl,aaJ _,?_⟩
     (refine ai ?_)
     refine⟨[.cell 2 257 1,.cell 2 258 1],Nat×List Nat,λx=>WW d L x.1 x.2,λx=>gF d L Qf x.1 x.2,λx=>d.n+1 - x.1,⟨(0,[0]),rQ,⟨rfl,rfl⟩,?_,?_⟩,λx hx=>?_⟩
     ·show aA _ _ _ _ [_,_,_,_,_,_]
      (exact cI)
      all_goals first|rfl
     ·show ar _ _ _ _ [_,_,_,_,_,_,_]
      (((repeat'(first|exact aA.nil|exact ar.nil _|refine aA.cons ?_ ?_|refine ar.cons ?_ ?_|exact ah.ptr rfl|exact ah.sl rfl (.inl rfl)|exact ah.aF rfl|exact ah.mpr rfl|refine ah.pe ?_|refine ah.aD ?_|refine ah.agg ?_|refine aj.pe ?_|refine aj.aI ?_|refine aj.aL ?_|refine aj.aK ?_ ?_|refine aj.mx ?_|exact ak.nil|refine ah.fn ?_ ?_|refine ak.cons ?_ ?_|exact ah.aE _|exact aj.dead _))<;>(try with_reducible rfl)))
      all_goals first|rfl|exact WX oA
     ·obtain⟨i,Q⟩:=x
      have hx:gF d L Qf i Q:=hx
      have hle:=hx.le
      have J3:=hx.q.len
      have Er:d.n=d.next.length:=rfl
      have cq:((fb d L Q i).map aQ).length=i:=by simp[fb];omega
      have L6:(ints (fX d Q i)).length=i:=by rw[bR];simp[fX];omega
      have dR:(aG Q).length=Q.length:=cQ _
      have iF:(ints (jm d.n Q)).length=d.n:=by rw[bR,zY]
      by_cases hi:i<Q.length
      ·obtain⟨s,hs⟩:∃s,Q[i]? =some s:=⟨_,aaI hi⟩
       have L7:Q.getD i 0=s:=by rw[aaN,hs];rfl
       have ig:=(hx.q.lt s (aaY hs)).1
       obtain⟨r,hr⟩:∃r,d.next[s]? =some r:=⟨_,aaI ig⟩
       have er:b_ d s=r:=by unfold b_;rw[aaN,hr];rfl
       have rR:(aG Q)[0+(i:Int).toNat]? =some [i64 (s:Nat)]:=by rw[aaL,Int.toNat_natCast];exact kz hs
       have b7:(d.next.map aQ)[(s:Int).toNat]? =some [.au 1 (ints r) none]:=by rw[Int.toNat_natCast,aaM,hr];rfl
       have bm:=nX hm ig
       rw[er]at bm
       have aah:=hd.row r (cM hr)
       have cz:=bR r
       have aai:(0≤(((ints r).length:Nat):Int)∧(((ints r).length:Nat):Int)≤(((ints r).length:Nat):Int)∧(((ints r).length:Nat):Int)*(8:Nat)≤(cK:Nat)∧(((ints r).length:Nat):Int)≤(cK:Nat)):=by
        have e2:cK=70368744177664:=rfl
        rw[e2];omega
       have oP:=hx.next hi WZ
       have oB:=hx.V8 hi
       rw[L7,er]at oP oB
       show awp _ _ _ ⟨[_,_,_,_,_,_],[_,_,_,_,_,_,_]⟩
       (refine ai ?_)
       (refine aB ?_)
       refine aJ rR ?_
       (refine ai ?_)
       (refine aB ?_)
       refine aJ b7 ?_
       (refine ai ?_)
       refine aJ b7 ?_
       (refine ai ?_)
       refine⟨[],Nat,λc=>⟨[(1,.ptr 0 259 0 0),(2,.ptr 1 259 0 0),(3,.ptr 2 259 0 0),(4,.p (.au 1 (bT L) none)),(5,.sl 3 1 0 d.n none),(7,.sl 4 1 0 (c6 L Q r c).length none),(8,.p (i64 (s:Nat))),(9,.sl 7 1 0 r.length none),(69,.p (.au 1 (ints r) none)),(70,.p (i64 r.length)),(71,.p (i64 c))],
        [.ax 256 (aO d.o) (d.rest.map .p),.ax 256 fV iQ,.ax 256 (aO d.o) [.p (i64 d.cls),.sl 5 1 0 i none,.sl 6 1 0 i none],.pr 1 (ints (jm d.n (c6 L Q r c))),.pr 1 (aG (c6 L Q r c)),.pr 1 ((fb d L Q i).map aQ),.pr 1 (ints (fX d Q i)),.pr 1 (upto r.length c (jW L Q r) [i64 0])]⟩,
        λc=>c≤r.length,λc=>r.length - c,⟨0,aaP _,⟨rfl,rfl⟩,?_,?_⟩,λc hc=>?_⟩
       ·(((repeat'(first|exact aA.nil|exact ar.nil _|refine aA.cons ?_ ?_|refine ar.cons ?_ ?_|exact ah.ptr rfl|exact ah.sl rfl (.inl rfl)|exact ah.aF rfl|exact ah.mpr rfl|refine ah.pe ?_|refine ah.aD ?_|refine ah.agg ?_|refine aj.pe ?_|refine aj.aI ?_|refine aj.aL ?_|refine aj.aK ?_ ?_|refine aj.mx ?_|exact ak.nil|refine ah.fn ?_ ?_|refine ak.cons ?_ ?_|exact ah.aE _|exact aj.dead _))<;>(try with_reducible rfl)))
        all_goals first|rfl|exact ah.sle cz rfl|exact aaH (λn:Nat=>i64 (n:Int)) cz
       ·(((repeat'(first|exact aA.nil|exact ar.nil _|refine aA.cons ?_ ?_|refine ar.cons ?_ ?_|exact ah.ptr rfl|exact ah.sl rfl (.inl rfl)|exact ah.aF rfl|exact ah.mpr rfl|refine ah.pe ?_|refine ah.aD ?_|refine ah.agg ?_|refine aj.pe ?_|refine aj.aI ?_|refine aj.aL ?_|refine aj.aK ?_ ?_|refine aj.mx ?_|exact ak.nil|refine ah.fn ?_ ?_|refine ak.cons ?_ ?_|exact ah.aE _|exact aj.dead _))<;>(try with_reducible rfl)))
        all_goals first|rfl|(rw[tt,←cz];rfl)
       ·have hc:c≤r.length:=hc
        have W2:=WT hx.q (r:=r) (λx hx=>(bm.2.2 x hx).2) c
        have aaj:=W2.len
        have aak:(aG (c6 L Q r c)).length=(c6 L Q r c).length:=cQ _
        have aal:(ints (jm d.n (c6 L Q r c))).length=d.n:=by rw[bR,zY]
        by_cases b0:c<r.length
        ·obtain⟨x,uC⟩:∃x,r[c]? =some x:=⟨_,aaI b0⟩
         have w8:=bm.2.2 x (aaY uC)
         have fW:(ints r)[(c:Int).toNat]? =some [i64 x]:=by rw[Int.toNat_natCast];exact c7 uC
         have gB:=LZ (L:=L) (Q:=Q) uC
         have eX:=mD (f:=jW L Q r) (z:=[i64 0]) b0
         have L8:(upto r.length c (jW L Q r) [i64 0])[0+(c:Int).toNat]? =some [i64 0]:=by rw[aaL,Int.toNat_natCast,kn b0,aaF (ab9 _)]
         have r3:(upto r.length c (jW L Q r) [i64 0]).length=r.length:=ki ..
         (refine ai ?_)
         (refine aB ?_)
         refine aJ fW ?_
         (refine ai ?_)
         refine⟨_,L8,rfl,aaJ _,?_⟩
         by_cases fJ:x<0
         ·have cO:dg L x=false:=by unfold dg;rw[aa_ (by omega)];rfl
          have gY:c6 L Q r (c+1)=c6 L Q r c:=by rw[gB];unfold ep;rw[aaF (by rw[cO];simp)]
          have uD:=L3 (Q:=Q) uC cO
          rw[uD]at eX
          (refine ai ?_)
          (refine aB ?_)
          refine⟨c+1,b0,(show r.length - (c+1)<r.length - c by omega),⟨rfl,rfl⟩,?_,?_⟩
          ·(refine dE ?_ ?_)
           all_goals first|exact cL (by omega)|rfl|exact ah.sle (by rw[gY]) rfl
          ·(((repeat'(first|exact aA.nil|exact ar.nil _|refine aA.cons ?_ ?_|refine ar.cons ?_ ?_|exact ah.ptr rfl|exact ah.sl rfl (.inl rfl)|exact ah.aF rfl|exact ah.mpr rfl|refine ah.pe ?_|refine ah.aD ?_|refine ah.agg ?_|refine aj.pe ?_|refine aj.aI ?_|refine aj.aL ?_|refine aj.aK ?_ ?_|refine aj.mx ?_|exact ak.nil|refine ah.fn ?_ ?_|refine ak.cons ?_ ?_|exact ah.aE _|exact aj.dead _))<;>(try with_reducible rfl)))
           all_goals first|(rw[gY];done)|(rw[aaL,Int.toNat_natCast];exact eX)
         ·obtain⟨k,rfl⟩:∃k:Nat,x=(k:Int):=⟨x.toNat,by omega⟩
          have o_:k<d.n:=by omega
          have gQ:=WY k o_
          have iw:(ints (jm d.n (c6 L Q r c)))[0+(k:Int).toNat]? =some [i64 (if k∈c6 L Q r c then((ix (c6 L Q r c) k:Nat):Int)else(-1:Int))]:=by rw[aaL,Int.toNat_natCast];exact c7 (zZ o_)
          cases Ae:L.getD k false with
          |false=>
           rw[Ae]at gQ
           have cO:dg L (k:Int)=false:=by unfold dg;rw[Int.toNat_natCast,Ae,Bool.and_false]
           have gY:c6 L Q r (c+1)=c6 L Q r c:=by rw[gB];unfold ep;rw[aaF (by rw[cO];simp)]
           have uD:=L3 (Q:=Q) uC cO
           rw[uD]at eX
           (refine ai ?_)
           (refine aB ?_)
           refine aJ gQ ?_
           (refine ai ?_)
           refine⟨c+1,b0,(show r.length - (c+1)<r.length - c by omega),⟨rfl,rfl⟩,?_,?_⟩
           ·(refine dE ?_ ?_)
            all_goals first|exact cL (by omega)|rfl|exact ah.sle (by rw[gY]) rfl
           ·(((repeat'(first|exact aA.nil|exact ar.nil _|refine aA.cons ?_ ?_|refine ar.cons ?_ ?_|exact ah.ptr rfl|exact ah.sl rfl (.inl rfl)|exact ah.aF rfl|exact ah.mpr rfl|refine ah.pe ?_|refine ah.aD ?_|refine ah.agg ?_|refine aj.pe ?_|refine aj.aI ?_|refine aj.aL ?_|refine aj.aK ?_ ?_|refine aj.mx ?_|exact ak.nil|refine ah.fn ?_ ?_|refine ak.cons ?_ ?_|exact ah.aE _|exact aj.dead _))<;>(try with_reducible rfl)))
            all_goals first|(rw[gY];done)|(rw[aaL,Int.toNat_natCast];exact eX)
          |true=>
           rw[Ae]at gQ
           have L9:dg L (k:Int)=true:=by unfold dg;rw[Int.toNat_natCast,Ae,aa5 (by omega)];rfl
           have uD:=WV (Q:=Q) uC L9
           rw[Int.toNat_natCast]at uD
           have yB:c6 L Q r (c+1)=enter (c6 L Q r c) k:=by rw[gB];unfold ep;rw[aaG L9,Int.toNat_natCast]
           have L_:((upto r.length c (jW L Q r) [i64 0]).set (0+(c:Int).toNat) [i64 (-1)])[0+(c:Int).toNat]? =some [i64 (-1)]:=qn L8
           have Af:((upto r.length c (jW L Q r) [i64 0]).set (0+(c:Int).toNat) [i64 (-1)]).set (0+(c:Int).toNat) [i64 ((ix (c6 L Q r (c+1)) k:Nat):Int)]=upto r.length (c+1) (jW L Q r) [i64 0]:=by
            rw[ac9,←uD,aaL,Int.toNat_natCast];exact eX
           by_cases cT:k∈c6 L Q r c
           ·rw[aaG cT]at iw
            have gY:c6 L Q r (c+1)=c6 L Q r c:=by rw[yB];exact aaG cT
            (refine ai ?_)
            (refine aB ?_)
            refine aJ gQ ?_
            (refine ai ?_)
            (refine aB ?_)
            refine aJ iw ?_
            (refine ai ?_)
            (refine aB ?_)
            refine aJ iw ?_
            (refine ai ?_)
            rw[gY]at Af
            refine⟨_,L_,rfl,aaJ _,?_⟩
            (refine ai ?_)
            refine⟨c+1,b0,(show r.length - (c+1)<r.length - c by omega),⟨rfl,rfl⟩,?_,?_⟩
            ·(refine dE ?_ ?_)
             all_goals first|exact cL (by omega)|rfl|exact ah.sle (by rw[gY]) rfl
            ·(((repeat'(first|exact aA.nil|exact ar.nil _|refine aA.cons ?_ ?_|refine ar.cons ?_ ?_|exact ah.ptr rfl|exact ah.sl rfl (.inl rfl)|exact ah.aF rfl|exact ah.mpr rfl|refine ah.pe ?_|refine ah.aD ?_|refine ah.agg ?_|refine aj.pe ?_|refine aj.aI ?_|refine aj.aL ?_|refine aj.aK ?_ ?_|refine aj.mx ?_|exact ak.nil|refine ah.fn ?_ ?_|refine ak.cons ?_ ?_|exact ah.aE _|exact aj.dead _))<;>(try with_reducible rfl)))
             all_goals first|(rw[gY];done)|exact Af
           ·rw[aaF cT]at iw
            have gY:c6 L Q r (c+1)=c6 L Q r c++[k]:=by rw[yB];exact aaF cT
            (refine ai ?_)
            (refine aB ?_)
            refine aJ gQ ?_
            (refine ai ?_)
            (refine aB ?_)
            refine aJ iw ?_
            (refine ai ?_)
            (refine aB ?_)
            have ns:=V3 o_ cT
            have W3:(ints (jm d.n (c6 L Q r c))).set (0+(k:Int).toNat) [i64 (((c6 L Q r c).length:Nat):Int)]=ints (jm d.n (c6 L Q r (c+1))):=by
             rw[ints_set,aaL,Int.toNat_natCast,ns,gY]
            have ER:ix (c6 L Q r (c+1)) k=(c6 L Q r c).length:=by rw[gY];exact pZ cT
            rw[ER]at Af
            have W4:((ints (jm d.n (c6 L Q r c))).set (0+(k:Int).toNat) [i64 (((c6 L Q r c).length:Nat):Int)])[0+(k:Int).toNat]? =some [i64 (((c6 L Q r c).length:Nat):Int)]:=qn iw
            refine⟨_,iw,rfl,aaJ _,?_⟩
            (refine ai ?_)
            refine And.intro (lU (n:=(c6 L Q r c).length) (by omega)) ?_
            (refine ai ?_)
            (refine aB ?_)
            refine aJ W4 ?_
            (refine ai ?_)
            refine⟨_,L_,rfl,aaJ _,?_⟩
            (refine ai ?_)
            refine⟨c+1,b0,(show r.length - (c+1)<r.length - c by omega),⟨rfl,rfl⟩,?_,?_⟩
            ·(refine dE ?_ ?_)
             all_goals first|exact cL (by omega)|rfl|exact ah.sle (by rw[gY,aaV];rfl) rfl
            ·(((repeat'(first|exact aA.nil|exact ar.nil _|refine aA.cons ?_ ?_|refine ar.cons ?_ ?_|exact ah.ptr rfl|exact ah.sl rfl (.inl rfl)|exact ah.aF rfl|exact ah.mpr rfl|refine ah.pe ?_|refine ah.aD ?_|refine ah.agg ?_|refine aj.pe ?_|refine aj.aI ?_|refine aj.aL ?_|refine aj.aK ?_ ?_|refine aj.mx ?_|exact ak.nil|refine ah.fn ?_ ?_|refine ak.cons ?_ ?_|exact ah.aE _|exact aj.dead _))<;>(try with_reducible rfl)))
             all_goals first|exact W3|(rw[gY,Aa];rfl)|exact Af
        ·have lN:c=r.length:=by omega
         subst lN
         have r3:(upto r.length r.length (jW L Q r) [i64 0]).length=r.length:=ki ..
         (refine ai ?_)
         (refine aB ?_)
         refine⟨ints (r.map (jF L (r.foldl (ep L) Q))),(eF (aby r3)).trans (WU L Q r),by rw[bR,aaR],lz.kill ?_⟩
         (refine ai ?_)
         have gm:(ints d.tag)[(s:Int).toNat]? =some [i64 (d.tag.getD s 0)]:=by
          rw[Int.toNat_natCast];refine c7 ?_;rw[aaN,aaI (by omega)];rfl
         obtain⟨t,ht⟩:=ur (L:=L) r Q
         have sf:=V9 (d:=d) hi t
         rw[←ht,L7]at sf
         have Ma:=WR L Q r
         refine And.intro (uz (n:=i) (by omega)) ?_
         (refine ai ?_)
         refine aJ gm ?_
         (refine ai ?_)
         refine And.intro (lU (n:=i) (by omega)) ?_
         (refine ai ?_)
         refine⟨(i+1,r.foldl (ep L) Q),oP,(show d.n+1 - (i+1)<d.n+1 - i by omega),⟨rfl,rfl⟩,?_,?_⟩
         ·show aA _ _ _ _ [_,_,_,_,_,_]
          (refine a8 ?_)
          all_goals first|rfl|exact ah.sle (by rw[Ma]) rfl
         ·show ar _ _ _ _ [_,_,_,_,_,_,_]
          (((repeat'(first|exact aA.nil|exact ar.nil _|refine aA.cons ?_ ?_|refine ar.cons ?_ ?_|exact ah.ptr rfl|exact ah.sl rfl (.inl rfl)|exact ah.aF rfl|exact ah.mpr rfl|refine ah.pe ?_|refine ah.aD ?_|refine ah.agg ?_|refine aj.pe ?_|refine aj.aI ?_|refine aj.aL ?_|refine aj.aK ?_ ?_|refine aj.mx ?_|exact ak.nil|refine ah.fn ?_ ?_|refine ak.cons ?_ ?_|exact ah.aE _|exact aj.dead _))<;>(try with_reducible rfl)))
          all_goals first|rfl|(rw[Ma];done)|(rw[oB,abb];rfl)|(rw[sf,rP];rfl)
      ·obtain⟨e1,e2⟩:=hx.done hi
       subst e2;subst e1
       show awp _ _ _ ⟨[_,_,_,_,_,_],[_,_,_,_,_,_,_]⟩
       (refine ai ?_)
       (refine aB ?_)
       refine⟨_,_,rfl,⟨rfl,rfl,bH _,rfl,aaJ _⟩,?_⟩
       (refine ai ?_)
       refine⟨.p (dy d).pv,[],⟨rfl,rfl⟩,⟨rfl,rfl⟩,?_,ar.nil _⟩
       have e1:fb d L Q Q.length=Q.map λs=>(b_ d s).map (jF L Q):=by unfold fb;rw[aa4]
       have e2:fX d Q Q.length=Q.map λs=>d.tag.getD s 0:=by unfold fX;rw[aa4]
       rw[zy,←e1,←e2]
       exact ah.qA (wI (ys:=[i64 d.cls,.au 1 ((fb d L Q Q.length).map aQ) none,.au 1 (ints (fX d Q Q.length)) none]) (ak.cons (ah.pe rfl)
        (ak.cons (ah.dI (rs:=(fb d L Q Q.length).map aQ) rfl rfl (eF (aby cq)) cq (.refl _))
        (ak.cons (ah.dI (rs:=ints (fX d Q Q.length)) rfl rfl (eF (aby L6)) L6 (.refl _)) ak.nil))) (aO d.o))
def un(n:Nat)(seen:List Nat):Nat:=((List.range n).filter λi=>decide (i∉seen)).length
theorem W5{n i:Nat}{seen:List Nat}(hi:i<n)(hs:i∉seen):un n (i::seen)<un n seen:=by
 have h1:((List.range n).filter λj=>decide (j∉i::seen))=((List.range n).filter λj=>decide (j∉seen)).erase i:=by
  rw[List.Nodup.erase_eq_filter (List.nodup_range.filter _),List.filter_filter]
  refine acn λj _=>?_
  by_cases e:j=i<;>by_cases e2:j∈seen<;>simp[e,e2]
 have hm:i∈(List.range n).filter λj=>decide (j∉seen):=abq.2 ⟨aaT.2 hi,by simp[hs]⟩
 have:=ad_ hm
 have:=aea hm
 unfold un
 rw[h1];omega
theorem W6(δ:Nat→Nat→Nat)(tg:Nat→Int)(N C:Nat)(p:c5)(hg:mQ δ tg N C p)(cr:∀s c,s<N→c<C→δ s c<N)(hN:N≤2^30)(hNC:N*C+C<2^37):
 Fn Tryz.prog 92 [.ptr 0 5 0 0] p.H [2,4] (λr H=>r=.aD []∧∃q:c5,mQ δ tg N C q∧q.todo=[]∧H=q.H):=by
 refine dd [[0],[0,32]] [] ?_
 (refine ai ?_)
 refine⟨[],c5,λq=>⟨[(0,.ptr 0 5 0 0)],q.H⟩,λq=>mQ δ tg N C q,λq=>w6 N C q,⟨p,hg,⟨rfl,rfl⟩,?_,gT p rfl rfl rfl rfl (ar.nil _)⟩,λq hq=>?_⟩
 ·(exact cI)
 ·have hq:mQ δ tg N C q:=hq
  have ko:=hq.wf.zR
  have o4:q.todo.length≤N*C:=aa2 hq.wf.tl (abl _ ko)
  have hlen:=Eo q.todo
  (refine ai ?_)
  refine mz [4] hlen rfl rfl (ak.cons (ah.sl rfl (.inl rfl)) ak.nil) ?_
  (refine ai ?_)
  refine IJ (λh=>?_) (λh=>?_)
  ·have h0:q.todo≠[]:=λe=>by
    have h:(0:Int)<(q.todo.length:Nat):=h
    rw[e]at h;simp at h
   have W7:=VE q.todo (by omega) h0
   (refine ai ?_)
   refine gR [3,4] W7 rfl rfl (ak.cons (ah.bK (ah.ptr rfl)) ak.nil) ?_
   rintro r H ⟨t,l',hp,rfl,rfl⟩
   obtain⟨B0,c0,eb,ec,hB,hc⟩:=hq.wf.todo t (hp.mem_iff.1 (by simp))
   have aU:=Rd.start hq hp cr hB hc eb ec
   obtain⟨kv,zJ,b0⟩:=EC hq.wf hq.a6 hB hc cr
   have g1:=aaI hB
   have g2:=aaI (show c0<q.a6.length by rw[hq.a6.len];exact hc)
   obtain⟨W8,W9⟩:=hq.a6.row c0 _ g2
   have hh:=VL {q with todo:=l'} B0 c0 _ _ g1 g2 (λx hx=>by rw[W8];exact hq.wf.lt g1 x hx) (λL hL s hs=>by
    obtain⟨x,hx⟩:=acq.1 hL
    show s<q.block.length
    rw[hq.wf.len]
    exact(((W9 x L hx).2 s).1 hs).1) (aa2 b0 hN) (aa2 (ue N _ (hq.wf.mem B0 _ g1).1 (hq.wf.lt g1)) hN)
   have hE:comes {q with todo:=l'} B0 c0=comes q B0 c0:=rfl
   rw[hE]at hh
   have C1:w6 N C {q with todo:=l'}<w6 N C q:=by
    have:=hp.length_eq
    show(N - q.members.length)*(C+1)+l'.length<(N - q.members.length)*(C+1)+q.todo.length
    simp only[List.length_cons]at this;omega
   obtain⟨sz,tb,tc⟩:=t
   have eb:tb=(B0:Int):=eb
   have ec:tc=(c0:Int):=ec
   subst eb;subst ec
   (refine ai ?_)
   refine gR [0,1,2,3,4] hh rfl rfl (ak.cons (ah.ptr rfl) (ak.cons (ah.pe rfl) (ak.cons (ah.pe rfl) ak.nil))) ?_
   rintro r H ⟨rfl,rfl⟩
   (refine ai ?_)
   obtain⟨E0,hE0⟩:∃E0,cW (aN q.block) (comes q B0 c0)=E0:=⟨_,rfl⟩
   have hnk:=(wW (aN q.block) (comes q B0 c0)).1
   refine⟨[],c5×List Nat,λx=>⟨[(0,.ptr 0 5 0 0),(32,.ptr 7 1 0 0)],x.1.H++[.dead,.mp false [.int .i64] (pc (cW (aN q.block) (comes q B0 c0))),.mi (some 6) (pc (cW (aN q.block) (comes q B0 c0))).length x.2]⟩,
    λx=>Rd δ tg N C {q with todo:=l'} B0 c0 (cW (aN q.block) (comes q B0 c0)) x.2 x.1,λx=>un (pc (cW (aN q.block) (comes q B0 c0))).length x.2,⟨({q with todo:=l'},[]),aU,⟨rfl,rfl⟩,?_,
    gT {q with todo:=l'} rfl rfl rfl rfl (ar.cons (aj.dead _) (ar.cons (aj.aI rfl) (ar.cons (aj.mi (λb hb=>⟨hb,by cases hb;rfl⟩)) (ar.nil _))))⟩,λx hx=>?_⟩
   ·(exact cI)
   ·obtain⟨q',seen⟩:=x
    have hx:Rd δ tg N C {q with todo:=l'} B0 c0 (cW (aN q.block) (comes q B0 c0)) seen q':=hx
    (refine ai ?_)
    refine⟨λi y v hi nI=>?_,λcn=>?_⟩
    ·have hi:(pc (cW (aN q.block) (comes q B0 c0)))[i]? =some (y,v):=hi
     have nI:i∉seen:=nI
     obtain⟨b,sm,he,ey,W_⟩:∃b sm,(cW (aN q.block) (comes q B0 c0))[i]? =some (b,sm)∧y=i64 ((b:Nat):Int)∧v=.au 1 (aG sm) none:=by
      unfold pc at hi
      rw[aaM]at hi
      obtain⟨⟨b,sm⟩,h1,h2⟩:=aaO.1 hi
      cases h2
      exact⟨b,sm,h1,rfl,rfl⟩
     subst ey;subst W_
     have a_:i<(pc (cW (aN q.block) (comes q B0 c0))).length:=(aaK.1 hi).1
     obtain⟨l,hb,_,oY,hs0,gS,_⟩:=hx.entry aU.wf hq.a6 hB hc cr he nI
     have Xa:=hx.wf.zR
     have aq:=hx.wf.lt hb
     have iM:l.length≤N:=ue N l (hx.wf.mem b l hb).1 aq
     have aaq:q'.todo.length≤N*C:=aa2 hx.wf.tl (abl _ Xa)
     have hcq:=hx.wf.cls
     have nS:=VN q' b l sm hb oY (λs hs=>by rw[hx.wf.len];exact aq s (gS s hs)) (λs hs=>by rw[hx.wf.len];exact aq s hs) (by omega) (aa2 (wZ oY gS) (by omega)) (by omega) (by omega)
     have hw:=λe=>hx.whole aU.wf hq.a6 hB hc cr he nI hb e
     have p_:=λe t ht=>hx.split aU.wf hq.a6 hq.coarse hB hc cr he nI hb e (t:=t) ht
     have pU:=W5 a_ nI
     (refine ai ?_)
     refine⟨_,_,hi,?_⟩
     (refine ai ?_)
     refine iK [0,1,2,3,4] nS rfl rfl (ak.cons (ah.ptr rfl) (ak.cons (ah.pe rfl) (ak.cons (ah.pe rfl) ak.nil))) ?_
     rintro r H ⟨rfl,⟨e,rfl⟩|⟨e,t',iI,rfl⟩⟩
     ·(refine ai ?_)
      refine⟨(q',i::seen),hw e,pU,⟨rfl,rfl⟩,?_,gT q' rfl rfl rfl rfl (ar.cons (aj.dead _) (ar.cons (aj.aI rfl) (ar.cons (aj.mi (λb hb=>⟨hb,by cases hb;rfl⟩)) (ar.nil _))))⟩
      (exact cI)
     ·(refine ai ?_)
      refine⟨(⟨q'.C,q'.a6,cB q'.block (parts l sm).1 q'.members.length,q'.members.set b (parts l sm).2++[(parts l sm).1],t'⟩,i::seen),p_ e t' iI,pU,⟨rfl,rfl⟩,?_,
       gT ⟨q'.C,q'.a6,cB q'.block (parts l sm).1 q'.members.length,q'.members.set b (parts l sm).2++[(parts l sm).1],t'⟩ rfl rfl rfl rfl (ar.cons (aj.dead _) (ar.cons (aj.aI rfl) (ar.cons (aj.mi (λb hb=>⟨hb,by cases hb;rfl⟩)) (ar.nil _))))⟩
      (exact cI)
    ·have uq:=Rd.finish (p0:={q with todo:=l'}) hq.a6 hx (λi hi=>cn i (by unfold pc;rw[aaR];exact hi))
     have Xb:=hx.mu
     (refine ai ?_)
     refine⟨q',uq,Nat.lt_of_le_of_lt Xb C1,⟨rfl,rfl⟩,?_,gT q' rfl rfl rfl rfl (ar.nil _)⟩
     (exact cI)
  ·have h0:q.todo=[]:=by
    have h:((q.todo.length:Nat):Int)≤0:=h
    exact aa1 (by omega)
   (refine ai ?_)
   refine⟨.aD [],q.H,⟨rfl,q,hq,h0,rfl⟩,⟨rfl,rfl⟩,?_,gT q rfl rfl rfl rfl (ar.nil _)⟩
   (exact cI)
end Hk
namespace Go.Proofs
open Go.Shelf
def Tryz.laysSortF_ren:Go.Shelf.Ren:=⟨λ|6=>97|15=>161|14=>162|28=>210|29=>211|20=>212|21=>213|22=>214|23=>215|24=>216|25=>217|26=>218|27=>219|46=>252|47=>247|48=>248|49=>253|50=>254|57=>262|n=>n,λ|22=>25|24=>26|25=>143|3=>3|39=>219|0=>0|53=>267|55=>29|4=>4|46=>261|45=>260|50=>170|5=>5|9=>9|66=>299|70=>290|76=>315|77=>316|n=>n,λ|n=>n⟩
theorem Tryz.laysSortF:Go.Proofs.SlLaysF.n6 Tryz.prog Tryz.laysSortF_ren:={
 mixed:=by kernel_rfl
 f6:=⟨Tryz.f97.name,by decide,Tryz.func97.trans (congrArg some (by kernel_rfl))⟩
 f14:=⟨Tryz.f162.name,by decide,Tryz.func162.trans (congrArg some (by kernel_rfl))⟩
 f15:=Tryz.func161.trans (congrArg some (by kernel_rfl))
 f20:=⟨Tryz.f212.name,by decide,Tryz.func212.trans (congrArg some (by kernel_rfl))⟩
 f21:=⟨Tryz.f213.name,by decide,Tryz.func213.trans (congrArg some (by kernel_rfl))⟩
 f22:=⟨Tryz.f214.name,by decide,Tryz.func214.trans (congrArg some (by kernel_rfl))⟩
 f23:=⟨Tryz.f215.name,by decide,Tryz.func215.trans (congrArg some (by kernel_rfl))⟩
 f24:=⟨Tryz.f216.name,by decide,Tryz.func216.trans (congrArg some (by kernel_rfl))⟩
 f25:=⟨Tryz.f217.name,by decide,Tryz.func217.trans (congrArg some (by kernel_rfl))⟩
 f26:=⟨Tryz.f218.name,by decide,Tryz.func218.trans (congrArg some (by kernel_rfl))⟩
 f27:=⟨Tryz.f219.name,by decide,Tryz.func219.trans (congrArg some (by kernel_rfl))⟩
 f28:=Tryz.func210.trans (congrArg some (by kernel_rfl))
 f29:=Tryz.func211.trans (congrArg some (by kernel_rfl))
 f46:=⟨Tryz.f252.name,by decide,Tryz.func252.trans (congrArg some (by kernel_rfl))⟩
 f47:=Tryz.func247.trans (congrArg some (by kernel_rfl))
 f48:=Tryz.func248.trans (congrArg some (by kernel_rfl))
 f49:=⟨Tryz.f253.name,by decide,Tryz.func253.trans (congrArg some (by kernel_rfl))⟩
 f50:=⟨Tryz.f254.name,by decide,Tryz.func254.trans (congrArg some (by kernel_rfl))⟩
 f57:=⟨Tryz.f262.name,by decide,Tryz.func262.trans (congrArg some (by kernel_rfl))⟩
 t0:=Tryz.underlying0
 a0:=Tryz.isAgg0
 z0:=Tryz.sizeOf0
 v0:=Tryz.zeroValue0
 t3:=Tryz.underlying3
 a3:=Tryz.isAgg3
 z3:=Tryz.sizeOf3
 v3:=Tryz.zeroValue3
 t4:=Tryz.underlying4
 a4:=Tryz.isAgg4
 z4:=Tryz.sizeOf4
 v4:=Tryz.zeroValue4
 t5:=Tryz.underlying5
 a5:=Tryz.isAgg5
 z5:=Tryz.sizeOf5
 v5:=Tryz.zeroValue5
 t9:=Tryz.underlying9
 a9:=Tryz.isAgg9
 z9:=Tryz.sizeOf9
 v9:=Tryz.zeroValue9
 t22:=Tryz.underlying25
 a22:=Tryz.isAgg25
 z22:=Tryz.sizeOf25
 v22:=Tryz.zeroValue25
 a24:=Tryz.isAgg26
 z24:=Tryz.sizeOf26
 t25:=Tryz.underlying143
 a25:=Tryz.isAgg143
 z25:=Tryz.sizeOf143
 v25:=Tryz.zeroValue143
 t39:=Tryz.underlying219
 a39:=Tryz.isAgg219
 z39:=Tryz.sizeOf219
 v39:=Tryz.zeroValue219
 t45:=Tryz.underlying260
 a45:=Tryz.isAgg260
 z45:=Tryz.sizeOf260
 v45:=Tryz.zeroValue260
 t46:=Tryz.underlying261
 a46:=Tryz.isAgg261
 z46:=Tryz.sizeOf261
 v46:=Tryz.zeroValue261
 t50:=Tryz.underlying170
 a50:=Tryz.isAgg170
 z50:=Tryz.sizeOf170
 v50:=Tryz.zeroValue170
 t53:=Tryz.underlying267
 a53:=Tryz.isAgg267
 z53:=Tryz.sizeOf267
 v53:=Tryz.zeroValue267
 t55:=Tryz.underlying29
 a55:=Tryz.isAgg29
 z55:=Tryz.sizeOf29
 v55:=Tryz.zeroValue29
 t66:=Tryz.underlying299
 a66:=Tryz.isAgg299
 z66:=Tryz.sizeOf299
 v66:=Tryz.zeroValue299
 t70:=Tryz.underlying290
 a70:=Tryz.isAgg290
 z70:=Tryz.sizeOf290
 v70:=Tryz.zeroValue290
 t76:=Tryz.underlying315
 a76:=Tryz.isAgg315
 z76:=Tryz.sizeOf315
 v76:=Tryz.zeroValue315
 t77:=Tryz.underlying316
 a77:=Tryz.isAgg316
 z77:=Tryz.sizeOf316
 v77:=Tryz.zeroValue316}
end Go.Proofs
namespace Hk
open Go Go.Proofs Go.Sort Go.Shelf Go.RowKit Go.Lib
theorem Xd(a b:Addr)(la lb ca cb:Nat)(x y:Int)(W:World)(ha:a.spot=none)(hb:b.spot=none)(mF:0<la)(oQ:0<lb)(hx:W.cell? a=some (.int .i64 x))(hy:W.cell? b=some (.int .i64 y)):
 Calls Tryz.prog 98 #[.slice (some a) la ca,.slice (some b) lb cb] W λe w'=>e=.returned (.int .i64 (IntKind.i64.wrap (x - y)))∧∃q,w'=W.drewN q:=by
 obtain⟨ab,ao,Mb⟩:=a
 obtain⟨bb,bo,Xe⟩:=b
 have ha:Mb=none:=ha
 have hb:Xe=none:=hb
 subst ha;subst hb
 have h1:(0:Int)<(la:Nat):=by omega
 have h2:(0:Int)<(lb:Nat):=by omega
 aas Tryz.func98,Tryz.ntmps98
 Xf
 aat (fail)
 Xf
 refine bodyPost_ret (results_tmp rfl _ _ _) rfl ⟨?_,_,rfl⟩
 show Ending.returned (.int .i64 (wrap64 (x - y)))=_
 rw[IntKind.wrap_i64]
 unfold wrap64
 exact rfl
theorem EU{l:List Nat}(h:l≠[]):l[0]? =some (l.headD 0):=by
 cases l with
 |nil=>exact absurd rfl h
 |cons a l=>rfl
theorem Xg(rows:List (List Nat))(bg:∀l∈rows,l≠[])(hb:∀l∈rows,l.headD 0<2^40)(bM:rows.length<2^40):
 Fn Tryz.prog 97 [.sl 0 1 0 rows.length none,.p (.fn 98 [] [])] [.pr 1 (rows.map bJ)] [] (λr H=>r=.aD []∧∃R:List (List Nat),R.Perm rows∧R.Pairwise (λa b=>a.headD 0≤b.headD 0)∧H=[.pr 1 (R.map bJ)]):=by
 refine⟨⟨_,rfl,by decide,rfl⟩,λw ι vs hG hX hr cS=>?_⟩
 have hv:=cS.2 0 _ rfl
 have Mc:=cS.2 1 _ rfl
 have cY:vs= #[vs.getD 0 undef,vs.getD 1 undef]:=by
  apply Array.ext
  ·rw[cS.1];rfl
  ·intro i h1 h2
   simp at h2
   have:i=0∨i=1:=by omega
   rcases this with rfl|rfl<;>simp[h1]
 generalize vs.getD 0 undef=v at hv cY
 generalize vs.getD 1 undef=u at Mc cY
 subst cY
 have hu:u=.func (.func 98) #[] #[]:=by
  cases Mc with
  |p h=>
   cases h with
   |fn h1 h2 h3 h4=>
    rename_i fa ca
    have e1:fa= #[]:=acT h1
    have e2:ca= #[]:=acT h2
    rw[e1,e2]
 subst hu
 have Md:∀(b:Nat) (x:Blk),nth Blk.dead [x] (b+1)=.dead:=λb x=>by cases b<;>rfl
 have tv:∀oa cc,rows=[]→v=.slice oa 0 cc→Calls Tryz.prog 97 #[v,.func (.func 98) #[] #[]] w λe w'=>∃r v aC H',e=.returned v∧(r=.aD []∧∃R:List (List Nat),R.Perm rows∧R.Pairwise (λa b=>a.headD 0≤b.headD 0)∧H'=[.pr 1 (R.map bJ)])∧[Blk.pr 1 (rows.map bJ)].length≤H'.length∧bL aC H' w'∧RA w' aC r v∧(aC.X=ι.X∧¬aC.G)∧
  (∀c (o:Obj),¬ι.I c→w.heap[c]? =some o→w'.heap[c]? =some o)∧w.heap.size≤w'.heap.size∧(∀c,aC.I c→ι.I c∨w.heap.size≤c)∧
  (w'.os=w.os∧w'.output=w.output)∧∀b,b<[Blk.pr 1 (rows.map bJ)].length→memN [] b=false→aC b=ι b:=by
  rintro oa cc rfl rfl
  refine(AnyF.slices_SortFunc_none (P:=Tryz.prog) (ρ:=Tryz.laysSortF_ren) {Tryz.laysSortF with} oa cc _ w).mono ?_
  rintro e w' ⟨rfl,rfl⟩
  exact⟨.aD [],_,ι,_,rfl,⟨rfl,[],.refl _,.nil,rfl⟩,aaJ _,hr,.aD rfl (λi x h=>by simp at h),⟨rfl,hG⟩,λ_ _ _ h=>h,aaJ _,λ_ h=>.inl h,⟨rfl,rfl⟩,λ_ _ _=>rfl⟩
 generalize hn:(rows.length:Nat)=n at hv
 cases hv with
 |c_ aR=>exact tv _ _ (aa1 hn) rfl
 |sl gZ hl aR hs=>
  rename_i c o s cc
  subst hn
  have h0:=hr.blk 0
  have kO:nth Blk.dead [Blk.pr 1 (rows.map bJ)] 0=.pr 1 (rows.map bJ):=rfl
  rw[kO,gZ]at h0
  rcases h0 with⟨h0,_⟩|⟨c',o',s',cs,ty,fz,he,h1,jl,h2,h3,h4,h5⟩
  ·cases h0
  cases he
  simp only[acf,Nat.add_zero,abN,aaR]at*
  by_cases gy:rows=[]
  ·subst gy
   exact tv _ _ rfl rfl
  have jh:0<rows.length:=acB.2 gy
  haveI:Inhabited (Fin rows.length):=⟨⟨0,jh⟩⟩
  have aq:c<w.heap.size:=(aaW.1 h1).1
  have fm:ι.I c:=⟨.v 0,o,_,gZ⟩
  let enc:Fin rows.length→Value:=λj=>(cs[o+j.val]?).getD undef
  let key:Fin rows.length→Int:=λj=>((rows[j.val].headD 0:Nat):Int)
  have bn:∀j:Fin rows.length,cs[o+j.val]? =some (enc j)∧RP w ι.M (.au 1 (aG rows[j.val]) none) (enc j):=λj=>by
   obtain⟨_,v,hv,hp⟩:=h5 j.val (bJ rows[j.val]) 0 (.au 1 (aG rows[j.val]) none) (by rw[aaM,aaI j.isLt];rfl) rfl
   rw[Nat.add_zero]at hv
   have e:enc j=v:=by show(cs[o+j.val]?).getD undef=v;rw[hv];rfl
   rw[e];exact⟨hv,hp⟩
  have ig:∀j:Fin rows.length,∃(ad:Addr) (l cp:Nat),enc j=.slice (some ad) l cp∧0<l∧ad.spot=none∧¬ι.M ad.block∧ad.block<w.heap.size∧w.cell? ad=some (.int .i64 (key j)):=λj=>by
   have EV:=bg _ (abA j.isLt)
   obtain⟨a,cp,he,hle,_,hh⟩:=lC (bn j).2
   rcases hh with hh|⟨ad,rfl,nS,hM,cj,bm⟩
   ·have:(aG rows[j.val]).length=0:=by rw[hh];rfl
    rw[cQ]at this
    exact absurd (aa1 this) EV
   ·refine⟨ad,_,cp,he,?_,nS,hM,cj,?_⟩
    ·rw[cQ];exact acB.2 EV
    ·obtain⟨_,Xh⟩:=bm 0 _ (kz (EU EV))
     obtain⟨_,v,hv,hp⟩:=Xh 0 _ rfl
     have HJ:w.cell? ⟨ad.block,ad.off,none⟩=some v:=by simpa using hv
     have e:ad=⟨ad.block,ad.off,none⟩:=by cases ad;simp at nS;simp[nS]
     rw[e,HJ,u7 hp rfl];rfl
  have hH:Holds enc w c o (Array.ofFn (n:=rows.length) id):=by
   intro j hj
   have dZ:j<rows.length:=by simpa using hj
   have e:(Array.ofFn (n:=rows.length) id)[j]! =⟨j,dZ⟩:=by rw[acV _ j hj];simp
   rw[e]
   refine⟨?_,?_⟩
   ·rw[cell_of h1];exact(bn ⟨j,dZ⟩).1
   ·have:=jl (o+j) (by omega)
    simp only[World.frozen?,h1]
    simpa using this
  have bA:OneCell enc:=λj=>by
   obtain⟨ad,l,cp,he,_⟩:=ig j
   rw[he];rfl
  let cf:Fin rows.length→Fin rows.length→Int:=λx y=>IntKind.i64.wrap (key x - key y)
  have i_:∀x y,cf x y=key x - key y:=λx y=>by
   have hx:rows[x.val].headD 0<2^40:=hb _ (abA x.isLt)
   have hy:rows[y.val].headD 0<2^40:=hb _ (abA y.isLt)
   show IntKind.i64.wrap (((rows[x.val].headD 0:Nat):Int) - ((rows[y.val].headD 0:Nat):Int))=((rows[x.val].headD 0:Nat):Int) - ((rows[y.val].headD 0:Nat):Int)
   revert hx hy
   generalize rows[x.val].headD 0=u
   generalize rows[y.val].headD 0=v
   intro hx hy
   exact bW (by omega) (by omega)
  have sG:∀x y,ltOf cf x y=decide (key x<key y):=λx y=>by
   unfold ltOf
   rw[i_]
   by_cases h:key x<key y
   ·rw[aa5 h,aa5 (by omega)]
   ·rw[aa_ h,aa_ (by omega)]
  have hO:SWO (ltOf cf):=⟨λx=>by rw[sG];simp,λx y z a b=>by rw[sG]at*;simp at*;omega,λx y z a b=>by rw[sG]at*;simp at*;omega⟩
  have Ag:(Array.ofFn (n:=rows.length) id).size=rows.length:=by simp
  have old:∀(m:Nat) (os:Array Obj) (dk:Array (Fin rows.length)) (d:Nat) (x:Obj),d≠c→w.heap[d]? =some x→(sortWorld enc w c o m dk os).heap[d]? =some x:=λm os dk d x hd hx=>by
   have pY:=(aaW.1 hx).1
   show(grow _ _).heap[d]? =_
   rw[heap_grow_old _ _ (by simpa [putRow,mapBlock,Sort.ahead]using pY)]
   simp[putRow,mapBlock,Sort.ahead,acg,hx,abk hd]
  have Xi:CmpLays1 Tryz.prog 98 #[] enc cf c o (Array.ofFn (n:=rows.length) id).size w:=CmpReads.lays λm os dk hs x y=>by
   obtain⟨ax,lx,cx,ex,fJ,K2,K3,hx3,Xj⟩:=ig x
   obtain⟨ay,ly,cy,ey,vy,y_,Xk,hy3,Xl⟩:=ig y
   have keep:∀ad:Addr,¬ι.M ad.block→∀v,w.cell? ad=some v→(sortWorld enc w c o m dk os).cell? ad=some v:=λad hM v hv=>by
    unfold World.cell? at hv ⊢
    cases ho:w.heap[ad.block]? with
    |none=>rw[ho]at hv;cases hv
    |some ob=>rw[old m os dk _ _ (λe=>hM (by rw[e];exact .inl fm)) ho];rw[ho]at hv;exact hv
   show Calls _ _ #[enc x,enc y] _ _
   rw[ex,ey]
   exact Xd ax ay lx ly cx cy (key x) (key y) _ K2 y_ fJ vy (keep ax K3 _ Xj) (keep ay Xk _ Xl)
  have eg:∀args w,(callFunc 98 args).run Tryz.prog w=.ok (.enter 98 args) w:=enters_of Tryz.func98 (by kernel_rfl) rfl
  have hS:=Any.slices_SortFunc (P:=Tryz.prog) Tryz.laysSortF enc bA cf hO 98 #[] c o cc (Array.ofFn (n:=rows.length) id) w eg Xi hH aq (by rw[Ag];omega)
  rw[Ag]at hS
  refine hS.mono ?_
  rintro e w' ⟨rfl,d',n,os,⟨kV,_,Ah⟩,Xm,rfl⟩
  rw[Ag]at kV
  have Ah:d'.toList.Perm (List.finRange rows.length):=by
   have q1:(d'.extract 0 rows.length).toList=d'.toList:=by
    have e:d'.extract 0 d'.size=d':=Array.extract_size
    rw[kV]at e;rw[e]
   have q2:((Array.ofFn (n:=rows.length) id).extract 0 rows.length).toList=List.finRange rows.length:=by
    have e:(Array.ofFn (n:=rows.length) id).extract 0 (Array.ofFn (n:=rows.length) id).size=Array.ofFn (n:=rows.length) id:=Array.extract_size
    rw[Ag]at e;rw[e,Array.toList_ofFn];rfl
   rw[q1,q2]at Ah
   exact Ah
  let W':=sortWorld enc w c o n d' os
  have eD:W'.heap[c]? =some (.cells (putCells enc o d' cs) ty fz):=by
   show(grow _ _).heap[c]? =_
   rw[heap_grow_old _ _ (by simpa [putRow,mapBlock,Sort.ahead]using aq)]
   simp[putRow,mapBlock,Sort.ahead,acg,h1,onCells]
  have hold:∀(d:Nat) (x:Obj),d≠c→w.heap[d]? =some x→W'.heap[d]? =some x:=old n os d'
  have ct:w.heap.size≤W'.heap.size:=by
   show _≤(grow _ _).heap.size
   simp[grow,putRow,mapBlock,Sort.ahead]
  have hL:bc ι.M w W' ι.M:=⟨λd x hd hx=>hold d x (λe=>hd (by subst e;exact .inl fm)) hx,λd hd=>.inl hd,ct⟩
  have hid:∀(R:List (List PV)) b i,HB W' ι (ι (.v b)) (ι (.h b i)) i (nth .dead [Blk.pr 1 R] b):=λR b i=>
   HB.bare (by cases b with|zero=>rfl|succ b=>cases b<;>rfl) ((hr.hid b i).none (by cases b with|zero=>rfl|succ b=>cases b<;>rfl))
  let R:=d'.toList.map λj=>rows[j.val]
  have qi:R.length=rows.length:=by simp[R,kV]
  refine⟨.aD [],_,ι,[.pr 1 (R.map bJ)],rfl,⟨rfl,R,?_,?_,rfl⟩,aaJ _,⟨hr.gl.later hL,λb=>?_,hr.inj,hr.cC,hid _⟩,.aD rfl (λi x h=>by simp at h),⟨rfl,hG⟩,λd x hd hx=>hold d x (λe=>hd (e▸fm)) hx,ct,λ_ h=>.inl h,⟨rfl,rfl⟩,λ_ _ _=>rfl⟩
  ·refine(Ah.map λj=>rows[j.val]).trans ?_
   rw[show(List.finRange rows.length).map (λj=>rows[j.val])=rows from ?_]
   refine List.ext_getElem (by simp) λi h1 h2=>by simp
  ·show(d'.toList.map λj=>rows[j.val]).Pairwise _
   rw[ac0,acN]
   intro i j hi hj kZ
   have bp:i<d'.size:=by simpa using hi
   have dZ:j<d'.size:=by simpa using hj
   have:=Xm i j (aaP _) kZ (by omega)
   rw[sG,acV d' i bp,acV d' j dZ]at this
   simp only[Array.getElem_toList]
   have h:¬key d'[j]<key d'[i]:=by simpa using this
   have e1:key d'[j]=((rows[(d'[j]).val].headD 0:Nat):Int):=rfl
   have e2:key d'[i]=((rows[(d'[i]).val].headD 0:Nat):Int):=rfl
   rw[e1,e2]at h
   omega
  ·cases b with
   |zero=>
    show RB W' ι (ι (.v 0)) (.pr 1 (R.map bJ))
    rw[gZ]
    refine .inr ⟨c,o,_,_,ty,fz,rfl,eD,by rw[tu];exact jl,by rw[tu];exact h2,by rw[aaR,qi];omega,λi row hi=>?_,λi row j x hi hx=>?_⟩
    ·rw[aaM]at hi
     obtain⟨z,_,rfl⟩:=aaO.1 hi
     rfl
    ·rw[aaM]at hi
     obtain⟨z,hz,rfl⟩:=aaO.1 hi
     have cz:i<d'.size:=by have:=(aaK.1 hz).1;omega
     have wq:z=rows[(d'[i]).val]:=by
      have:=(aaK.1 hz).2
      rw[←this];simp[R]
     cases j with
     |succ j=>simp[bJ]at hx
     |zero=>
      simp only[bJ,List.getElem?_cons_zero,ade]at hx
      subst hx
      refine⟨rfl,enc d'[i],?_,?_⟩
      ·have Dz:o+i<cs.size:=by omega
       simp only[putCells,abN,Nat.add_zero]
       rw[adh]
       have c1:o≤o+i∧o+i<o+d'.size:=⟨by omega,by omega⟩
       have c2:o+i - o=i:=by omega
       simp[Dz,cz,c1,c2]
      ·rw[wq]
       exact(bn d'[i]).2.later hL
   |succ b=>
    have:=hr.blk (b+1)
    rw[Md]at this
    rw[Md];exact this
end Hk
namespace Hk
open Go Go.Proofs Go.Sort
theorem Xn(zs:List Int)(rest:List (List PV))(bM:zs.length<4611686018427387904):
 Fn Tryz.prog 96 [.sl 0 1 0 zs.length none] [.pr 1 (zs.map ck++rest)] [] (λr H=>r=.aD []∧H=[.pr 1 ((cw zs).map ck++rest)]):=by
 refine⟨⟨_,rfl,by decide,rfl⟩,λw ι vs hG hX hr cS=>?_⟩
 have hv:=cS.2 0 _ rfl
 have cY:vs= #[vs.getD 0 undef]:=by
  apply Array.ext
  ·rw[cS.1];rfl
  ·intro i h1 h2
   simp at h2
   subst h2
   simp[h1]
 generalize vs.getD 0 undef=v at hv cY
 subst cY
 have tv:∀oa,zs=[]→v=.slice oa 0 0→Calls Tryz.prog 96 #[v] w λe w'=>∃r v aC H',e=.returned v∧(r=.aD []∧H'=[.pr 1 ((cw zs).map ck++rest)])∧[Blk.pr 1 (zs.map ck++rest)].length≤H'.length∧bL aC H' w'∧RA w' aC r v∧(aC.X=ι.X∧¬aC.G)∧
  (∀c (o:Obj),¬ι.I c→w.heap[c]? =some o→w'.heap[c]? =some o)∧w.heap.size≤w'.heap.size∧(∀c,aC.I c→ι.I c∨w.heap.size≤c)∧
  (w'.os=w.os∧w'.output=w.output)∧∀b,b<[Blk.pr 1 (zs.map ck++rest)].length→memN [] b=false→aC b=ι b:=by
  rintro oa rfl rfl
  refine(Any.slices_Sort_int_none Tryz.laysSort oa 0 w).mono ?_
  rintro e w' ⟨rfl,rfl⟩
  refine⟨.aD [],_,ι,_,rfl,⟨rfl,rfl⟩,aaJ _,?_,.aD rfl (λi x h=>by simp at h),⟨rfl,hG⟩,λ_ _ _ h=>h,aaJ _,λ_ h=>.inl h,⟨rfl,rfl⟩,λ_ _ _=>rfl⟩
  have:cw []=[]:=by simp[cw]
  rw[this];exact hr
 generalize hn:(zs.length:Nat)=n at hv
 cases hv with
 |c_ aR=>exact tv _ (aa1 hn) rfl
 |sl hb hl aR hs=>
  rename_i c o s cc
  subst hn
  have h0:=hr.blk 0
  have kO:nth Blk.dead [Blk.pr 1 (zs.map ck++rest)] 0=.pr 1 (zs.map ck++rest):=rfl
  rw[kO,hb]at h0
  rcases h0 with⟨h0,_⟩|⟨c',o',s',cs,ty,fz,he,h1,jl,h2,h3,h4,h5⟩
  ·cases h0
  cases he
  simp only[acf,Nat.add_zero,abN,aaR]at*
  have aq:c<w.heap.size:=(aaW.1 h1).1
  have bn:∀(j:Nat) (z:Int),zs[j]? =some z→cs[o+j]? =some (.int .i64 z):=λj z hz=>by
   obtain⟨_,v,hv,hp⟩:=h5 j (ck z) 0 (i64 z) (by rw[aa9 (by rw[aaR];exact(aaK.1 hz).1),aaM,hz];rfl) rfl
   rw[Nat.add_zero]at hv
   rw[hv,u7 hp rfl];rfl
  have hH:Holds (Value.int .i64) w c o zs.toArray:=by
   intro j hj
   have dZ:j<zs.length:=by simpa using hj
   have hz:zs[j]? =some zs[j]:=aaI dZ
   refine⟨?_,?_⟩
   ·rw[cell_of h1,bn j _ hz]
    simp[dZ]
   ·have:=jl (o+j) (by omega)
    simp only[World.frozen?,h1]
    simpa using this
  refine(Any.slices_Sort_int Tryz.laysSort c o cc zs w hH aq bM).mono ?_
  rintro e w' ⟨rfl,n,os,rfl⟩
  have ig:(cw zs).length=zs.length:=by simp[cw]
  let W':=grow (putRow (Value.int .i64) (Sort.ahead w n) c o (cw zs).toArray) os
  have eD:W'.heap[c]? =some (.cells (putCells (Value.int .i64) o (cw zs).toArray cs) ty fz):=by
   show(grow _ _).heap[c]? =_
   rw[heap_grow_old _ _ (by simpa [putRow,mapBlock,Sort.ahead]using aq)]
   simp[putRow,mapBlock,Sort.ahead,acg,h1,onCells]
  have hold:∀(d:Nat) (x:Obj),d≠c→w.heap[d]? =some x→W'.heap[d]? =some x:=λd x hd hx=>by
   have pY:=(aaW.1 hx).1
   show(grow _ _).heap[d]? =_
   rw[heap_grow_old _ _ (by simpa [putRow,mapBlock,Sort.ahead]using pY)]
   simp[putRow,mapBlock,Sort.ahead,acg,hx,abk hd]
  have ct:w.heap.size≤W'.heap.size:=by
   show _≤(grow _ _).heap.size
   simp[grow,putRow,mapBlock,Sort.ahead]
  have fm:ι.I c:=⟨.v 0,o,_,hb⟩
  have hL:bc ι.M w W' ι.M:=⟨λd x hd hx=>hold d x (λe=>hd (by subst e;exact .inl fm)) hx,λd hd=>.inl hd,ct⟩
  have hid:∀b i,HB W' ι (ι (.v b)) (ι (.h b i)) i (nth .dead [Blk.pr 1 ((cw zs).map ck++rest)] b):=λb i=>
   HB.bare (by cases b with|zero=>rfl|succ b=>cases b<;>rfl) ((hr.hid b i).none (by cases b with|zero=>rfl|succ b=>cases b<;>rfl))
  refine⟨.aD [],_,ι,_,rfl,⟨rfl,rfl⟩,aaJ _,⟨hr.gl.later hL,λb=>?_,hr.inj,hr.cC,hid⟩,.aD rfl (λi x h=>by simp at h),⟨rfl,hG⟩,λd x hd hx=>hold d x (λe=>hd (e▸fm)) hx,ct,λ_ h=>.inl h,⟨rfl,rfl⟩,λ_ _ _=>rfl⟩
  cases b with
  |zero=>
   show RB W' ι (ι (.v 0)) (.pr 1 ((cw zs).map ck++rest))
   rw[hb]
   have iM:((cw zs).map ck++rest).length=(zs.map ck++rest).length:=by simp[ig]
   have di:((cw zs).map ck).length=zs.length:=by simp[ig]
   have Me:(zs.map ck).length=zs.length:=by simp
   have Mf:∀(i:Nat) row,¬i<zs.length→((cw zs).map ck++rest)[i]? =some row→(zs.map ck++rest)[i]? =some row:=λi row hi h=>by
    rw[abe (by rw[di];omega),di]at h
    rw[abe (by rw[Me];omega),Me];exact h
   refine .inr ⟨c,o,_,_,ty,fz,rfl,eD,by rw[tu];exact jl,by rw[tu];exact h2,by rw[iM];simpa using h3,λi row hi=>?_,λi row j x hi hx=>?_⟩
   ·by_cases a_:i<zs.length
    ·rw[aa9 (by rw[di];exact a_),aaM]at hi
     obtain⟨z,_,rfl⟩:=aaO.1 hi
     rfl
    ·exact h4 i row (Mf i row a_ hi)
   ·by_cases a_:i<zs.length
    ·rw[aa9 (by rw[di];exact a_),aaM]at hi
     obtain⟨z,hz,rfl⟩:=aaO.1 hi
     have cz:=(aaK.1 hz).1
     cases j with
     |succ j=>simp[ck]at hx
     |zero=>
      simp only[ck,List.getElem?_cons_zero,ade]at hx
      subst hx
      refine⟨rfl,.int .i64 z,?_,.int _ _⟩
      have:o+i<cs.size:=by omega
      simp only[putCells,abN,Nat.add_zero]
      rw[adh]
      have e:(cw zs)[i]=z:=(aaK.1 hz).2
      have e2:(cw zs).toArray[i]! =z:=by rw[acV _ i (by simpa using cz)];simpa using e
      have c1:o≤o+i∧o+i<o+(cw zs).toArray.size:=⟨by omega,by simp;omega⟩
      have c2:o+i - o=i:=by omega
      simp[this,cz,e,e2,c1,c2]
    ·obtain⟨g1,v,g2,g3⟩:=h5 i row j x (Mf i row a_ hi) hx
     refine⟨g1,v,?_,g3.later hL⟩
     simp only[abN]at g2 ⊢
     simp only[putCells]
     rw[adh,g2]
     have c1:¬(o≤o+(i+j)∧o+(i+j)<o+(cw zs).toArray.size):=by simp[ig];omega
     show some (if o≤o+(i+j)∧o+(i+j)<o+(cw zs).toArray.size then _ else v)=some v
     rw[aaF c1]
  |succ b=>
   have:=hr.blk (b+1)
   have e:nth Blk.dead [Blk.pr 1 (zs.map ck++rest)] (b+1)=.dead:=by cases b<;>rfl
   have e2:nth Blk.dead [Blk.pr 1 ((cw zs).map ck++rest)] (b+1)=.dead:=by cases b<;>rfl
   rw[e]at this
   rw[e2];exact this
end Hk
namespace Hk
open Go Go.Proofs
theorem Xo(d:aw)(hd:d.Fit)(hm:d.may=false):PF Tryz.prog 32 [d.pv] bC:=by
 have fu:=wE d hd
 rw[hm]at fu
 refine aY [[1,5,20,21,22]] [] ?_
 (refine ai ?_)
 refine⟨_,d.rest.map .p,bO (rest:=d.rest),⟨rfl,bH _,rfl⟩,?_⟩
 (refine ai ?_)
 refine aH fu rfl rfl ?_
 (refine ai ?_)
 (refine ed ?_)
 exact aM rfl rfl rfl
theorem Mg(d:aw):(aO d.o++d.rest)[0+257]? =some (.au 1 (d.next.map aQ) none):=by
 rw[abe (by rw[bH];omega),bH];rfl
theorem Xp(d:aw)(z:Int)(hl:d.next.length<2^40):PF Tryz.prog 95 [i64 z,.b5 (aO d.o++d.rest) 0] (.b (decide (z=(d.n:Int)))):=by
 refine aY [] [] ?_
 (refine ai ?_)
 refine⟨.au 1 (d.next.map aQ) none,Mg d,?_⟩
 (refine ai ?_)
 refine aM rfl rfl (aaH PV.b ?_)
 show(z==(((d.next.map aQ).length:Nat):Int))=_
 rw[aaR]
 show(z==(d.n:Int))=_
 by_cases h:z=(d.n:Int)<;>simp[h]
def uE(l:List Nat):List Nat:=(cw (l.map λn:Nat=>(n:Int))).map Int.toNat
def iy(n:Nat)(l:List Nat):List Nat:=uE (l.filter λs=>decide (s≠n))
def lV(n:Nat)(ms:List (List Nat))(j:Nat):List (List Nat):=((ms.take j).map (iy n)).filter λl=>decide (l≠[])
theorem Xq(n:Nat)(ms:List (List Nat))(j:Nat):(lV n ms j).length≤j:=by
 unfold lV
 refine aa2 (abO _ _) ?_
 rw[aaR,abB];omega
theorem Mh(o:List (List Nat))(b:List Nat):o.length+1=(o++[b]).length:=by simp
theorem Mi(o:List (List Nat))(b:List Nat):o.map bJ++[[.au 1 (aG b) none]]=(o++[b]).map bJ:=by rw[abb];rfl
theorem Xr{n:Nat}{ms:List (List Nat)}{j:Nat}{l:List Nat}(h:ms[j]? =some l):lV n ms (j+1)=lV n ms j++if iy n l≠[]then[iy n l]else[]:=by
 unfold lV
 rw[abp,h,abb,abD]
 congr 1
 by_cases e:iy n l=[]<;>simp[e]
theorem uF(l:List Nat):aG l=ints (l.map λn:Nat=>(n:Int)):=by unfold aG ints;rw[abE];rfl
theorem Mj(l:List Int):(cw l).Perm l:=List.mergeSort_perm _ _
theorem Xs(l:List Int):(cw l).Pairwise (·≤·):=by
 have:=ad6 (le:=λx y:Int=>decide (x≤y)) (λa b c h1 h2=>by simp at*;omega) (λa b=>by simp;omega) l
 exact this.imp λh=>abG h
theorem Xt(l:List Int)(h:∀z∈l,0≤z):(l.map Int.toNat).map (λn:Nat=>(n:Int))=l:=by
 rw[abE]
 conv=>rhs;rw[←List.map_id l]
 exact abS λz hz=>by have:=h z hz;show((z.toNat:Nat):Int)=z;omega
theorem Xu(l:List Nat):(uE l).map (λn:Nat=>(n:Int))=cw (l.map λn:Nat=>(n:Int)):=by
 refine Xt _ λz hz=>?_
 have:=(Mj _).mem_iff.1 hz
 obtain⟨n,_,rfl⟩:=aa3.1 this
 omega
theorem EW(l:List Nat):(uE l).Perm l:=by
 refine((Mj (l.map λn:Nat=>(n:Int))).map Int.toNat).trans ?_
 rw[abE,show(Int.toNat∘λn:Nat=>(n:Int))=id from funext λn=>Int.toNat_natCast n,List.map_id]
theorem Xv(l:List Nat):(uE l).Pairwise (·≤·):=by
 unfold uE
 rw[ac0]
 refine(Xs _).imp λh=>Int.toNat_le_toNat h
theorem Ml(d:aw)(hd:d.Fit)(hm:d.may=true):PF Tryz.prog 32 [d.pv] (.au 1 ((gq d).map bJ) none):=by
 have fu:=wE d hd
 rw[hm]at fu
 have hf:=aw.fL hm
 have EP:0≤d.cls∧d.cls≤256:=by
  have:=hm
  unfold aw.may cJ at this
  simp only[aaQ,abv]at this
  have h1:=this.1.2
  have h2:=oO (nameOf d.o)
  omega
 obtain⟨C,hC⟩:∃C:Nat,d.cls=(C:Int):=⟨d.cls.toNat,by omega⟩
 have Xw:=WI d hd hm C hC
 have cr:∀s c,s<d.n+1→c<C→d.go s c<d.n+1:=λs c _ hc=>aw.zU hm s c (by rw[hC];exact adT.2 hc)
 refine aY [[1,5,20,21,22]] [] ?_
 (refine ai ?_)
 refine⟨_,d.rest.map .p,bO (rest:=d.rest),⟨rfl,bH _,rfl⟩,?_⟩
 (refine ai ?_)
 refine aH fu rfl rfl ?_
 (refine ai ?_)
 (refine ed ?_)
 refine rF (ps:=[d.pv]) Xw rfl rfl ?_
 rintro r H ⟨q,hq,rfl,rfl⟩
 have Xx:(d.n+1)*C+C<2^37:=by
  have:(d.n+1)*C≤601*256:=adl (by omega) (by omega)
  omega
 have Xy:=W6 d.go d.tg (d.n+1) C q hq cr (by omega) Xx
 (refine ai ?_)
 refine iK [5,3,9,4,2] Xy rfl rfl (ak.cons (ah.ptr rfl) ak.nil) ?_
 rintro r H ⟨rfl,p,hp,h0,rfl⟩
 have x9:=hp.wf.zR
 (refine ai ?_)
 refine⟨[.slot 5 1],Nat×List (List Nat),λx=>⟨[(1,.p (.b5 (aO d.o++d.rest) 0)),(5,.sl 10 1 0 x.2.length none),(20,.p (.au 1 (p.members.map bJ) none)),(21,.p (i64 p.members.length)),(22,.p (i64 x.1))],
  [.dead,.dead,.dead,.dead,.dead,.dead,.dead,.dead,.dead,.dead,.pr 1 (x.2.map bJ)]⟩,
  λx=>x.1≤p.members.length∧x.2=lV d.n p.members x.1,λx=>p.members.length - x.1,⟨(0,[]),⟨aaP _,rfl⟩,⟨rfl,rfl⟩,?_,?_⟩,λx hx=>?_⟩
 ·have di:(p.members.map bJ).length=p.members.length:=aaR ..
  (((repeat'(first|exact aA.nil|exact ar.nil _|refine aA.cons ?_ ?_|refine ar.cons ?_ ?_|exact ah.ptr rfl|exact ah.sl rfl (.inl rfl)|exact ah.aF rfl|exact ah.mpr rfl|refine ah.pe ?_|refine ah.aD ?_|refine ah.agg ?_|refine aj.pe ?_|refine aj.aI ?_|refine aj.aL ?_|refine aj.aK ?_ ?_|refine aj.mx ?_|exact ak.nil|refine ah.fn ?_ ?_|refine ak.cons ?_ ?_|exact ah.aE _|exact aj.dead _))<;>(try with_reducible rfl)))
  all_goals first|rfl|exact ah.sr (row:=d.rest) rfl rfl|exact ah.dI (rs:=p.members.map bJ) rfl rfl (eF (aby di)) di (.refl _)
 ·(refine a8 ?_)
  all_goals first|rfl
 ·obtain⟨j,o⟩:=x
  obtain⟨hj,ho⟩:=hx
  have hj:j≤p.members.length:=hj
  have ho:o=lV d.n p.members j:=ho
  have qW:o.length≤j:=by rw[ho];exact Xq _ _ _
  have Xz:0+o.length=(o.map bJ).length:=by rw[aaR,aaL]
  (refine ai ?_)
  refine jk (λh=>?_) (λh=>?_)
  ·have h:j<p.members.length:=by have h:(j:Int)<(p.members.length:Nat):=h;omega
   have hg:=aaI h
   generalize p.members[j]=l at*
   obtain⟨w5,lI,eJ⟩:=hp.wf.mem j l hg
   have aq:=hp.wf.lt hg
   have iM:l.length≤601:=by have:=ue (d.n+1) l w5 aq;omega
   have b7:(p.members.map bJ)[(j:Int).toNat]? =some (bJ l):=by rw[Int.toNat_natCast,aaM,hg];rfl
   have hjb:(0:Int)≤(j:Int)∧(j:Int)<(((p.members.map bJ).length:Nat):Int):=by rw[aaR];omega
   have b0:=Dt (l.map λn:Nat=>(n:Int)) none (by rw[aaR];omega)
   have pY:=Jv (l.map λn:Nat=>(n:Int)) 95 [.b5 (aO d.o++d.rest) 0] (λz=>decide (z=(d.n:Int))) (by rw[aaR];omega) (λz _=>Xp d z hd.next)
   rw[←uF]at b0
   have ib:(l.map λn:Nat=>(n:Int)).filter (λz=>!decide (z=(d.n:Int)))=(l.filter λs=>decide (s≠d.n)).map λn:Nat=>(n:Int):=by
    rw[List.filter_map]
    congr 1
    refine acn λs _=>?_
    by_cases e:s=d.n
    ·subst e;simp
    ·have e':¬((s:Int)=(d.n:Int)):=by omega
     simp[e,e']
   rw[ib,←uF,←uF,aaR,aaR]at pY
   have cj:(iy d.n l).length=(l.filter λs=>decide (s≠d.n)).length:=(EW _).length_eq
   have TX:=abO (λs=>decide (s≠d.n)) l
   have wJ:∀rest,Fn Tryz.prog 96 [.sl 0 1 0 (l.filter λs=>decide (s≠d.n)).length none] [.pr 1 (aG (l.filter λs=>decide (s≠d.n))++rest)] [] (λr H=>r=.aD []∧H=[.pr 1 (aG (iy d.n l)++rest)]):=λrest=>by
    have h:=Xn ((l.filter λs=>decide (s≠d.n)).map λn:Nat=>(n:Int)) rest (by rw[aaR];omega)
    rw[aaR,←Xu]at h
    have e:∀m:List Nat,(m.map λn:Nat=>(n:Int)).map ck=aG m:=λm=>(uF m).symm
    rw[e,e]at h
    exact h
   have kX:∀rest,(dropN 0 (aG (iy d.n l)++rest)).take (l.filter λs=>decide (s≠d.n)).length=aG (iy d.n l):=λrest=>by
    show(aG (iy d.n l)++rest).take _=_
    rw[←cj,←cQ (iy d.n l)];exact acM
   have dR:(aG (iy d.n l)).length=(l.filter λs=>decide (s≠d.n)).length:=by rw[cQ,cj]
   have gB:lV d.n p.members (j+1)=lV d.n p.members j++if iy d.n l≠[]then[iy d.n l]else[]:=Xr hg
   (refine ai ?_)
   refine aJ b7 ?_
   (refine ai ?_)
   refine rF (ps:=[.au 1 (aG l) none]) b0 rfl rfl ?_
   rintro r H (⟨rfl,rfl,e⟩|⟨rfl,rfl⟩)
   ·exact absurd (List.map_eq_nil_iff.1 e) lI
   (refine ai ?_)
   refine IK [11] [] pY rfl rfl (ak.cons (ah.sle (aaR ..) rfl) (ak.cons (ah.pe rfl) ak.nil)) ?_
   rintro r H ⟨rest,rfl,rfl⟩
   (refine ai ?_)
   refine gR [11] (wJ rest) rfl rfl (ak.cons (ah.sl rfl (.inl rfl)) ak.nil) ?_
   rintro r H ⟨rfl,rfl⟩
   (refine ai ?_)
   refine dr (λhb=>?_) (λhb=>?_)
   ·have bg:iy d.n l≠[]:=λe=>by
     rw[e]at cj
     have h1:(0:Int)<((l.filter λs=>decide (s≠d.n)).length:Nat):=abG hb
     rw[←cj]at h1;simp at h1
    rw[aaG bg]at gB
    (refine ai ?_)
    refine⟨_,kX rest,dR,lz.kill ?_⟩
    (refine ai ?_)
    refine And.intro (uz (n:=o.length) (by omega)) ?_
    (refine ai ?_)
    refine⟨(j+1,o++[iy d.n l]),⟨h,?_⟩,(show p.members.length - (j+1)<p.members.length - j by omega),⟨rfl,rfl⟩,?_,?_⟩
    ·show o++[iy d.n l]=lV d.n p.members (j+1)
     rw[gB,ho]
    ·(refine dE ?_ ?_)
     all_goals first|exact cL (by omega)|exact ah.sle (Mh o (iy d.n l)) rfl
    ·(refine a8 ?_)
     all_goals first|rfl|exact Mi o (iy d.n l)
   ·have bg:iy d.n l=[]:=by
     refine aa1 ?_
     have h1:¬(0:Int)<((l.filter λs=>decide (s≠d.n)).length:Nat):=acW hb
     rw[cj];omega
    rw[aaF (λh=>h bg)]at gB
    (refine ai ?_)
    refine⟨(j+1,o),⟨h,?_⟩,(show p.members.length - (j+1)<p.members.length - j by omega),⟨rfl,rfl⟩,?_,?_⟩
    ·show o=lV d.n p.members (j+1)
     rw[gB,abF];exact ho
    ·(refine a8 ?_)
     exact cL (by omega)
    ·(exact cI)
     all_goals first|rfl
  ·have gC:j=p.members.length:=by have h:((p.members.length:Nat):Int)≤j:=h;omega
   subst gC
   have ft:∀b∈o,b≠[]∧∀s∈b,s<d.n+1:=λb hb=>by
    rw[ho]at hb
    obtain⟨hb,bg⟩:=abq.1 hb
    obtain⟨l,hl,rfl⟩:=aa3.1 hb
    obtain⟨i,hi⟩:=acq.1 (acx hl)
    exact⟨abG bg,λs hs=>hp.wf.lt hi s (abq.1 ((EW _).mem_iff.1 hs)).1⟩
   have kR:=Xg o (λb hb=>(ft b hb).1) (λb hb=>by
    obtain⟨h1,h2⟩:=ft b hb
    have:=h2 (b.headD 0) (aaY (EU h1))
    omega) (by omega)
   have uq:∀R:List (List Nat),R.Perm o→R.Pairwise (λa b=>a.headD 0≤b.headD 0)→R=gq d:=λR h1 h2=>by
    have e:gq d=lS d.go d.tg C d.n:=by unfold gq;rw[hC,Int.toNat_natCast]
    rw[e]
    refine V1 hp h0 cr (srt:=uE) EW Xv ?_ h2
    rw[ho]at h1
    unfold lV at h1
    rw[aa4]at h1
    exact h1
   (refine ai ?_)
   refine gR [10] kR rfl rfl (ak.cons (ah.sl rfl (.inl rfl)) (ak.cons (ah.pe rfl) ak.nil)) ?_
   rintro r H ⟨rfl,R,h1,h2,rfl⟩
   have qi:=h1.length_eq
   obtain rfl:=uq R h1 h2
   (refine ai ?_)
   refine⟨.p (.au 1 ((gq d).map bJ) none),[],⟨rfl,rfl⟩,⟨rfl,rfl⟩,?_,.nil _⟩
   have di:((gq d).map bJ).length=o.length:=by rw[aaR];exact qi
   exact ah.dI rfl rfl (eF (aby di)) di (.refl _)
def iS(B:List (List Nat))(n:Nat)(P:Nat→Bool):List Int:=(List.range n).map λs=>if P s=true then(eS B s:Int)else 0
theorem xd(B:List (List Nat))(n:Nat)(P:Nat→Bool):(iS B n P).length=n:=by simp[iS]
theorem Ai{B:List (List Nat)}{n:Nat}{P:Nat→Bool}{s:Nat}(h:s<n):(iS B n P)[s]? =some (if P s=true then(eS B s:Int)else 0):=by
 unfold iS;rw[aaM,abo h];rfl
theorem Mm{B:List (List Nat)}{n:Nat}{P P':Nat→Bool}(h:∀s,s<n→P s=P' s):iS B n P=iS B n P':=by
 unfold iS
 exact abS λs hs=>by rw[h s (aaT.1 hs)]
theorem XA{B:List (List Nat)}{n:Nat}{P P':Nat→Bool}{s k:Nat}(hs:s<n)(hk:eS B s=k)(h:∀t,t<n→P' t=(P t||decide (t=s))):(ints (iS B n P)).set s [i64 (k:Nat)]=ints (iS B n P'):=by
 rw[ints_set]
 congr 1
 refine abj λt=>?_
 rw[aaZ,xd]
 by_cases ht:t<n
 ·rw[Ai ht,Ai ht,h t ht]
  by_cases e:s=t
  ·subst e;rw[aaG rfl,aaG hs,hk];simp
  ·rw[aaF e]
   have e':¬t=s:=λh=>e h.symm
   simp[e']
 ·have e:¬s=t:=by omega
  rw[aaF e,aaS (by rw[xd];omega),aaS (by rw[xd];omega)]
theorem XB(B:List (List Nat))(n:Nat)(P:Nat→Bool)(h:∀s,P s=false):ints (iS B n P)=List.replicate n [i64 0]:=by
 unfold ints iS
 rw[abE,show(ck∘λs=>if P s=true then(eS B s:Int)else 0)=λ_=>[i64 0] from by funext s;simp[h s,ck],ac1,abQ]
theorem XC{n:Nat}{B:List (List Nat)}(hP:pg n B){k:Nat}{l:List Nat}(hl:B[k]? =some l){s:Nat}(hs:s<n):(decide (eS B s<k)||decide (s∈l.take l.length))=decide (eS B s<k+1):=by
 rw[aa4]
 by_cases h:s∈l
 ·have:=hP.eq hl h
  rw[aa5 h,Bool.or_true,aa5 (by omega)]
 ·have h2:eS B s≠k:=λe=>by
   obtain⟨_,m,hm,lR⟩:=hP.of hs
   rw[e,hl]at hm;cases hm
   exact h lR
  rw[aa_ h,Bool.or_false]
  by_cases h3:eS B s<k
  ·rw[aa5 h3,aa5 (by omega)]
  ·rw[aa_ h3,aa_ (by omega)]
def lW(d:aw)(B:List (List Nat))(k:Nat):List (List Int):=(B.take k).map λl=>(b_ d (l.headD 0)).map (jU B)
def lX(d:aw)(B:List (List Nat))(k:Nat):List Int:=(B.take k).map λl=>d.tag.getD (l.headD 0) 0
def jG(B:List (List Nat))(r:List Int)(c:Nat):List Int:=(r.take c).map (jU B)++r.drop c
theorem XD(B:List (List Nat))(r:List Int):jG B r 0=r:=by simp[jG]
theorem EX(B:List (List Nat))(r:List Int):jG B r r.length=r.map (jU B):=by simp[jG]
theorem XE(B:List (List Nat))(r:List Int){c:Nat}(h:c≤r.length):(jG B r c).length=r.length:=by simp[jG];omega
theorem EY{B:List (List Nat)}{r:List Int}{c:Nat}{x:Int}(h:r[c]? =some x):(jG B r c)[c]? =some x:=by
 have hl:=(aaK.1 h).1
 unfold jG
 rw[abe (by simp;omega)]
 simp only[aaR,abB]
 rw[show c - min c r.length=0 by omega,abx,Nat.add_zero,h]
theorem Mn{B:List (List Nat)}{r:List Int}{c:Nat}{x:Int}(h:r[c]? =some x):(jG B r c).set c (jU B x)=jG B r (c+1):=by
 have hl:=(aaK.1 h).1
 unfold jG
 have e:r.drop c=x::r.drop (c+1):=wm h
 rw[e,abp,h,abb,abi]
 have hlen:((r.take c).map (jU B)).length=c:=by simp;omega
 rw[adL _ _ (by rw[hlen];exact aaJ _),hlen,acw]
 rfl
theorem XF{B:List (List Nat)}{r:List Int}{c:Nat}{x:Int}(h:r[c]? =some x)(hx:jU B x=x):jG B r c=jG B r (c+1):=by
 rw[←Mn h,hx]
 refine abj λi=>?_
 rw[aaZ]
 split
 ·rename_i e
  subst e
  rw[EY h,aaG (aaK.1 (EY h)).1]
 ·rfl
theorem XG(d:aw)(hd:d.Fit)(hm:d.may=true):PF Tryz.prog 101 [d.pv] (jn d (gq d)).pv:=by
 have hn:d.n≤600:=(aw.fL hm).1
 have cd:(d.next.map aQ).length=d.n:=by simp[aw.n]
 have dH:=bR d.tag
 have o4:d.tag.length=d.n:=(aw.fL hm).2.1
 have dL:=Ml d hd hm
 have hP:pg d.n (gq d):=z6 ..
 have XH:1≤d.cls∧d.cls≤256:=by
  have:=sc hm
  unfold cJ at this
  simp only[aaQ,abv]at this
  have h1:=this.2
  have h2:=oO (nameOf d.o)
  have h3:=wj (nameOf d.o) (b:=0) (by omega)
  omega
 generalize gq d=B at*
 have bM:(0≤(((d.next.map aQ).length:Nat):Int)∧(((d.next.map aQ).length:Nat):Int)≤(((d.next.map aQ).length:Nat):Int)∧(((d.next.map aQ).length:Nat):Int)*(8:Nat)≤(cK:Nat)∧(((d.next.map aQ).length:Nat):Int)≤(cK:Nat)):=by
  have e2:cK=70368744177664:=rfl
  rw[e2];omega
 have LY:=hP.len
 have Mo:(B.map bJ).length=B.length:=aaR ..
 refine aY [[1,2,3,4,21,22,23],[1,2,3,4,5,21,22,23,28,29,30],[1,2,3,9,43,44,45],[1,2,3,9,11,12,43,44,45,57,58,59]] [[2,5,8,11,14,17,20,25,26],[2,5,8,11,14,17,20,23,26,30,34,35,40]] ?_
 (refine ai ?_)
 refine⟨_,d.rest.map .p,bO (rest:=d.rest),⟨rfl,bH _,rfl⟩,?_⟩
 (refine ai ?_)
 refine aH dL rfl rfl ?_
 (refine ai ?_)
 refine⟨[],Nat,λk=>⟨[(1,.ptr 0 259 0 0),(2,.ptr 1 259 0 0),(3,.sl 2 1 0 d.n none),(4,.p (.au 1 (B.map bJ) none)),(21,.p (.au 1 (B.map bJ) none)),(22,.p (i64 B.length)),(23,.p (i64 k))],
  [.ax 256 (aO d.o) (d.rest.map .p),.ax 256 fV iQ,.pr 1 (ints (iS B d.n λs=>decide (eS B s<k)))]⟩,
  λk=>k≤B.length,λk=>B.length - k,⟨0,aaP _,⟨rfl,rfl⟩,?_,?_⟩,λk hk=>?_⟩
 ·(((repeat'(first|exact aA.nil|exact ar.nil _|refine aA.cons ?_ ?_|refine ar.cons ?_ ?_|exact ah.ptr rfl|exact ah.sl rfl (.inl rfl)|exact ah.aF rfl|exact ah.mpr rfl|refine ah.pe ?_|refine ah.aD ?_|refine ah.agg ?_|refine aj.pe ?_|refine aj.aI ?_|refine aj.aL ?_|refine aj.aK ?_ ?_|refine aj.mx ?_|exact ak.nil|refine ah.fn ?_ ?_|refine ak.cons ?_ ?_|exact ah.aE _|exact aj.dead _))<;>(try with_reducible rfl)))
  all_goals first|rfl|exact ah.sle cd rfl|exact aaH (λn:Nat=>i64 (n:Int)) Mo
 ·(((repeat'(first|exact aA.nil|exact ar.nil _|refine aA.cons ?_ ?_|refine ar.cons ?_ ?_|exact ah.ptr rfl|exact ah.sl rfl (.inl rfl)|exact ah.aF rfl|exact ah.mpr rfl|refine ah.pe ?_|refine ah.aD ?_|refine ah.agg ?_|refine aj.pe ?_|refine aj.aI ?_|refine aj.aL ?_|refine aj.aK ?_ ?_|refine aj.mx ?_|exact ak.nil|refine ah.fn ?_ ?_|refine ak.cons ?_ ?_|exact ah.aE _|exact aj.dead _))<;>(try with_reducible rfl)))
  all_goals first|rfl|(rw[XB _ _ _ (λs=>aa_ (ab_ _)),←cd];rfl)
 ·have hk:k≤B.length:=hk
  by_cases h:k<B.length
  ·obtain⟨l,hl⟩:∃l,B[k]? =some l:=⟨_,aaI h⟩
   have gQ:(B.map bJ)[(k:Int).toNat]? =some (bJ l):=by rw[Int.toNat_natCast,aaM,hl];rfl
   have eJ:=aaY hl
   have dR:(aG l).length=l.length:=cQ _
   (refine ai ?_)
   (refine aB ?_)
   refine aJ gQ ?_
   (refine ai ?_)
   refine⟨[],Nat,λi=>⟨[(1,.ptr 0 259 0 0),(2,.ptr 1 259 0 0),(3,.sl 2 1 0 d.n none),(4,.p (.au 1 (B.map bJ) none)),(5,.p (i64 k)),(21,.p (.au 1 (B.map bJ) none)),(22,.p (i64 B.length)),(23,.p (i64 k)),(28,.p (.au 1 (aG l) none)),(29,.p (i64 l.length)),(30,.p (i64 i))],
    [.ax 256 (aO d.o) (d.rest.map .p),.ax 256 fV iQ,.pr 1 (ints (iS B d.n λs=>decide (eS B s<k)||decide (s∈l.take i)))]⟩,
    λi=>i≤l.length,λi=>l.length - i,⟨0,aaP _,⟨rfl,rfl⟩,?_,?_⟩,λi hi=>?_⟩
   ·(refine dE ?_ ?_)
    all_goals first|rfl|exact aaH (λn:Nat=>i64 (n:Int)) dR
   ·(refine a8 ?_)
    all_goals first|exact aaH ints (Mm λs _=>by simp)
   ·have hi:i≤l.length:=hi
    by_cases cz:i<l.length
    ·obtain⟨s,hs⟩:∃s,l[i]? =some s:=⟨_,aaI cz⟩
     have lR:=aaY hs
     have oY:=hP.lt l eJ s lR
     have rR:(aG l)[(i:Int).toNat]? =some [i64 (s:Nat)]:=by rw[Int.toNat_natCast];exact kz hs
     have iw:(ints (iS B d.n λs=>decide (eS B s<k)||decide (s∈l.take i)))[0+(s:Int).toNat]? =some [i64 (if(decide (eS B s<k)||decide (s∈l.take i))=true then(eS B s:Int)else 0)]:=by
      rw[aaL,Int.toNat_natCast];exact c7 (Ai oY)
     have ns:=XA (B:=B) (n:=d.n) (P:=λs=>decide (eS B s<k)||decide (s∈l.take i)) (P':=λs=>decide (eS B s<k)||decide (s∈l.take (i+1))) oY (hP.eq hl lR) (λt _=>by
      rw[abp,hs,Bool.or_assoc]
      congr 1
      by_cases e1:t∈l.take i<;>by_cases e2:t=s<;>simp[e1,e2])
     have iF:(ints (iS B d.n λs=>decide (eS B s<k)||decide (s∈l.take i))).length=d.n:=by rw[bR,xd]
     (refine ai ?_)
     (refine aB ?_)
     refine aJ rR ?_
     (refine ai ?_)
     (refine aB ?_)
     refine⟨_,iw,rfl,aaJ _,?_⟩
     (refine ai ?_)
     refine⟨i+1,cz,(show l.length - (i+1)<l.length - i by omega),⟨rfl,rfl⟩,?_,?_⟩
     ·(refine a8 ?_)
      all_goals first|rfl|exact cL (by have:=hP.ll l eJ;omega)
     ·(refine a8 ?_)
      all_goals first|(rw[aaL,Int.toNat_natCast];exact ns)
    ·have br:i=l.length:=by omega
     subst br
     (refine ai ?_)
     (refine aB ?_)
     refine⟨k+1,h,(show B.length - (k+1)<B.length - k by omega),⟨rfl,rfl⟩,?_,?_⟩
     ·(refine a8 ?_)
      all_goals first|rfl|exact cL (by omega)
     ·(refine a8 ?_)
      all_goals first|exact aaH ints (Mm λs hs=>XC hP hl hs)
  ·have kY:k=B.length:=by omega
   subst kY
   have Mp:∀s,s<d.n→(iS B d.n λs=>decide (eS B s<B.length))[s]? =some (eS B s:Int):=λs hs=>by
    rw[Ai hs,aaG (aa5 (hP.of hs).1)]
   have XI:(ints (iS B d.n λs=>decide (eS B s<B.length))).length=d.n:=by rw[bR,xd]
   obtain⟨EZ,Mq⟩:∃z,z=iS B d.n λs=>decide (eS B s<B.length):=⟨_,rfl⟩
   rw[←Mq]at Mp XI
   (refine ai ?_)
   (refine aB ?_)
   refine⟨aO d.o,[.p (i64 d.cls)],bO (rest:=[i64 d.cls]),⟨rfl,bH _,rfl,aa6 rfl⟩,?_⟩
   (refine ai ?_)
   refine⟨aO d.o,[.p (i64 d.cls),.p bC,.p bC],bO (rest:=[i64 d.cls,bC,bC]),⟨rfl,rfl,bH _,rfl,aa6 rfl⟩,?_⟩
   (refine ai ?_)
   refine⟨[.cell 3 257 1,.cell 3 258 1],Nat,λk=>⟨[(1,.ptr 0 259 0 0),(2,.ptr 1 259 0 0),(3,.sl 2 1 0 d.n none),(9,.ptr 3 259 0 0),(43,.p (.au 1 (B.map bJ) none)),(44,.p (i64 B.length)),(45,.p (i64 k))],
    [.ax 256 (aO d.o) (d.rest.map .p),.ax 256 fV iQ,.pr 1 (ints EZ),.ax 256 (aO d.o) [.p (i64 d.cls),.sl 4 1 0 k none,.sl 5 1 0 k none],.pr 1 ((lW d B k).map aQ),.pr 1 (ints (lX d B k))]⟩,
    λk=>k≤B.length,λk=>B.length - k,⟨0,aaP _,⟨rfl,rfl⟩,?_,?_⟩,λk hk=>?_⟩
   ·(refine dE ?_ ?_)
    all_goals first|rfl|exact aaH (λn:Nat=>i64 (n:Int)) Mo
   ·(refine dE ?_ ?_)
    all_goals first|rfl|exact aaH ints Mq.symm
   ·have hk:k≤B.length:=hk
    have qi:((lW d B k).map aQ).length=k:=by simp[lW];omega
    have E1:(ints (lX d B k)).length=k:=by rw[bR];simp[lX];omega
    by_cases h:k<B.length
    ·obtain⟨l,hl⟩:∃l,B[k]? =some l:=⟨_,aaI h⟩
     have gQ:(B.map bJ)[(k:Int).toNat]? =some (bJ l):=by rw[Int.toNat_natCast,aaM,hl];rfl
     have eJ:=aaY hl
     have bg:=hP.ne l eJ
     have Mr:=EU bg
     have Ms:=hP.lt l eJ _ (aaY Mr)
     have pH:(aG l)[(0:Int).toNat]? =some [i64 ((l.headD 0:Nat):Int)]:=kz Mr
     obtain⟨r,hr⟩:∃r,d.next[l.headD 0]? =some r:=⟨_,aaI Ms⟩
     have er:b_ d (l.headD 0)=r:=by unfold b_;rw[aaN,hr];rfl
     have b7:(d.next.map aQ)[((l.headD 0:Nat):Int).toNat]? =some [.au 1 (ints r) none]:=by rw[Int.toNat_natCast,aaM,hr];rfl
     have gm:(ints d.tag)[((l.headD 0:Nat):Int).toNat]? =some [i64 (d.tag.getD (l.headD 0) 0)]:=by
      rw[Int.toNat_natCast];refine c7 ?_;rw[aaN,aaI (by omega)];rfl
     have bm:=nX hm (show l.headD 0<d.next.length from Ms)
     rw[er]at bm
     have b0:=Dt r none (hd.row r (cM hr))
     have cq:=bm.1
     have XJ:lW d B (k+1)=lW d B k++[r.map (jU B)]:=by unfold lW;rw[abp,hl,abb,←er];rfl
     have XK:lX d B (k+1)=lX d B k++[d.tag.getD (l.headD 0) 0]:=by unfold lX;rw[abp,hl,abb];rfl
     have dR:(aG l).length=l.length:=cQ _
     have Ut:0<l.length:=acB.2 bg
     generalize l.headD 0=G3 at*
     (refine ai ?_)
     (refine aB ?_)
     refine aJ gQ ?_
     (refine ai ?_)
     (refine aB ?_)
     refine aJ pH ?_
     (refine ai ?_)
     (refine aB ?_)
     refine aJ b7 ?_
     (refine ai ?_)
     refine rF (ps:=[.au 1 (ints r) none]) b0 rfl rfl ?_
     rintro rr H (⟨rfl,rfl,e⟩|⟨rfl,rfl⟩)
     ·rw[e]at bm;have:=bm.1;simp at this;omega
     (refine ai ?_)
     refine⟨[],Nat,λc=>⟨[(1,.ptr 0 259 0 0),(2,.ptr 1 259 0 0),(3,.sl 2 1 0 d.n none),(9,.ptr 3 259 0 0),(11,.p (.au 1 (aG l) none)),(12,.sl 6 1 0 r.length none),(43,.p (.au 1 (B.map bJ) none)),(44,.p (i64 B.length)),(45,.p (i64 k)),(57,.sl 6 1 0 r.length none),(58,.p (i64 r.length)),(59,.p (i64 c))],
      [.ax 256 (aO d.o) (d.rest.map .p),.ax 256 fV iQ,.pr 1 (ints EZ),.ax 256 (aO d.o) [.p (i64 d.cls),.sl 4 1 0 k none,.sl 5 1 0 k none],.pr 1 ((lW d B k).map aQ),.pr 1 (ints (lX d B k)),.pr 1 (ints (jG B r c))]⟩,
      λc=>c≤r.length,λc=>r.length - c,⟨0,aaP _,⟨rfl,rfl⟩,?_,?_⟩,λc hc=>?_⟩
     ·(refine a8 ?_)
      all_goals first|rfl
     ·(refine a8 ?_)
      all_goals first|rfl|(rw[XD];done)
     ·have hc:c≤r.length:=hc
      have E2:(ints (jG B r c)).length=r.length:=by rw[bR];exact XE B r hc
      by_cases jO:c<r.length
      ·obtain⟨x,hx⟩:∃x,r[c]? =some x:=⟨_,aaI jO⟩
       have w8:=bm.2.2 x (aaY hx)
       have fW:(ints (jG B r c))[0+(c:Int).toNat]? =some [i64 x]:=by rw[aaL,Int.toNat_natCast];exact c7 (EY hx)
       by_cases fJ:0≤x
       ·obtain⟨y,rfl⟩:∃y:Nat,x=(y:Int):=⟨x.toNat,by omega⟩
        have XL:y<d.n:=adT.1 w8.2
        have DO:(ints EZ)[0+(y:Int).toNat]? =some [i64 ((eS B y:Nat):Int)]:=by rw[aaL,Int.toNat_natCast];exact c7 (Mp y XL)
        have aU:=Mn (B:=B) hx
        have eK:jU B (y:Int)=((eS B y:Nat):Int):=by unfold jU;rw[aaG fJ,Int.toNat_natCast]
        rw[eK]at aU
        (refine ai ?_)
        (refine aB ?_)
        refine aJ fW ?_
        (refine ai ?_)
        (refine aB ?_)
        refine aJ DO ?_
        (refine ai ?_)
        refine⟨_,fW,rfl,aaJ _,?_⟩
        (refine ai ?_)
        refine⟨c+1,jO,(show r.length - (c+1)<r.length - c by omega),⟨rfl,rfl⟩,?_,?_⟩
        ·(refine a8 ?_)
         all_goals first|rfl|exact cL (by omega)
        ·(refine a8 ?_)
         all_goals first|(rw[aaL,Int.toNat_natCast,←aU,←ints_set];rfl)
       ·have aU:=XF (B:=B) hx (by unfold jU;rw[aaF fJ])
        (refine ai ?_)
        (refine aB ?_)
        refine aJ fW ?_
        (refine ai ?_)
        (refine aB ?_)
        refine⟨c+1,jO,(show r.length - (c+1)<r.length - c by omega),⟨rfl,rfl⟩,?_,?_⟩
        ·(refine a8 ?_)
         all_goals first|rfl|exact cL (by omega)
        ·(refine a8 ?_)
         all_goals first|(rw[←aU];done)
      ·have lN:c=r.length:=by omega
       subst lN
       rw[EX]at E2
       (refine ai ?_)
       (refine aB ?_)
       refine⟨ints (r.map (jU B)),(eF (aby (by rw[EX];exact E2))).trans (by rw[EX];rfl),E2,lz.kill ?_⟩
       (refine ai ?_)
       refine And.intro (uz (n:=k) (by omega)) ?_
       (refine ai ?_)
       refine aJ pH ?_
       (refine ai ?_)
       (refine aB ?_)
       refine aJ gm ?_
       (refine ai ?_)
       refine And.intro (lU (n:=k) (by omega)) ?_
       (refine ai ?_)
       refine⟨k+1,h,(show B.length - (k+1)<B.length - k by omega),⟨rfl,rfl⟩,?_,?_⟩
       ·(refine a8 ?_)
        all_goals first|rfl|exact cL (by omega)
       ·(refine dE ?_ ?_)
        all_goals first|rfl|(rw[XJ,abb];rfl)|(rw[XK,rP];rfl)
    ·have kY:k=B.length:=by omega
     subst kY
     (refine ai ?_)
     (refine aB ?_)
     refine⟨_,_,rfl,⟨rfl,rfl,bH _,rfl,aaJ _⟩,?_⟩
     (refine ai ?_)
     refine⟨.p (jn d B).pv,[],⟨rfl,rfl⟩,⟨rfl,rfl⟩,?_,ar.nil _⟩
     have e1:lW d B B.length=B.map λl=>(b_ d (l.headD 0)).map (jU B):=by unfold lW;rw[aa4]
     have e2:lX d B B.length=B.map λl=>d.tag.getD (l.headD 0) 0:=by unfold lX;rw[aa4]
     have e3:jn d B=⟨d.o,d.cls,lW d B B.length,lX d B B.length⟩:=by rw[e1,e2];rfl
     rw[e3]
     exact ah.qA (wI (ys:=[i64 d.cls,.au 1 ((lW d B B.length).map aQ) none,.au 1 (ints (lX d B B.length)) none]) (ak.cons (ah.pe rfl)
      (ak.cons (ah.dI (rs:=(lW d B B.length).map aQ) rfl rfl (eF (aby qi)) qi (.refl _))
      (ak.cons (ah.dI (rs:=ints (lX d B B.length)) rfl rfl (eF (aby E1)) E1 (.refl _)) ak.nil))) (aO d.o))
def uG(p:List Int→Bool)(rows:List (List Int)):Int:=match rows.findIdx? p with
 |some i=>(i:Int)
 |none=> -1
theorem kq{rows:List (List Int)}{i:Nat}{r:List Int}(h:rows[i]? =some r):(rows.map aQ)[i]? =some [.au 1 (ints r) none]:=by rw[aaM,h];rfl
theorem XM(zs:List (List Int))(F:Nat)(bu:List PV)(p:List Int→Bool)(hz:zs.length<2^60)(hF:∀z∈zs,PF Tryz.prog F (.au 1 (ints z) none::bu) (.b (p z))):
 PF Tryz.prog 221 [.au 1 (zs.map aQ) none,.fn F [] bu] (i64 (uG p zs)):=by
 have cz:(zs.map aQ).length=zs.length:=aaR ..
 refine aY [[0,1,7,8]] [] ?_
 (refine ai ?_)
 refine⟨[],Nat,λi=>⟨[(0,.p (.au 1 (zs.map aQ) none)),(1,.p (.fn F [] bu)),(7,.p (i64 zs.length)),(8,.p (i64 i))],[]⟩,
  λi=>i≤zs.length∧∀j z,j<i→zs[j]? =some z→p z=false,λi=>zs.length - i,⟨0,⟨aaP _,λj z h _=>absurd h (ab_ _)⟩,⟨rfl,rfl⟩,?_,?_⟩,λi hi=>?_⟩
 ·(refine dE ?_ ?_)
  all_goals first|rfl|exact aaH (λn:Nat=>i64 (n:Int)) cz
 ·(exact cI)
 ·obtain⟨hi,cO⟩:=hi
  by_cases br:i=zs.length
  ·have e:uG p zs= -1:=by
    have:zs.findIdx? p=none:=by
     rw[acd]
     intro z hz
     obtain⟨j,hj,rfl⟩:=acY.1 hz
     exact cO j _ (by omega) (aaI hj)
    unfold uG;rw[this]
   subst br
   (refine ai ?_)
   (refine aB ?_)
   exact aM rfl rfl (aaH (PV.int .i64) e.symm)
  ·have aq:i<zs.length:=by omega
   obtain⟨z,ik⟩:∃z,zs[i]? =some z:=⟨_,aaI aq⟩
   have hg:=kq ik
   have nP:=hF z (cM ik)
   (refine ai ?_)
   (refine aB ?_)
   refine⟨_,hg,?_⟩
   (refine ai ?_)
   refine aH nP rO rfl ?_
   (refine ai ?_)
   refine dr (λhb=>?_) (λhb=>?_)
   ·(refine ai ?_)
    refine aM rfl rfl (aaH (PV.int .i64) ?_)
    have:zs.findIdx? p=some i:=by
     rw[acb]
     refine⟨aq,?_,λj hj=>?_⟩
     ·rw[(aaK.1 ik).2];exact hb
     ·rw[cO j _ hj (aaI (by omega))];simp
    unfold uG;rw[this]
   ·(refine ai ?_)
    refine⟨i+1,⟨aq,λj z' hj jR=>?_⟩,by show zs.length - (i+1)<zs.length - i;omega,⟨rfl,rfl⟩,?_,?_⟩
    ·by_cases e:j=i
     ·subst e;rw[ik]at jR;cases jR;simpa using hb
     ·exact cO j z' (by omega) jR
    ·(refine a8 ?_)
     all_goals first|rfl|exact cL (by omega)
    ·(exact cI)
theorem XN(p:List Int→Bool)(zs:List (List Int)):decide (0≤uG p zs)=zs.any p:=by
 unfold uG
 cases h:zs.findIdx? p with
 |none=>
  rw[acd]at h
  have:zs.any p=false:=by rw[abK];simpa using h
  rw[this];decide
 |some i=>
  have:zs.any p=true:=by
   obtain⟨h1,h2,_⟩:=acb.1 h
   rw[ab3];exact⟨_,abA h1,h2⟩
  rw[this];simp
theorem XO(zs:List (List Int))(F:Nat)(bu:List PV)(p:List Int→Bool)(hz:zs.length<2^60)(hF:∀z∈zs,PF Tryz.prog F (.au 1 (ints z) none::bu) (.b (p z))):
 PF Tryz.prog 165 [.au 1 (zs.map aQ) none,.fn F [] bu] (.b (zs.any p)):=by
 refine aY [] [] ?_
 (refine ai ?_)
 refine aH (XM zs F bu p hz hF) rfl rfl ?_
 (refine ai ?_)
 exact aM rfl rfl (aaH PV.b (XN p zs))
theorem XP(a b:Int):intCm .neq a b=decide (a≠b):=by
 show(a !=b)=_
 by_cases h:a=b<;>simp[h]
theorem XQ(r:List Int)(k c:Nat)(hk:k<r.length)(hc:c<r.length):PF Tryz.prog 166 [.au 1 (ints r) none,.b5 [i64 k] 0,.b5 [i64 c] 0] (.b (decide (r.getD k 0≠r.getD c 0))):=by
 have cz:=bR r
 have hg:∀j:Nat,j<r.length→(ints r)[(j:Int).toNat]? =some [i64 (r.getD j 0)]:=λj hj=>by
  rw[Int.toNat_natCast];refine c7 ?_;rw[aaN,aaI hj];rfl
 refine aY [] [[2,5,8,11,14,17,20,23,26,29]] ?_
 (refine ai ?_)
 (refine aB ?_)
 refine aJ (hg k hk) ?_
 (refine ai ?_)
 (refine aB ?_)
 refine aJ (hg c hc) ?_
 (refine ai ?_)
 exact aM rfl rfl (aaH PV.b (XP _ _))
theorem XR(d:aw)(hd:d.Fit)(hm:d.may=true)(k c:Nat)(hk:(k:Int)<d.cls)(hc:(c:Int)<d.cls):PF Tryz.prog 164 [i64 k,.b5 (aO d.o++d.rest) 0,.b5 [i64 c] 0] (.b (decide (bE d k=bE d c))):=by
 have XS:=XO d.next 166 [.b5 [i64 k] 0,.b5 [i64 c] 0] (λr=>decide (r.getD k 0≠r.getD c 0)) (by have:=hd.next;omega) (λr hr=>by
  have bm:=(aw.r6 hm).row r hr
  exact XQ r k c (by omega) (by omega))
 have he:(!(d.next.any λr=>decide (r.getD k 0≠r.getD c 0)))=decide (bE d k=bE d c):=by
  rw[abn,abJ,abK,aa7]
  unfold bE
  constructor
  ·intro h
   exact abS λr hr=>by simpa using h r hr
  ·intro h r hr
   have:=List.map_inj_left.1 h r hr
   simpa using this
 refine aY [] [] ?_
 (refine ai ?_)
 refine⟨.au 1 (d.next.map aQ) none,Mg d,?_⟩
 (refine ai ?_)
 refine nL XS rfl (ak.cons (ah.pe rfl) (ak.cons (ah.mZ ak.nil (ak.cons (ah.n3 (row:=[i64 k]) rfl rfl) (ak.cons (ah.pe rfl) ak.nil))) ak.nil)) ?_
 (refine ai ?_)
 exact aM rfl rfl (aaH PV.b he)
def fy(d:aw)(c:Nat):List Nat:=(List.range c).filter λa=>decide (¬bE d a∈uniq (bE d) a)
theorem Aj(d:aw):∀c,(fy d c).map (bE d)=uniq (bE d) c
 |0=>by rw[mE];rfl
 |c+1=>by
  have ih:=Aj d c
  unfold fy at*
  rw[abH,abD,abb,ih,qe]
  unfold enter
  by_cases h:bE d c∈uniq (bE d) c<;>simp[h]
theorem Mt{d:aw}{c:Nat}(h:bE d c∈uniq (bE d) c):fy d (c+1)=fy d c:=by
 unfold fy;rw[abH,abD];simp[h]
theorem Mu{d:aw}{c:Nat}(h:¬bE d c∈uniq (bE d) c):fy d (c+1)=fy d c++[c]:=by
 unfold fy;rw[abH,abD];simp[h]
theorem XT{d:aw}{c a:Nat}(h:a∈fy d c):a<c:=aaT.1 (abq.1 h).1
theorem XU(d:aw)(c:Nat):(fy d c).length≤c:=aa2 (abO _ _) (by simp)
theorem Mv{κ:Type}[DecidableEq κ](f:Nat→κ)(a:κ):∀R:List Nat,idxI (λz=>decide (f z.toNat=a)) (R.map λn:Nat=>(n:Int))=if a∈R.map f then(ix (R.map f) a:Int)else -1
 |[]=>by simp[idxI]
 |r::R=>by
  have ih:=Mv f a R
  unfold idxI at ih ⊢
  rw[abr,List.findIdx?_cons,abr,Int.toNat_natCast]
  by_cases h:f r=a
  ·rw[aa5 h,aaG rfl]
   rw[aaG (by simp[h]),zA,aaG h.symm]
  ·rw[aa_ h]
   simp only[abP,abm]
   have h':¬a=f r:=λe=>h e.symm
   cases hf:(R.map λn:Nat=>(n:Int)).findIdx? (λz=>decide (f z.toNat=a))with
   |none=>
    rw[hf]at ih
    have hn:¬a∈R.map f:=λhm=>by rw[aaG hm]at ih;simp at ih
    rw[aaF (by simp only[aa0,h',acL];exact hn)];rfl
   |some i=>
    rw[hf]at ih
    have hn:a∈R.map f:=acQ λhm=>by rw[aaF hm]at ih;simp at ih
    rw[aaG hn]at ih
    rw[aaG (by simp only[aa0,h',acL];exact hn),zA,aaF h']
    simp only[Option.map_some]
    simp at ih ⊢
    omega
def n0(U:List (List Int))(s:Nat):List Int:=U.map λuu=>uu.getD s 0
def fN(d:aw)(c s:Nat):List (Bool×List (List PV)):=(List.range d.n).map λa=>(true,ints (n0 (uniq (bE d) c) a++if a<s then[(bE d c).getD a 0]else[]))
theorem Ak(d:aw)(c s:Nat):(fN d c s).length=d.n:=by simp[fN]
theorem Al{d:aw}{c s a:Nat}(h:a<d.n):(fN d c s)[a]? =some (true,ints (n0 (uniq (bE d) c) a++if a<s then[(bE d c).getD a 0]else[])):=by
 unfold fN;rw[aaM,abo h];rfl
theorem XV{d:aw}{c s:Nat}(h:s<d.n):(fN d c s).set s (true,ints (n0 (uniq (bE d) c) s)++[[i64 ((bE d c).getD s 0)]])=fN d c (s+1):=by
 refine abj λa=>?_
 rw[aaZ,Ak]
 by_cases ha:a<d.n
 ·rw[Al ha,Al ha]
  by_cases e:s=a
  ·subst e
   rw[aaG rfl,aaG h,aaG (by omega),rP];rfl
  ·rw[aaF e]
   have e1:(a<s+1)=(a<s):=by apply propext;omega
   simp only[e1]
 ·have e:¬s=a:=by omega
  rw[aaF e,aaS (by rw[Ak];omega),aaS (by rw[Ak];omega)]
theorem XW{d:aw}{c:Nat}(h:¬bE d c∈uniq (bE d) c):fN d c d.n=fN d (c+1) 0:=by
 unfold fN
 refine abS λa ha=>?_
 rw[aaG (aaT.1 ha),aaF (ab_ _),abF,rM h]
 unfold n0
 rw[abb];rfl
theorem XX{d:aw}{c:Nat}(h:bE d c∈uniq (bE d) c):fN d c 0=fN d (c+1) 0:=by
 unfold fN
 rw[tM h];simp
theorem XY{h:List Blk}{fz kp:Nat→Bool}(d:aw)(n:Nat)(hn:n=d.n):aj h fz kp (.pr 1 (List.replicate n [.au 0 [] (some 0)])) (.pn 1 1 (fN d 0 0) none):=by
 subst hn
 refine aj.uU (by simp[fN]) λi j row x h1 h2=>?_
 have hi:i<d.n:=by have:=(aaK.1 h1).1;simpa using this
 have hr:row=[.au 0 [] (some 0)]:=by rw[ab1,aaG hi]at h1;cases h1;rfl
 subst hr
 cases j with
 |succ j=>simp at h2
 |zero=>
  simp at h2
  subst h2
  refine .inl ⟨?_,0,rfl⟩
  rw[show i*1+0=i by omega,Al hi,mE];rfl
def mV(d:aw)(c:Nat):List PV:=[i64 (ix (eH d) (bE d c):Nat)]
theorem XZ(d:aw)(hd:d.Fit)(hm:d.may=true):PF Tryz.prog 100 [d.pv] (ez d).pv:=by
 have hn:d.n≤600:=(aw.fL hm).1
 have cd:(d.next.map aQ).length=d.n:=by simp[aw.n]
 have dH:=bR d.tag
 have o4:d.tag.length=d.n:=(aw.fL hm).2.1
 have XH:1≤d.cls∧d.cls≤256:=by
  have:=sc hm
  unfold cJ at this
  simp only[aaQ,abv]at this
  have h1:=this.2
  have h2:=oO (nameOf d.o)
  have h3:=wj (nameOf d.o) (b:=0) (by omega)
  omega
 obtain⟨N,hN⟩:∃N:Nat,d.cls=(N:Int):=⟨d.cls.toNat,by omega⟩
 have uH:d.cls.toNat=N:=by rw[hN,Int.toNat_natCast]
 have bM:(0≤(((d.next.map aQ).length:Nat):Int)∧(((d.next.map aQ).length:Nat):Int)≤(((d.next.map aQ).length:Nat):Int)∧(((d.next.map aQ).length:Nat):Int)*(24:Nat)≤(cK:Nat)∧(((d.next.map aQ).length:Nat):Int)≤(cK:Nat)):=by
  have e2:cK=70368744177664:=rfl
  rw[e2];omega
 refine aY [[1,2,3,4,5,25,26],[1,2,3,4,5,6,8,25,26,42,43,44],[2,3,5,76,77]] [[2,5,8,11,14,18,20,24,28,0,1,1,24,18,20,28],[2,8,11,14,17,20,23,26,29,32,35,6,39,43,44,49,0,1,1,1,39,6,43,44,49,0,1,1,43,6,44,49]] ?_
 (refine ai ?_)
 refine⟨_,d.rest.map .p,bO (rest:=d.rest),⟨rfl,bH _,rfl⟩,?_⟩
 (refine ai ?_)
 apply once
 ·intro a7
  repeat' (first
   |exact True.intro
   |(refine And.intro bM ?_;(refine cu ?_))
   |(refine⟨_,_,rfl,⟨rfl,rfl,acI,rfl,aaJ _⟩,?_⟩;(refine cu ?_))
   |(refine⟨_,_,rfl,⟨rfl,acI,rfl,aaJ _⟩,?_⟩;(refine cu ?_))
   |(refine fB.via ⟨[(1,.ptr 0 259 0 0),(2,.ptr 1 259 0 0),(3,.ptr 3 259 0 0)],[.ax 256 (aO d.o) (d.rest.map .p),.ax 256 fV iQ,.pr 1 (List.replicate d.n [bC]),.ax 256 fV [.p (i64 0),.sl 2 1 0 d.n none,.p (.au 1 (ints d.tag) none)]]⟩ ?_ ?_;exact a7.of;(refine⟨⟨rfl,rfl⟩,?_,?_⟩<;>(((repeat'(first|exact aA.nil|exact ar.nil _|refine aA.cons ?_ ?_|refine ar.cons ?_ ?_|exact ah.ptr rfl|exact ah.sl rfl (.inl rfl)|exact ah.aF rfl|exact ah.mpr rfl|refine ah.pe ?_|refine ah.aD ?_|refine ah.agg ?_|refine aj.pe ?_|refine aj.aI ?_|refine aj.aL ?_|refine aj.aK ?_ ?_|refine aj.mx ?_|exact ak.nil|refine ah.fn ?_ ?_|refine ak.cons ?_ ?_|exact ah.aE _|exact aj.dead _))<;>(try with_reducible rfl))));all_goals first|rfl|exact ah.sle (by rw[cd];rfl) rfl|exact aaH (λn:Nat=>List.replicate n [bC]) cd)
   |(refine fB.perm [0,1,3,2] ⟨[(1,.ptr 0 259 0 0),(2,.ptr 1 259 0 0),(3,.ptr 3 259 0 0)],[.ax 256 (aO d.o) (d.rest.map .p),.ax 256 fV iQ,.pr 1 (List.replicate d.n [bC]),.ax 256 fV [.p (i64 0),.sl 2 1 0 d.n none,.p (.au 1 (ints d.tag) none)]]⟩ ?_ rfl ?_;exact a7.of;(refine⟨⟨rfl,rfl⟩,?_,?_⟩<;>(((repeat'(first|exact aA.nil|exact ar.nil _|refine aA.cons ?_ ?_|refine ar.cons ?_ ?_|exact ah.ptr rfl|exact ah.sl rfl (.inl rfl)|exact ah.aF rfl|exact ah.mpr rfl|refine ah.pe ?_|refine ah.aD ?_|refine ah.agg ?_|refine aj.pe ?_|refine aj.aI ?_|refine aj.aL ?_|refine aj.aK ?_ ?_|refine aj.mx ?_|exact ak.nil|refine ah.fn ?_ ?_|refine ak.cons ?_ ?_|exact ah.aE _|exact aj.dead _))<;>(try with_reducible rfl))));all_goals first|rfl|exact ah.sle (by rw[cd];rfl) rfl|exact aaH (λn:Nat=>List.replicate n [bC]) cd)
   |(refine And.intro ?_ ?_<;>(refine cu ?_)))
 ·have aax:0≤d.cls∧d.cls≤d.cls∧d.cls*(8:Nat)≤(cK:Nat)∧d.cls≤(cK:Nat):=by
   have e2:cK=70368744177664:=rfl
   rw[e2];omega
  (refine ai ?_)
  refine⟨[.slot 4 1],Nat,λc=>⟨[(1,.ptr 0 259 0 0),(2,.ptr 1 259 0 0),(3,.ptr 3 259 0 0),(4,.sl 5 1 0 (fy d c).length none),(5,.sl 4 1 0 N none),(25,.p (i64 N)),(26,.p (i64 c))],
   [.ax 256 (aO d.o) (d.rest.map .p),.ax 256 fV iQ,.pn 1 1 (fN d c 0) none,.ax 256 fV [.p (i64 0),.sl 2 1 0 d.n none,.p (.au 1 (ints d.tag) none)],.pr 1 (upto N c (mV d) [i64 0]),.pr 1 (aG (fy d c))]⟩,
   λc=>c≤N,λc=>N - c,⟨0,aaP _,⟨rfl,rfl⟩,?_,?_⟩,λc hc=>?_⟩
  ·(((repeat'(first|exact aA.nil|exact ar.nil _|refine aA.cons ?_ ?_|refine ar.cons ?_ ?_|exact ah.ptr rfl|exact ah.sl rfl (.inl rfl)|exact ah.aF rfl|exact ah.mpr rfl|refine ah.pe ?_|refine ah.aD ?_|refine ah.agg ?_|refine aj.pe ?_|refine aj.aI ?_|refine aj.aL ?_|refine aj.aK ?_ ?_|refine aj.mx ?_|exact ak.nil|refine ah.fn ?_ ?_|refine ak.cons ?_ ?_|exact ah.aE _|exact aj.dead _))<;>(try with_reducible rfl)))
   all_goals first|rfl|exact ah.sle uH rfl|exact aaH (λn:Nat=>i64 (n:Int)) uH
  ·(((repeat'(first|exact aA.nil|exact ar.nil _|refine aA.cons ?_ ?_|refine ar.cons ?_ ?_|exact ah.ptr rfl|exact ah.sl rfl (.inl rfl)|exact ah.aF rfl|exact ah.mpr rfl|refine ah.pe ?_|refine ah.aD ?_|refine ah.agg ?_|refine aj.pe ?_|refine aj.aI ?_|refine aj.aL ?_|refine aj.aK ?_ ?_|refine aj.mx ?_|exact ak.nil|refine ah.fn ?_ ?_|refine ak.cons ?_ ?_|exact ah.aE _|exact aj.dead _))<;>(try with_reducible rfl)))
   all_goals first|rfl|exact XY d _ rfl|(rw[uH,tt];done)
  ·have hc:c≤N:=hc
   have r3:(upto N c (mV d) [i64 0]).length=N:=ki ..
   have qi:=XU d c
   by_cases h:c<N
   ·have iu:=y9 ((fy d c).map λn:Nat=>(n:Int)) none 164 [.b5 (aO d.o++d.rest) 0,.b5 [i64 c] 0] (λz=>decide (bE d z.toNat=bE d c)) (by rw[aaR];omega) (λz hz=>by
     obtain⟨a,ha,rfl⟩:=aa3.1 hz
     have:=XT ha
     rw[Int.toNat_natCast]
     exact XR d hd hm a c (by omega) (by omega))
    rw[Mv (bE d) (bE d c),Aj,←uF]at iu
    have iw:(upto N c (mV d) [i64 0])[0+(c:Int).toNat]? =some [i64 0]:=by rw[aaL,Int.toNat_natCast,kn h,aaF (ab9 _)]
    have eX:=mD (f:=mV d) (z:=[i64 0]) h
    have dR:(aG (fy d c)).length=(fy d c).length:=cQ _
    have mN:∀U',U'=uniq (bE d) (c+1)→mV d c=[i64 (ix U' (bE d c):Nat)]:=λU' e=>by
     subst e
     unfold mV eH
     rw[uH,Dn (bE d) (show c+1≤N by omega) (rJ _ _)]
    by_cases a_:bE d c∈uniq (bE d) c
    ·rw[aaG a_]at iu
     have mN:=mN (uniq (bE d) c) (tM a_).symm
     rw[mN]at eX
     (refine ai ?_)
     (refine aB ?_)
     refine nL iu rfl (ak.cons (ah.dI rfl rfl (eF (aby dR)) dR (.refl _)) (ak.cons (ah.mZ ak.nil (ak.cons (ah.sr (row:=d.rest) rfl rfl) (ak.cons (ah.n3 (row:=[i64 c]) rfl rfl) ak.nil))) ak.nil)) ?_
     (refine ai ?_)
     (refine aB ?_)
     refine⟨_,iw,rfl,aaJ _,?_⟩
     (refine ai ?_)
     refine⟨c+1,h,(show N - (c+1)<N - c by omega),⟨rfl,rfl⟩,?_,?_⟩
     ·(refine dE ?_ ?_)
      all_goals first|rfl|exact cL (by omega)|exact ah.sle (by rw[Mt a_]) rfl
     ·(((repeat'(first|exact aA.nil|exact ar.nil _|refine aA.cons ?_ ?_|refine ar.cons ?_ ?_|exact ah.ptr rfl|exact ah.sl rfl (.inl rfl)|exact ah.aF rfl|exact ah.mpr rfl|refine ah.pe ?_|refine ah.aD ?_|refine ah.agg ?_|refine aj.pe ?_|refine aj.aI ?_|refine aj.aL ?_|refine aj.aK ?_ ?_|refine aj.mx ?_|exact ak.nil|refine ah.fn ?_ ?_|refine ak.cons ?_ ?_|exact ah.aE _|exact aj.dead _))<;>(try with_reducible rfl)))
      all_goals first|rfl|exact jo (XX a_)|(rw[aaL,Int.toNat_natCast];exact eX)|(rw[Mt a_];done)
    ·rw[aaF a_]at iu
     (refine ai ?_)
     (refine aB ?_)
     refine nL iu rfl (ak.cons (ah.dI rfl rfl (eF (aby dR)) dR (.refl _)) (ak.cons (ah.mZ ak.nil (ak.cons (ah.sr (row:=d.rest) rfl rfl) (ak.cons (ah.n3 (row:=[i64 c]) rfl rfl) ak.nil))) ak.nil)) ?_
     (refine ai ?_)
     (refine aB ?_)
     refine And.intro (lU (n:=(fy d c).length) (by omega)) ?_
     (refine ai ?_)
     refine⟨[],Nat,λs=>⟨[(1,.ptr 0 259 0 0),(2,.ptr 1 259 0 0),(3,.ptr 3 259 0 0),(4,.sl 5 1 0 (fy d (c+1)).length none),(5,.sl 4 1 0 N none),(6,.ptr 6 1 0 0),(8,.p (i64 (fy d c).length)),(25,.p (i64 N)),(26,.p (i64 c)),(42,.p (.au 1 (d.next.map aQ) none)),(43,.p (i64 d.n)),(44,.p (i64 s))],
      [.ax 256 (aO d.o) (d.rest.map .p),.ax 256 fV iQ,.pn 1 1 (fN d c s) none,.ax 256 fV [.p (i64 0),.sl 2 1 0 d.n none,.p (.au 1 (ints d.tag) none)],.pr 1 (upto N c (mV d) [i64 0]),.pr 1 (aG (fy d (c+1))),.mx [.p (i64 c)]]⟩,
      λs=>s≤d.n,λs=>d.n - s,⟨0,aaP _,⟨rfl,rfl⟩,?_,?_⟩,λs hs=>?_⟩
     ·(((repeat'(first|exact aA.nil|exact ar.nil _|refine aA.cons ?_ ?_|refine ar.cons ?_ ?_|exact ah.ptr rfl|exact ah.sl rfl (.inl rfl)|exact ah.aF rfl|exact ah.mpr rfl|refine ah.pe ?_|refine ah.aD ?_|refine ah.agg ?_|refine aj.pe ?_|refine aj.aI ?_|refine aj.aL ?_|refine aj.aK ?_ ?_|refine aj.mx ?_|exact ak.nil|refine ah.fn ?_ ?_|refine ak.cons ?_ ?_|exact ah.aE _|exact aj.dead _))<;>(try with_reducible rfl)))
      all_goals first|rfl|exact ah.sle (by rw[Mu a_,aaV];rfl) rfl|exact aaH (λn:Nat=>i64 (n:Int)) cd
     ·(refine dE ?_ ?_)
      all_goals first|rfl|exact .pn|(rw[Mu a_,Aa];rfl)
     ·have hs:s≤d.n:=hs
      by_cases h2:s<d.n
      ·obtain⟨r,hr⟩:∃r,d.next[s]? =some r:=⟨_,aaI h2⟩
       have b7:(d.next.map aQ)[(s:Int).toNat]? =some [.au 1 (ints r) none]:=by rw[Int.toNat_natCast];exact kq hr
       have bm:=(aw.r6 hm).row r (cM hr)
       have cz:=bR r
       have X1:(bE d c).getD s 0=r.getD c 0:=by
        unfold bE
        rw[aaN,aaM,hr];rfl
       have fW:(ints r)[(c:Int).toNat]? =some [i64 (r.getD c 0)]:=by
        rw[Int.toNat_natCast];refine c7 ?_;rw[aaN,aaI (by omega)];rfl
       have jq:(fN d c s)[(0+(s:Int).toNat)*1+0]? =some (true,ints (n0 (uniq (bE d) c) s)):=by
        rw[show(0+(s:Int).toNat)*1+0=s by omega,Al h2,aaF (ab9 _),abF]
       have aU:=XV (c:=c) h2
       rw[X1]at aU
       have sd:(fN d c s).set ((0+(s:Int).toNat)*1+0) (true,ints (n0 (uniq (bE d) c) s)++[[i64 (r.getD c 0)]])=fN d c (s+1):=by
        rw[show(0+(s:Int).toNat)*1+0=s by omega];exact aU
       have Mw:(ints (n0 (uniq (bE d) c) s)).length≤600:=by
        rw[bR];unfold n0;rw[aaR]
        have:=wg (bE d) c
        omega
       have uB:(0:Int)≤(s:Int)∧(s:Int)<((d.n:Nat):Int):=by omega
       apply once
       ·intro a7
        (refine ai ?_)
        (refine aB ?_)
        refine aJ b7 ?_
        (refine ai ?_)
        refine⟨true,_,jq,rfl,?_⟩
        (refine ai ?_)
        (refine aB ?_)
        refine aJ fW ?_
        (refine cu ?_)
        repeat' (first
         |exact True.intro
         |(refine⟨_,jq,⟨rfl,rfl,lU Mw⟩,?_⟩;(refine cu ?_))
         |(refine⟨⟨rfl,.inr rfl⟩,_,qn jq,aaV,?_⟩;(refine cu ?_))
         |(refine And.intro uB ?_;(refine cu ?_))
         |(refine fB.via ⟨[(1,.ptr 0 259 0 0),(2,.ptr 1 259 0 0),(3,.ptr 3 259 0 0),(4,.sl 5 1 0 (fy d (c+1)).length none),(5,.sl 4 1 0 N none),(6,.ptr 6 1 0 0),(8,.p (i64 (fy d c).length)),(25,.p (i64 N)),(26,.p (i64 c)),(42,.p (.au 1 (d.next.map aQ) none)),(43,.p (i64 d.n)),(44,.p (i64 s))],[.ax 256 (aO d.o) (d.rest.map .p),.ax 256 fV iQ,.pn 1 1 (fN d c (s+1)) none,.ax 256 fV [.p (i64 0),.sl 2 1 0 d.n none,.p (.au 1 (ints d.tag) none)],.pr 1 (upto N c (mV d) [i64 0]),.pr 1 (aG (fy d (c+1))),.mx [.p (i64 c)]]⟩ ?_ ?_;exact a7.of;(refine⟨⟨rfl,rfl⟩,?_,?_⟩<;>(((repeat'(first|exact aA.nil|exact ar.nil _|refine aA.cons ?_ ?_|refine ar.cons ?_ ?_|exact ah.ptr rfl|exact ah.sl rfl (.inl rfl)|exact ah.aF rfl|exact ah.mpr rfl|refine ah.pe ?_|refine ah.aD ?_|refine ah.agg ?_|refine aj.pe ?_|refine aj.aI ?_|refine aj.aL ?_|refine aj.aK ?_ ?_|refine aj.mx ?_|exact ak.nil|refine ah.fn ?_ ?_|refine ak.cons ?_ ?_|exact ah.aE _|exact aj.dead _))<;>(try with_reducible rfl))));all_goals first|exact jo sd)
         |(refine And.intro ?_ ?_<;>(refine cu ?_)))
        done
       ·(refine ai ?_)
        refine⟨s+1,h2,(show d.n - (s+1)<d.n - s by omega),⟨rfl,rfl⟩,?_,?_⟩
        ·(refine a8 ?_)
         all_goals first|rfl|exact cL (by omega)
        ·(refine a8 ?_)
         all_goals first|rfl|exact .pn
      ·have Cy:s=d.n:=by omega
       subst Cy
       have hlen:(uniq (bE d) c).length=(fy d c).length:=by rw[←Aj,aaR]
       have X2:ix (uniq (bE d) (c+1)) (bE d c)=(fy d c).length:=by rw[rM a_,pZ a_,hlen]
       have mN:=mN (uniq (bE d) (c+1)) rfl
       rw[X2]at mN
       rw[mN]at eX
       (refine ai ?_)
       (refine aB ?_)
       refine⟨_,iw,rfl,aaJ _,?_⟩
       (refine ai ?_)
       refine⟨c+1,h,(show N - (c+1)<N - c by omega),⟨rfl,rfl⟩,?_,?_⟩
       ·(refine a8 ?_)
        all_goals first|rfl|exact cL (by omega)
       ·(refine dE ?_ ?_)
        all_goals first|rfl|exact jo (XW a_)|(rw[aaL,Int.toNat_natCast];exact eX)
   ·have lN:c=N:=by omega
    subst lN
    have X3:(fy d c).length=(eH d).length:=by unfold eH;rw[uH,←Aj,aaR]
    (refine ai ?_)
    (refine aB ?_)
    refine⟨[],Nat,λb=>⟨[(2,.ptr 1 259 0 0),(3,.ptr 3 259 0 0),(5,.sl 4 1 0 c none),(76,.p (.agg (aO d.o))),(77,.p (i64 b))],
     [.dead,.ax 256 fV iQ,.pn 1 1 (fN d c 0) none,.ax 256 (upto 256 b (λb=>.int .u8 (ix (eH d) (bE d (d.o b)):Nat)) (.int .u8 0)) [.p (i64 (eH d).length),.sl 2 1 0 d.n none,.p (.au 1 (ints d.tag) none)],.pr 1 (upto c c (mV d) [i64 0])]⟩,
     λb=>b≤256,λb=>256 - b,⟨0,aaP _,⟨rfl,rfl⟩,?_,?_⟩,λb hb=>?_⟩
    ·(refine a8 ?_)
     all_goals first|rfl
    ·(((repeat'(first|exact aA.nil|exact ar.nil _|refine aA.cons ?_ ?_|refine ar.cons ?_ ?_|exact ah.ptr rfl|exact ah.sl rfl (.inl rfl)|exact ah.aF rfl|exact ah.mpr rfl|refine ah.pe ?_|refine ah.aD ?_|refine ah.agg ?_|refine aj.pe ?_|refine aj.aI ?_|refine aj.aL ?_|refine aj.aK ?_ ?_|refine aj.mx ?_|exact ak.nil|refine ah.fn ?_ ?_|refine ak.cons ?_ ?_|exact ah.aE _|exact aj.dead _))<;>(try with_reducible rfl)))
     all_goals first|rfl|exact .pn|exact aaH (λn:Nat=>i64 (n:Int)) X3
    ·have hb:b≤256:=hb
     by_cases h2:b<256
     ·have lG:=(aw.r6 hm).ob b h2
      have Mx:d.o b<c:=by omega
      have gX:(aO d.o)[(b:Int).toNat*1]? =some (.int .u8 (d.o b:Nat)):=by rw[Int.toNat_natCast,abN];exact wh d.o h2
      have iw:(upto c c (mV d) [i64 0])[0+((d.o b:Nat):Int).toNat]? =some (mV d (d.o b)):=by rw[aaL,Int.toNat_natCast,kn Mx,aaG Mx]
      have X4:bE d (d.o b)∈eH d:=oX (bE d) (by omega)
      have ER:=rL X4
      have Mw:(eH d).length≤256:=by have:=wg (bE d) d.cls.toNat;unfold eH at*;omega
      have X5:IntKind.u8.wrap ((ix (eH d) (bE d (d.o b)):Nat):Int)=((ix (eH d) (bE d (d.o b)):Nat):Int):=by
       generalize ix (eH d) (bE d (d.o b))=z at*
       simp[IntKind.wrap,IntKind.bits,IntKind.signed];omega
      have eX:=mD (f:=λb=>PV.int .u8 ((ix (eH d) (bE d (d.o b)):Nat):Int)) (z:=PV.int .u8 0) h2
      (refine ai ?_)
      (refine aB ?_)
      refine⟨_,gX,?_⟩
      (refine ai ?_)
      (refine aB ?_)
      refine aJ iw ?_
      (refine ai ?_)
      refine⟨b+1,h2,(show 256 - (b+1)<256 - b by omega),⟨rfl,rfl⟩,?_,?_⟩
      ·(refine a8 ?_)
       all_goals first|rfl|exact cL (by omega)
      ·(refine dE ?_ ?_)
       all_goals first|rfl|exact .pn|(rw[show 0+0+0+(b:Int).toNat*1=b by omega,X5];exact eX)
     ·have ft:b=256:=by omega
      subst ft
      have X6:upto 256 256 (λb=>PV.int .u8 ((ix (eH d) (bE d (d.o b)):Nat):Int)) (PV.int .u8 0)=aO (ez d).o:=by rw[v_];unfold aO;rfl
      have ib:d.n=(fN d c 0).length:=(Ak ..).symm
      have sH:(fN d c 0).map (λc:Bool×List (List PV)=>[PV.au 1 c.2 none])=(ez d).next.map aQ:=by
       unfold fN ez
       rw[abE,abE]
       refine abS λs _=>?_
       show[PV.au 1 (ints (n0 (uniq (bE d) c) s++if s<0 then _ else[])) none]=_
       rw[aaF (ab_ s),abF]
       unfold n0 aQ eH
       rw[uH]
       rfl
      show awp _ _ _ ⟨_,[_,_,_,.ax 256 (upto 256 256 (λb=>PV.int .u8 ((ix (eH d) (bE d (d.o b)):Nat):Int)) (PV.int .u8 0)) _,_]⟩
      rw[X6]
      (refine ai ?_)
      (refine aB ?_)
      refine⟨_,_,rfl,⟨rfl,rfl,bH _,rfl,aaJ _⟩,?_⟩
      (refine ai ?_)
      refine⟨.p (ez d).pv,[],⟨rfl,rfl⟩,⟨rfl,rfl⟩,?_,ar.nil _⟩
      exact ah.qA (wI (ys:=[i64 (eH d).length,.au 1 ((ez d).next.map aQ) none,.au 1 (ints d.tag) none]) (ak.cons (ah.pe rfl)
       (ak.cons (ah.xD rfl rfl ib (by rw[sH];exact .refl _)) (ak.cons (ah.pe rfl) ak.nil))) (aO (ez d).o))
theorem xf{d:aw}(h:d.may=true):d.Fit:=by
 have hg:=aw.r6 h
 have hc:d.cls≤256:=by
  have:=sc h
  unfold cJ at this
  simp only[aaQ,abv]at this
  have h1:=this.2
  have h2:=oO (nameOf d.o)
  omega
 have hs:=hg.size
 have ht:=hg.zI
 exact⟨λb hb=>by have:=hg.ob b hb;omega,by omega,λr hr=>by have:=hg.row r hr;omega,by omega⟩
theorem X7(d:aw)(hm:d.may=true):PF Tryz.prog 36 [d.pv] (xb d).pv:=by
 have hd:=xf hm
 have fu:=wE d hd
 rw[hm]at fu
 have h1:=EF hm
 have h2:=LF h1 (z6 (dy d).go (dy d).tg (dy d).cls.toNat (dy d).n)
 have h3:=LG h2
 have c1:=L5 d hd hm
 have c2:=XG (dy d) (xf h1) h1
 have c3:=XZ (jn (dy d) (gq (dy d))) (xf h2) h2
 have c4:=L5 (ez (jn (dy d) (gq (dy d)))) (xf h3) h3
 have e:xb d=dy (ez (jn (dy d) (gq (dy d)))):=rfl
 rw[e]
 generalize dy (ez (jn (dy d) (gq (dy d))))=d4 at*
 generalize ez (jn (dy d) (gq (dy d)))=d3 at*
 generalize jn (dy d) (gq (dy d))=d2 at*
 generalize dy d=d1 at*
 refine aY [] [] ?_
 (refine ai ?_)
 refine⟨_,d.rest.map .p,bO (rest:=d.rest),⟨rfl,bH _,rfl⟩,?_⟩
 (refine ai ?_)
 refine aH fu rfl rfl ?_
 (refine ai ?_)
 refine aH c1 rfl rfl ?_
 (refine ai ?_)
 refine aH c2 rfl rfl ?_
 (refine ai ?_)
 refine aH c3 rfl rfl ?_
 (refine ai ?_)
 refine aH c4 rfl rfl ?_
 (refine ai ?_)
 refine⟨aO d4.o,d4.rest.map .p,bO (rest:=d4.rest),⟨rfl,rfl,bH _,rfl,aaJ _⟩,?_⟩
 (refine ai ?_)
 exact aM rfl rfl rfl
def Am:Tr:=.mk 3 .nil [o9 o6,o9 o7] 0 0
def lp:List Tr:=[.mk 2 .nil [Am,o9 o8] 0 0]
def kD:bU:=⟨[o6,o7,o8],[0,0,0],[0,1],[[2],[2],[]],[false,false,true],-1⟩
theorem X8:eP [0,1] []=[0,1]:=La (by simp)
theorem My:qa lp=(kD,0):=by
 have h1:¬(lp.length<1∨40<lp.length∨lp.any (λT=>!T.may)=true):=by decide
 have h2:¬2000<jT lp:=by decide
 unfold qa
 rw[aaF h1,aaF h2]
 simp[lp,Am,bFrom,nT,zi,zh,o9,Vh,mI,mJ,Mk.then',Mk.behind,rT,Part.then',Part.or',Part.cU,Mk.place,Mk.oR,Mk.n,Mk.zero,Mk.zx,kD,mark,Vd,Ve,Vf,Vg,X8]
def jX(b:Nat):Nat:=if b=97 then 1 else if b=98 then 2 else if b=99 then 3 else 0
theorem E3:∀b,cntO jX b=if b=0 then 0 else if b≤97 then 1 else if b≤98 then 2 else if b≤99 then 3 else 4
 |0=>rfl
 |b+1=>by
  rw[cntO,E3 b]
  unfold jX
  repeat' (first|omega|split)
theorem Mz:cJ jX 4=true:=by
 rw[Ee]
 refine⟨λb hb=>?_,?_⟩
 ·rw[E3 b]
  unfold jX
  repeat' (first|omega|split)
 ·rw[E3 256,aaF (by omega),aaF (by omega),aaF (by omega),aaF (by omega)];rfl
theorem MA:Ek kD.aW jX 4:=⟨Mz,λb c hb hc=>by
 show _↔∀s∈[o6,o7,o8],s.has b=s.has c
 simp only[List.forall_mem_cons,adb,false_imp_iff,implies_true,acC,Ld hb,Ld hc,Le hb,Le hc,Lf hb,Lf hc,adI]
 unfold jX
 repeat' split
 all_goals simp_all⟩
theorem X9:∀k (hk:k<[0,97,98,99].length),[0,97,98,99][k]<256∧jX [0,97,98,99][k]=k∧∀a,a<[0,97,98,99][k]→jX a≠k:=by
 intro k hk
 match k,hk with
 |0,_=>exact⟨by simp,rfl,λa ha=>by simp at ha⟩
 |1,_=>exact⟨by simp,rfl,λa ha=>by simp at ha;unfold jX;repeat' (first|omega|split)⟩
 |2,_=>exact⟨by simp,rfl,λa ha=>by simp at ha;unfold jX;repeat' (first|omega|split)⟩
 |3,_=>exact⟨by simp,rfl,λa ha=>by simp at ha;unfold jX;repeat' (first|omega|split)⟩
 |k+4,h=>exact absurd h (by simp)
def MB:List (List Int):=[[-1,1,2,-1],[-1,-1,-1,3],[-1,-1,-1,3],[-1,-1,-1,-1]]
def dM:aw:=⟨jX,4,MB,[-1,-1,-1,0]⟩
theorem MC:(rY kD).1.pv=dM.pv∧(rY kD).2=0:=by
 obtain⟨h1,h2⟩:=Lb MA
 have hs:sLoop kD [0,97,98,99] 602 [] []=some ([[0],[1],[2]],MB):=by kernel_rfl
 have nV:kD.emp::[[0],[1],[2]].map kD.tag=[-1,-1,-1,0]:=by kernel_rfl
 unfold rY D1
 rw[Vk MA (bs:=[0,97,98,99]) rfl X9,hs]
 simp only[]
 rw[nV,h2]
 unfold aw.pv aw.rest
 simp only[]
 rw[Vj h1]
 exact⟨rfl,trivial⟩
theorem MD:dM.may=true:=Vo Mz (by kernel_rfl)
theorem X_{δ:Nat→Nat→Nat}{tg:Nat→Int}{C n:Nat}(blk:Nat→Nat)(wd:Nat→Nat→List Nat)(h1:∀s,s<n+1→∀s',s'<n+1→blk s=blk s'→tg s=tg s'∧∀c,c<C→δ s c<n+1∧δ s' c<n+1∧blk (δ s c)=blk (δ s' c))
 (h2:∀s,s<n→∀s',s'<n→blk s≠blk s'→(∀c∈wd s s',c<C)∧tg ((wd s s').foldl δ s)≠tg ((wd s s').foldl δ s')):
 lS δ tg C n=((List.range n).filter λi=>decide (∀j,j<i→blk i≠blk j)).map λi=>(List.range n).filter λj=>decide (blk i=blk j):=by
 have key:∀s s',s<n→s'<n→(cN δ tg C s s'↔blk s=blk s'):=λs s' hs bS=>by
  constructor
  ·intro ha
   refine acQ λbg=>?_
   obtain⟨q1,q2⟩:=h2 s hs s' bS bg
   exact q2 (ha _ q1)
  ·intro e
   refine Ey (R:=λs s'=>s<n+1∧s'<n+1∧blk s=blk s') (λa b ⟨x,y,z⟩=>(h1 a x b y z).1) (λa b c hc ⟨x,y,z⟩=>(h1 a x b y z).2 c hc) ⟨by omega,by omega,e⟩
 unfold lS
 have e1:(List.range n).filter (λi=>@decide (∀j,j<i→¬cN δ tg C i j) (Classical.propDecidable _))=(List.range n).filter λi=>decide (∀j,j<i→blk i≠blk j):=by
  refine acn λi hi=>?_
  have hi:=aaT.1 hi
  rw[abn,@aca _ (Classical.propDecidable _),aa7]
  exact⟨λh j hj e=>h j hj ((key i j hi (by omega)).2 e),λh j hj ha=>h j hj ((key i j hi (by omega)).1 ha)⟩
 have e0:∀(P:Nat→Prop) (I1 I2:DecidablePred P),(List.range n).filter (λi=>@decide (P i) (I1 i))=(List.range n).filter λi=>@decide (P i) (I2 i):=λP I1 I2=>acn λi _=>by rw[abn,@aca _ (I1 i),@aca _ (I2 i)]
 refine acX (aaH _ (e0 _ _ _)) (acX (aaH _ e1) (abS λi hi=>?_))
 have hi:=aaT.1 (abq.1 hi).1
 unfold eR
 refine acn λj hj=>?_
 have hj:=aaT.1 hj
 rw[abn,@aca _ (Classical.propDecidable _),aa7]
 exact key i j hi hj
def lq(s:Nat):Nat:=[0,1,1,2,3].getD s 0
def sg(s s':Nat):List Nat:=if s=3∨s'=3 then[]else[3]
theorem Ya:gq dM=[[0],[1,2],[3]]:=by
 unfold gq
 have k1:((List.range 5).all λs=>(List.range 5).all λs'=>!(decide (lq s=lq s'))||(decide (dM.tg s=dM.tg s')&&(List.range 4).all λc=>decide (dM.go s c<5)&&(decide (dM.go s' c<5)&&decide (lq (dM.go s c)=lq (dM.go s' c)))))=true:=by kernel_rfl
 have k2:((List.range 4).all λs=>(List.range 4).all λs'=>decide (lq s=lq s')||((sg s s').all (λc=>decide (c<4))&&!(decide (dM.tg ((sg s s').foldl dM.go s)=dM.tg ((sg s s').foldl dM.go s')))))=true:=by kernel_rfl
 have h1:∀s,s<5→∀s',s'<5→lq s=lq s'→dM.tg s=dM.tg s'∧∀c,c<4→dM.go s c<5∧dM.go s' c<5∧lq (dM.go s c)=lq (dM.go s' c):=λs hs s' bS e=>by
  have:=aa8.1 (aa8.1 k1 s (aaT.2 hs)) s' (aaT.2 bS)
  rw[aa5 e]at this
  simp only[Bool.not_true,acU,aaQ,aa7,aa8,aaT]at this
  exact this
 have h2:∀s,s<4→∀s',s'<4→lq s≠lq s'→(∀c∈sg s s',c<4)∧dM.tg ((sg s s').foldl dM.go s)≠dM.tg ((sg s s').foldl dM.go s'):=λs hs s' bS e=>by
  have:=aa8.1 (aa8.1 k2 s (aaT.2 hs)) s' (aaT.2 bS)
  rw[aa_ e]at this
  simp only[acU,aaQ,aa7,aa8,abJ,acG]at this
  exact this
 refine(X_ (δ:=dM.go) (tg:=dM.tg) (C:=4) (n:=4) lq sg h1 h2).trans ?_
 decide
theorem Yb:dy dM=dM:=by kernel_rfl
def sh:aw:=⟨jX,4,[[-1,1,1,-1],[-1,-1,-1,2],[-1,-1,-1,-1]],[-1,-1,0]⟩
theorem Yc:jn dM [[0],[1,2],[3]]=sh:=by kernel_rfl
def lY(b:Nat):Nat:=if b=97 then 1 else if b=98 then 1 else if b=99 then 2 else 0
def mM:aw:=⟨lY,3,[[-1,1,-1],[-1,-1,2],[-1,-1,-1]],[-1,-1,0]⟩
theorem Yd:ez sh=mM:=by
 have ho:(ez sh).o=lY:=by
  funext b
  show ix (eH sh) (bE sh (jX b))=lY b
  unfold jX lY
  repeat' split
  all_goals kernel_rfl
 have e:ez sh=⟨(ez sh).o,3,[[-1,1,-1],[-1,-1,2],[-1,-1,-1]],[-1,-1,0]⟩:=by kernel_rfl
 rw[e,ho];rfl
theorem ME:xb dM=mM:=by
 unfold xb
 rw[Yb,Ya,Yc,Yd]
 kernel_rfl
theorem An:mM.may=true:=by
 have:=Wg MD
 rwa [ME]at this
theorem Ye:mM.dv=[0,97,99]:=by
 have hc:cJ lY ((3:Nat):Int)=true:=sc An
 have key:∀k b:Nat,k<3→b<256→lY b=k→(∀a,a<b→lY a≠k)→mM.low k=b:=λk b hk hb h1 h2=>by
  obtain⟨_,x,y,z⟩:=wF hc (k:=k) (by omega)
  show de lY ((3:Nat):Int) k=b
  have q1:¬de lY ((3:Nat):Int) k<b:=λaq=>h2 _ aq y
  have q2:¬b<de lY ((3:Nat):Int) k:=λaq=>z _ aq h1
  omega
 have e0:=key 0 0 (by omega) (by omega) rfl (λa ha=>by omega)
 have e1:=key 1 97 (by omega) (by omega) rfl (λa ha=>by unfold lY;repeat' (first|omega|split))
 have e2:=key 2 99 (by omega) (by omega) rfl (λa ha=>by unfold lY;repeat' (first|omega|split))
 show[mM.low 0,mM.low 1,mM.low 2]=_
 rw[e0,e1,e2]
theorem Yf:wQ mM 0 1=([99],true):=by
 unfold wQ
 rw[aaG ⟨An,by decide,by decide⟩]
 unfold zL zK
 rw[Ye]
 kernel_rfl
theorem MF(s:Set4):(o9 s).Fit:=.mk (by decide) (λt h=>by cases h)
theorem MG{l:List Tr}(h:∀t∈l,t.Fit){k s lo hi}(hl:l.length<2^63):(Tr.mk k s l lo hi).Fit:=.mk hl h
theorem E4{P:Program}{fx:Nat→Bool}{kk:Nat}{en:Bool}{q:Bool}{f:Nat}{args:List AV}{ps:List PV}{R:AV}{d:Option Nat}{st:St}{k:St→Prop}(fr:List Nat)
 (h:Fn P f (ps.map .p) [] [] (λx H=>H=[]∧x=R)) (hR:∀n,AV.ren [] n R=R) (hb:(n4 fx fr&&n5 st.heap.length fr&&m_ [] fr)=true) (hp:ak st.heap (λb=>false||memN fr b) (memN []) args (ps.map .p))
 (hk:k ((eV fr st).put d R)):iV ⟨Fn P,fx,kk,dS P,en⟩ q f args d st k:=by
 simp only[aaQ]at hb
 refine .mk ?_
 unfold l9
 refine⟨[],[],ps.map .p,[],_,fr,false,h,⟨by cases q<;>rfl,rfl,rfl,hb.1.1,rfl,hb.1.2,rfl,rfl,hb.2,rfl⟩,rfl,?_,?_⟩
 ·rw[oF];exact hp
 ·rintro r' H' ⟨rfl,rfl⟩ _
  refine⟨λh=>(by cases h),?_⟩
  simpa [killAll,eU,backH,fA,hR]using hk
def Ao(s:Set4):List PV:=[.int .i64 1,u64 s.a,u64 s.b,u64 s.c,u64 s.d,.au 0 [] (some 0),.int .i64 0,.int .i64 0]
def E5(k:Int)(rows:List (List PV)):List PV:=[.int .i64 k,.int .u64 0,.int .u64 0,.int .u64 0,.int .u64 0,.au 8 rows none,.int .i64 0,.int .i64 0]
def Ap:List (List PV):=[E5 2 [E5 3 [Ao o6,Ao o7],Ao o8]]
theorem E6(s:Set4):fZ (Ao s) (o9 s).cells:=.cons (.refl _) (.cons (.refl _) (.cons (.refl _) (.cons (.refl _) (.cons (.refl _) (.cons (.nil (.inl rfl)) (.refl _))))))
theorem MH{k:Int}{rows:List (List PV)}{l:List Tr}(h:kG rows (Tr.rowsL l)):fZ (E5 k rows) (Tr.mk k .nil l 0 0).cells:=.cons (.refl _) (.cons (.refl _) (.cons (.refl _) (.cons (.refl _) (.cons (.refl _) (.cons (.au h (.inl rfl)) (.refl _))))))
theorem E7:cP (.au 8 Ap none) (.au 8 (Tr.rowsL lp) none):=
 .au (.cons (MH (l:=[Am,o9 o8]) (.cons (MH (l:=[o9 o6,o9 o7]) (.cons (E6 o6) (.cons (E6 o7) (.refl _)))) (.cons (E6 o8) (.refl _)))) (.refl _)) (.inl rfl)
theorem MI:PF Tryz.prog 30 [] (.b true):=by
 have MJ:=Dl 97 97 (by omega) (by omega)
 have MK:=Dl 98 98 (by omega) (by omega)
 have ML:=Dl 99 99 (by omega) (by omega)
 rw[Va]at MJ
 rw[Vb]at MK
 rw[Vc]at ML
 have fM:Am.Fit:=MG (by simp[MF]) (by decide)
 have hb:=Ua lp none (by decide) (by
  intro T hT;simp[lp]at hT;subst hT;exact MG (by simp[MF,fM]) (by decide)) (by decide)
 unfold tZ at hb
 rw[My]at hb
 have oh:(kD,(0:Int)).1.oV:=by have:=Uy lp;rwa [My]at this
 have hs:=Uq kD oh
 rw[MC.1,MC.2]at hs
 have C2:=X7 dM MD
 rw[ME]at C2
 have oH:=U1 mM (xf An) 0 1 An (by decide) (by decide)
 rw[Yf]at oH
 refine aY [] [[2,6,8,12,14,18,21,23,26,30,33,37,38,0,1,1,33,30,37,38,0,1,37,30,38,0,1,1,1,33,21,23,26,30,37,38,0,1,37,30,38,0,1,1,1,1,33,18,21,23,26,30,37,38,0,1,37,30,38,0,1,1,1,1,1,33,12,14,18,21,23,26,30,37,38,0,1,37,30,38,0,1,1,1,1,1,1,33,6,8,12,14,18,21,23,26,30,37,38,0,1,37,30,38]] ?_
 (refine ai ?_)
 refine aH MJ rfl rfl ?_
 (refine ai ?_)
 refine aH MK rfl rfl ?_
 (refine ai ?_)
 apply once
 ·intro a7
  repeat' (first
   |exact True.intro
   |(refine aH ML rfl rfl ?_;(refine cu ?_))
   |(refine E4 (ps:=[.au 8 (Tr.rowsL lp) none]) [2] hb (λn=>rfl) rfl (ak.cons (ah.dI (rs:=Ap) rfl rfl rfl rfl E7) ak.nil) ?_;(refine cu ?_))
   |(refine E4 (ps:=[.au 8 (Tr.rowsL lp) none]) [3] hb (λn=>rfl) rfl (ak.cons (ah.dI (rs:=Ap) rfl rfl rfl rfl E7) ak.nil) ?_;(refine cu ?_))
   |(refine E4 (ps:=[.au 8 (Tr.rowsL lp) none]) [4] hb (λn=>rfl) rfl (ak.cons (ah.dI (rs:=Ap) rfl rfl rfl rfl E7) ak.nil) ?_;(refine cu ?_))
   |(refine fB.via ⟨[(2,.ptr 4 6 0 0),(3,.p (i64 0))],[.dead,.dead,.dead,.dead,.mx (kD.cells.map .p)]⟩ ?_ ?_;exact a7.of;(refine⟨⟨rfl,rfl⟩,?_,?_⟩<;>((repeat'(first|exact aA.nil|exact ar.nil _|refine aA.cons ?_ ?_|refine ar.cons ?_ ?_|exact ah.ptr rfl|exact ah.sl rfl (.inl rfl)|exact ah.aF rfl|exact ah.mpr rfl|refine ah.pe ?_|refine ah.aD ?_|refine ah.agg ?_|refine aj.pe ?_|refine aj.aI ?_|refine aj.aL ?_|refine aj.aK ?_ ?_|refine aj.mx ?_|exact ak.nil|refine ah.fn ?_ ?_|refine ak.cons ?_ ?_|exact ah.aE _|exact aj.dead _))<;>(try with_reducible rfl)));done)
   |(refine fB.perm [0,1,4,3,2] ⟨[(2,.ptr 4 6 0 0),(3,.p (i64 0))],[.dead,.dead,.dead,.dead,.mx (kD.cells.map .p)]⟩ ?_ rfl ?_;exact a7.of;(refine⟨⟨rfl,rfl⟩,?_,?_⟩<;>((repeat'(first|exact aA.nil|exact ar.nil _|refine aA.cons ?_ ?_|refine ar.cons ?_ ?_|exact ah.ptr rfl|exact ah.sl rfl (.inl rfl)|exact ah.aF rfl|exact ah.mpr rfl|refine ah.pe ?_|refine ah.aD ?_|refine ah.agg ?_|refine aj.pe ?_|refine aj.aI ?_|refine aj.aL ?_|refine aj.aK ?_ ?_|refine aj.mx ?_|exact ak.nil|refine ah.fn ?_ ?_|refine ak.cons ?_ ?_|exact ah.aE _|exact aj.dead _))<;>(try with_reducible rfl)));done)
   |(refine fB.perm [0,1,2,4,3] ⟨[(2,.ptr 4 6 0 0),(3,.p (i64 0))],[.dead,.dead,.dead,.dead,.mx (kD.cells.map .p)]⟩ ?_ rfl ?_;exact a7.of;(refine⟨⟨rfl,rfl⟩,?_,?_⟩<;>((repeat'(first|exact aA.nil|exact ar.nil _|refine aA.cons ?_ ?_|refine ar.cons ?_ ?_|exact ah.ptr rfl|exact ah.sl rfl (.inl rfl)|exact ah.aF rfl|exact ah.mpr rfl|refine ah.pe ?_|refine ah.aD ?_|refine ah.agg ?_|refine aj.pe ?_|refine aj.aI ?_|refine aj.aL ?_|refine aj.aK ?_ ?_|refine aj.mx ?_|exact ak.nil|refine ah.fn ?_ ?_|refine ak.cons ?_ ?_|exact ah.aE _|exact aj.dead _))<;>(try with_reducible rfl)));done)
   |(refine And.intro ?_ ?_<;>(refine cu ?_)))
  done
 ·(refine ai ?_)
  refine rF (ps:=[kD.pv]) hs rfl rfl ?_
  rintro r H ⟨rfl,rfl⟩
  (refine ai ?_)
  refine⟨aO dM.o,dM.rest.map .p,bO (rest:=dM.rest),⟨rfl,rfl,bH _,rfl,aaJ _⟩,?_⟩
  (refine ai ?_)
  refine aH C2 rfl rfl ?_
  (refine ai ?_)
  refine⟨aO mM.o,mM.rest.map .p,bO (rest:=mM.rest),⟨rfl,rfl,bH _,rfl,aaJ _⟩,?_⟩
  (refine ai ?_)
  refine rF (ps:=[mM.pv,i64 0,i64 1]) oH rfl rfl ?_
  rintro r H ⟨rfl,rfl⟩
  (refine ai ?_)
  (refine ed ?_)
  exact aM rfl rfl (by kernel_rfl)
theorem MM(d:aw)(hd:d.Fit)(hm:d.may=true)(s c:Nat)(hs:s<d.n+1)(hc:(c:Int)<d.cls):PF Tryz.prog 106 [d.pv,i64 s,i64 c] (i64 (d.go s c:Nat)):=by
 have hn:d.n≤600:=(aw.fL hm).1
 have cd:(d.next.map aQ).length=d.n:=by simp[aw.n]
 by_cases oY:s=d.n
 ·have gX:d.go s c=d.n:=by unfold aw.go;rw[aaF (by omega)]
  rw[gX]
  refine aY [] [] ?_
  (refine ai ?_)
  refine⟨_,d.rest.map .p,bO (rest:=d.rest),⟨rfl,bH _,rfl⟩,?_⟩
  (refine ai ?_)
  (refine aB ?_)
  exact aM rfl rfl (aaH (λn:Nat=>i64 (n:Int)) cd)
 ·have bS:s<d.next.length:=by have e:d.n=d.next.length:=rfl;omega
  obtain⟨r,hr⟩:∃r,d.next[s]? =some r:=⟨_,aaI bS⟩
  have er:b_ d s=r:=by unfold b_;rw[aaN,hr];rfl
  have cq:=(nX hm bS).1
  rw[er]at cq
  obtain⟨x,hx⟩:∃x,r[c]? =some x:=⟨_,aaI (by omega)⟩
  have ex:(b_ d s).getD c 0=x:=by rw[er,aaN,hx];rfl
  have gX:=go_eq hm bS (c:=c) (by rw[er];omega)
  rw[ex]at gX
  have b7:(d.next.map aQ)[(s:Int).toNat]? =some [.au 1 (ints r) none]:=by rw[Int.toNat_natCast,aaM,hr];rfl
  have fW:(ints r)[(c:Int).toNat]? =some [i64 x]:=by rw[Int.toNat_natCast];exact c7 hx
  have cz:=bR r
  have ig:s<d.n:=bS
  rcases gX with⟨⟨h1,h2⟩,h3⟩|⟨⟨h1,h2⟩,h3⟩
  ·rw[h3]
   refine aY [] [] ?_
   (refine ai ?_)
   refine⟨_,d.rest.map .p,bO (rest:=d.rest),⟨rfl,bH _,rfl⟩,?_⟩
   (refine ai ?_)
   (refine aB ?_)
   refine aJ b7 ?_
   (refine ai ?_)
   (refine aB ?_)
   refine aJ fW ?_
   (refine ai ?_)
   (refine aB ?_)
   exact aM rfl rfl (aaH (λn:Nat=>i64 (n:Int)) cd)
  ·rw[h3]
   refine aY [] [] ?_
   (refine ai ?_)
   refine⟨_,d.rest.map .p,bO (rest:=d.rest),⟨rfl,bH _,rfl⟩,?_⟩
   (refine ai ?_)
   (refine aB ?_)
   refine aJ b7 ?_
   (refine ai ?_)
   (refine aB ?_)
   refine aJ fW ?_
   (refine ai ?_)
   (refine aB ?_)
   refine aJ b7 ?_
   (refine ai ?_)
   (refine aB ?_)
   refine aJ fW ?_
   (refine ai ?_)
   exact aM rfl rfl (aaH i64 (by omega))
def dF(M:List (List Bool)):List (Bool×List (List PV)):=M.map λr=>(true,bT r)
def qo(r:List Bool):List PV:=[.au 1 (bT r) none]
def lZ(N:Nat)(f:Nat→Nat→Bool):List (List Bool):=(List.range N).map λi=>(List.range N).map λj=>f i j
noncomputable def qp (d:aw):List (List Bool):=lZ (d.n+1) λi j=>@decide (¬cN d.go d.tg d.cls.toNat i j) (Classical.propDecidable _)
theorem Yg{N:Nat}{M:List (List Bool)}{f:Nat→Nat→Bool}(h:Sq N M)(hf:∀i j,i<N→j<N→dU M i j=f i j):M=lZ N f:=by
 refine abj λi=>?_
 unfold lZ
 rw[aaM]
 by_cases hi:i<N
 ·rw[abo hi,aaI (by rw[h.len];exact hi)]
  have hr:=h.row i hi
  have hm:=hf i
  unfold dU at hm
  rw[aaN,aaI (by rw[h.len];exact hi)]at hr hm
  simp only[Option.getD_some]at hr hm
  show some _=some _
  congr 1
  refine abj λj=>?_
  rw[aaM]
  by_cases hj:j<N
  ·rw[abo hj,aaI (by rw[hr];exact hj)]
   have:=hm j hi hj
   rw[aaN,aaI (by rw[hr];exact hj)]at this
   simpa using this
  ·rw[aaS (by rw[hr];omega),aaS (by simp;omega)];rfl
 ·rw[aaS (by rw[h.len];omega),aaS (by simp;omega)];rfl
theorem MN{N:Nat}{M:List (List Bool)}(h:Sq N M){i:Nat}(hi:i<N):(dF M)[i]? =some (true,bT (M.getD i [])):=by
 unfold dF
 rw[aaM,aaN,aaI (by rw[h.len];exact hi)];rfl
theorem E8{N:Nat}{M:List (List Bool)}(h:Sq N M){i j:Nat}(hi:i<N)(hj:j<N):(bT (M.getD i []))[j]? =some [.b (dU M i j)]:=qg (by rw[h.row i hi];exact hj)
theorem Yh(M:List (List Bool))(i j:Nat):(dF M).set i (true,(bT (M.getD i [])).set j [.b true])=dF (mR M i j):=by
 unfold dF mR
 rw[zM,abR]
theorem Yi(M:List (List Bool)):(dF M).length=M.length:=by simp[dF]
theorem Yj(M:List (List Bool)):(dF M).map (λc:Bool×List (List PV)=>[PV.au 1 c.2 none])=M.map qo:=by unfold dF;rw[abE];rfl
theorem Aq(a b:Int):intCm .neq a b=decide (a≠b):=by
 show(a !=b)=_
 by_cases h:a=b<;>simp[h]
def jY(d:aw)(i j:Nat):Bool:=decide (d.tg i≠d.tg j)
def iT(d:aw)(j a:Nat):List Bool:=(List.range (d.n+1)).map λb=>if b<j then jY d a b else false
def lr(d:aw)(i j:Nat):List (List Bool):=(List.range (d.n+1)).map λa=>if a<i then iT d (d.n+1) a else if a=i then iT d j a else[]
def mW(d:aw)(i:Nat):List (List Bool):=(List.range (d.n+1)).map λa=>if a<i then iT d (d.n+1) a else[]
theorem Yk(d:aw)(j a:Nat):(iT d j a).length=d.n+1:=by simp[iT]
theorem MO{d:aw}{i j:Nat}(hi:i<d.n+1):(dF (lr d i j))[i]? =some (true,bT (iT d j i)):=by
 unfold dF lr
 rw[aaM,aaM,abo hi]
 simp
theorem Yl(d:aw):dF (mW d 0)=List.replicate (d.n+1) (true,[]):=by
 unfold dF mW
 rw[abE]
 rw[show((λr=>(true,bT r))∘λa=>if a<0 then iT d (d.n+1) a else[])=λ_=>(true,[]) from by funext a;simp[bT]]
 rw[ac1,abQ]
theorem Ym{h:List Blk}{fz kp:Nat→Bool}(d:aw)(n:Nat)(hn:n=d.n+1):aj h fz kp (.pr 1 (List.replicate n [.au 0 [] (some 0)])) (.pn 1 1 (dF (mW d 0)) none):=by
 subst hn
 rw[Yl]
 refine aj.uU (by simp) λi j row x h1 h2=>?_
 have hi:i<d.n+1:=by have:=(aaK.1 h1).1;simpa using this
 have hr:row=[.au 0 [] (some 0)]:=by rw[ab1,aaG hi]at h1;cases h1;rfl
 subst hr
 cases j with
 |succ j=>simp at h2
 |zero=>
  simp at h2
  subst h2
  exact .inl ⟨by rw[ab1,aaG (by omega)],0,rfl⟩
theorem Yn(d:aw)(a:Nat):bT (iT d 0 a)=List.replicate (d.n+1) [.b false]:=by
 unfold bT iT
 rw[abE]
 rw[show(im∘λb=>if b<0 then jY d a b else false)=λ_=>[PV.b false] from by funext b;simp[im]]
 rw[ac1,abQ]
theorem Yo{d:aw}{i:Nat}(hi:i<d.n+1):(dF (mW d i)).set i (true,List.replicate (d.n+1) [.b false])=dF (lr d i 0):=by
 refine abj λa=>?_
 rw[aaZ]
 unfold dF mW lr
 simp only[aaR,abQ,aaM]
 by_cases ha:a<d.n+1
 ·rw[abo ha]
  by_cases e:i=a
  ·subst e
   rw[aaG rfl,aaG hi]
   simp[Yn]
  ·rw[aaF e]
   have e':¬a=i:=λh=>e h.symm
   simp[e']
 ·have e:¬i=a:=by omega
  rw[aaF e,aaS (by simp;omega)];rfl
theorem Yp{d:aw}{i j:Nat}(hj:j<d.n+1):(bT (iT d j i)).set j [.b (jY d i j)]=bT (iT d (j+1) i):=by
 rw[zM]
 congr 1
 refine abj λb=>?_
 rw[aaZ]
 unfold iT
 simp only[aaR,abQ,aaM]
 by_cases hb:b<d.n+1
 ·rw[abo hb]
  by_cases e:j=b
  ·subst e;rw[aaG rfl,aaG hj];simp
  ·rw[aaF e]
   have e1:(b<j+1)=(b<j):=by apply propext;omega
   simp[e1]
 ·have e:¬j=b:=by omega
  rw[aaF e,aaS (by simp;omega)];rfl
theorem Yq{d:aw}{i j:Nat}(hi:i<d.n+1)(hj:j<d.n+1):(dF (lr d i j)).set i (true,(bT (iT d j i)).set j [.b (jY d i j)])=dF (lr d i (j+1)):=by
 rw[Yp hj]
 refine abj λa=>?_
 rw[aaZ]
 unfold dF lr
 simp only[aaR,abQ,aaM]
 by_cases ha:a<d.n+1
 ·rw[abo ha]
  by_cases e:i=a
  ·subst e;rw[aaG rfl,aaG hi];simp
  ·rw[aaF e]
   have e':¬a=i:=λh=>e h.symm
   simp[e']
 ·have e:¬i=a:=by omega
  rw[aaF e,aaS (by simp;omega)];rfl
theorem Yr(d:aw)(i:Nat):lr d i (d.n+1)=mW d (i+1):=by
 unfold lr mW
 refine abS λa _=>?_
 by_cases h1:a<i
 ·rw[aaG h1,aaG (by omega)]
 ·rw[aaF h1]
  by_cases h2:a=i
  ·rw[aaG h2,aaG (by omega)]
  ·rw[aaF h2,aaF (by omega)]
theorem Ys{d:aw}:mW d (d.n+1)=lZ (d.n+1) (jY d):=by
 unfold mW lZ
 refine abS λa ha=>?_
 rw[aaG (aaT.1 ha)]
 unfold iT
 exact abS λb hb=>aaG (aaT.1 hb)
theorem MP(N:Nat)(f:Nat→Nat→Bool):Sq N (lZ N f):=⟨by simp[lZ],λi hi=>by unfold lZ;rw[aaN,aaM,abo hi];simp⟩
theorem E9{N:Nat}{f:Nat→Nat→Bool}{i j:Nat}(hi:i<N)(hj:j<N):dU (lZ N f) i j=f i j:=by
 unfold dU lZ
 rw[aaN (l:=List.map _ _),aaM,abo hi]
 simp[aaN,hj]
structure l5(d:aw)(M:List (List Bool))(ag:Bool):Prop where
 sq:Sq (d.n+1) M
 sound:∀i j,i<d.n+1→j<d.n+1→dU M i j=true→¬cN d.go d.tg d.cls.toNat i j
 tags:∀i j,i<d.n+1→j<d.n+1→d.tg i≠d.tg j→dU M i j=true
 fin:ag=false→∀i j c,i<d.n+1→j<d.n+1→c<d.cls.toNat→dU M i j=false→dU M (d.go i c) (d.go j c)=false
theorem l5.start(d:aw):l5 d (lZ (d.n+1) (jY d)) true:=by
 refine⟨MP _ _,λi j hi hj h=>?_,λi j hi hj h=>?_,λe=>(by cases e)⟩
 ·rw[E9 hi hj]at h
  exact λha=>abG h ha.tag
 ·rw[E9 hi hj];exact aa5 h
theorem l5.open{d:aw}{M:List (List Bool)}(h:l5 d M true):gu d.go d.tg d.cls.toNat (d.n+1) M M false (λ_ _ _=>False):=
 ⟨h.sq,h.sound,h.tags,λ_=>⟨rfl,λ_ _ _ _ _ _ hp=>hp.elim⟩,λe=>(by cases e)⟩
theorem l5.shut{d:aw}{M0 M:List (List Bool)}{ag:Bool}{P:Nat→Nat→Nat→Prop}(h:gu d.go d.tg d.cls.toNat (d.n+1) M0 M ag P)(hP:∀i j c,i<d.n+1→j<d.n+1→c<d.cls.toNat→P i j c):
 l5 d M ag∧2*mS M+(if ag=true then 1 else 0)<2*mS M0+1:=by
 refine⟨⟨h.sq,h.sound,h.tags,λe i j c hi hj hc hm=>?_⟩,?_⟩
 ·obtain⟨h1,h2⟩:=h.no e
  rw[h1]at hm ⊢
  exact h2 i j c hi hj hc (hP i j c hi hj hc) hm
 ·cases ag with
  |false=>rw[(h.no rfl).1];simp
  |true=>have:=h.yes rfl;simp;omega
theorem l5.final{d:aw}{M:List (List Bool)}(hm:d.may=true)(h:l5 d M false):M=qp d:=by
 refine Yg h.sq λi j hi hj=>?_
 have cr:∀s c,s<d.n+1→c<d.cls.toNat→d.go s c<d.n+1:=λs c _ hc=>aw.zU hm s c (by omega)
 have ha:gu d.go d.tg d.cls.toNat (d.n+1) M M false (λ_ _ _=>True):=⟨h.sq,h.sound,h.tags,λ_=>⟨rfl,λi j c a b e _ hm=>h.fin rfl i j c a b e hm⟩,λe=>(by cases e)⟩
 have:=ha.final (λ_ _ _ _ _ _=>trivial) cr hi hj
 rw[abn,this]
 exact(@aca _ (Classical.propDecidable _)).symm
theorem Yt(d:aw)(hd:d.Fit)(hm:d.may=true):PF Tryz.prog 40 [d.pv] (.au 1 ((qp d).map qo) none):=by
 have hn:d.n≤600:=(aw.fL hm).1
 have cd:(d.next.map aQ).length=d.n:=by simp[aw.n]
 have dH:=bR d.tag
 have o4:d.tag.length=d.n:=(aw.fL hm).2.1
 have EP:0≤d.cls∧d.cls≤256:=by
  have:=hm
  unfold aw.may cJ at this
  simp only[aaQ,abv]at this
  have h1:=this.1.2
  have h2:=oO (nameOf d.o)
  omega
 have hX:intAr .add .i64 ((d.next.map aQ).length:Nat) 1=((d.n+1:Nat):Int):=by rw[cd,cg (by omega) (by omega)];rfl
 have bM:0≤intAr .add .i64 ((d.next.map aQ).length:Nat) 1∧intAr .add .i64 ((d.next.map aQ).length:Nat) 1≤intAr .add .i64 ((d.next.map aQ).length:Nat) 1∧intAr .add .i64 ((d.next.map aQ).length:Nat) 1*(24:Nat)≤(cK:Nat)∧intAr .add .i64 ((d.next.map aQ).length:Nat) 1≤(cK:Nat):=by
  rw[hX]
  have e2:cK=70368744177664:=rfl
  rw[e2];omega
 refine aY [[1,3,4,5,78,79,80,81,82,83,84,85],[1,3,4,5,6,78,79,80,81,82,83,84,85],[1,3,4,9,78,79,80,81,82,83,84,85],[1,3,4,9,10,78,79,80,81,82,83,84,85],[1,3,4,9,10,11,78,79,80,81,82,83,84,85],[1,3,4,9,10,11,12,78,79,80,81,82,83,84,85]] [[2,5,8,11,23,26,29,15,17,20,33,35,38]] ?_
 (refine ai ?_)
 refine⟨_,d.rest.map .p,bO (rest:=d.rest),⟨rfl,bH _,rfl⟩,?_⟩
 (refine ai ?_)
 refine⟨[],Nat,λi=>⟨[(1,.ptr 0 259 0 0),(3,.p (i64 (d.n+1:Nat))),(4,.sl 1 1 0 (d.n+1) none),(5,.p (i64 i))],[.ax 256 (aO d.o) (d.rest.map .p),.pn 1 1 (dF (mW d i)) none]⟩,
  λi=>i≤d.n+1,λi=>d.n+1 - i,⟨0,aaP _,⟨rfl,rfl⟩,?_,?_⟩,λi hi=>?_⟩
 ·(((repeat'(first|exact aA.nil|exact ar.nil _|refine aA.cons ?_ ?_|refine ar.cons ?_ ?_|exact ah.ptr rfl|exact ah.sl rfl (.inl rfl)|exact ah.aF rfl|exact ah.mpr rfl|refine ah.pe ?_|refine ah.aD ?_|refine ah.agg ?_|refine aj.pe ?_|refine aj.aI ?_|refine aj.aL ?_|refine aj.aK ?_ ?_|refine aj.mx ?_|exact ak.nil|refine ah.fn ?_ ?_|refine ak.cons ?_ ?_|exact ah.aE _|exact aj.dead _))<;>(try with_reducible rfl)))
  all_goals first|rfl|exact aaH i64 hX|exact ah.sle (by rw[hX,Int.toNat_natCast]) rfl
 ·(refine a8 ?_)
  all_goals first|rfl|exact Ym d _ (by rw[hX,Int.toNat_natCast])
 ·have hi:i≤d.n+1:=hi
  (refine ai ?_)
  refine jk (λh=>?_) (λh=>?_)
  ·have h:i<d.n+1:=by have h:(i:Int)<(d.n+1:Nat):=h;omega
   have iu:(0+(i:Int).toNat)*1+0=i:=by omega
   have du:=Yo h
   have E_:=MO (j:=0) h
   have E1:∀j,(dF (lr d i j)).length=d.n+1:=λj=>by simp[dF,lr]
   (refine ai ?_)
   refine And.intro ⟨by rw[acI];omega,.inl rfl,by rw[iu];simpa [dF,mW]using h⟩ ?_
   (refine ai ?_)
   refine⟨[],Nat,λj=>⟨[(1,.ptr 0 259 0 0),(3,.p (i64 (d.n+1:Nat))),(4,.sl 1 1 0 (d.n+1) none),(5,.p (i64 i)),(6,.p (i64 j))],[.ax 256 (aO d.o) (d.rest.map .p),.pn 1 1 (dF (lr d i j)) none]⟩,
    λj=>j≤d.n+1,λj=>d.n+1 - j,⟨0,aaP _,⟨rfl,rfl⟩,?_,?_⟩,λj hj=>?_⟩
   ·(refine a8 ?_)
    all_goals first|rfl
   ·(refine a8 ?_)
    all_goals first|exact jo (by rw[iu,Int.toNat_natCast];exact du)
   ·have hj:j≤d.n+1:=hj
    (refine ai ?_)
    refine jk (λh2=>?_) (λh2=>?_)
    ·have h2:j<d.n+1:=by have h:(j:Int)<(d.n+1:Nat):=h2;omega
     have gS:intAr .sub .i64 ((d.n+1:Nat):Int) 1=(d.n:Int):=by rw[bW (by omega) (by omega)];omega
     have nV:∀a:Nat,a<d.n→(ints d.tag)[(a:Int).toNat]? =some [i64 (d.tg a)]:=λa ha=>by
      rw[Int.toNat_natCast]
      refine c7 ?_
      unfold aw.tg kA
      rw[aaG ha]
      show _=some (d.tag.getD a 0)
      rw[aaN,aaI (by omega)];rfl
     have sf:d.tg d.n= -1:=by unfold aw.tg kA;rw[aaF (ab9 _)]
     have qq:=MO (j:=j) h
     have aU:=Yq h h2
     have cq:=Yk d j i
     have qt:(dF (lr d i j))[(0+(i:Int).toNat)*1+0]? =some (true,bT (iT d j i)):=by rw[iu];exact qq
     have cj:(bT (iT d j i)).length=d.n+1:=by rw[mP];exact cq
     have bm:(bT (iT d j i))[(j:Int).toNat]? =some [.b false]:=by
      rw[Int.toNat_natCast,qg (by rw[cq];exact h2)]
      unfold iT
      simp[aaN,h2]
     by_cases bp:i<d.n<;>by_cases dZ:j<d.n
     ·have hv:intCm .neq (d.tg i) (d.tg j)=jY d i j:=by
       unfold jY
       rw[Aq]
      (refine ai ?_)
      (refine aB ?_)
      refine aJ (nV i bp) ?_
      (refine ai ?_)
      (refine aB ?_)
      refine aJ (nV j dZ) ?_
      (refine ai ?_)
      refine⟨true,_,qt,rfl,?_⟩
      (refine ai ?_)
      refine⟨_,[.b false],_,⟨qt,bm,acR 0⟩,rfl,?_⟩
      (refine ai ?_)
      refine⟨j+1,h2,(show d.n+1 - (j+1)<d.n+1 - j by omega),⟨rfl,rfl⟩,?_,?_⟩
      ·(refine a8 ?_)
       all_goals first|rfl|exact cL (by omega)
      ·(refine a8 ?_)
       all_goals first|exact jo (by rw[iu,Int.toNat_natCast,←aU,←hv];rfl)
     ·have hv:intCm .neq (d.tg i) (-1)=jY d i j:=by
       unfold jY
       rw[Aq,show d.tg j= -1 by rw[show j=d.n by omega];exact sf]
      (refine ai ?_)
      (refine aB ?_)
      refine aJ (nV i bp) ?_
      (refine ai ?_)
      (refine aB ?_)
      refine⟨true,_,qt,rfl,?_⟩
      (refine ai ?_)
      refine⟨_,[.b false],_,⟨qt,bm,acR 0⟩,rfl,?_⟩
      (refine ai ?_)
      refine⟨j+1,h2,(show d.n+1 - (j+1)<d.n+1 - j by omega),⟨rfl,rfl⟩,?_,?_⟩
      ·(refine a8 ?_)
       all_goals first|rfl|exact cL (by omega)
      ·(refine a8 ?_)
       all_goals first|exact jo (by rw[iu,Int.toNat_natCast,←aU,←hv];rfl)
     ·have hv:intCm .neq (-1) (d.tg j)=jY d i j:=by
       unfold jY
       rw[Aq,show d.tg i= -1 by rw[show i=d.n by omega];exact sf]
      (refine ai ?_)
      (refine aB ?_)
      refine aJ (nV j dZ) ?_
      (refine ai ?_)
      refine⟨true,_,qt,rfl,?_⟩
      (refine ai ?_)
      refine⟨_,[.b false],_,⟨qt,bm,acR 0⟩,rfl,?_⟩
      (refine ai ?_)
      refine⟨j+1,h2,(show d.n+1 - (j+1)<d.n+1 - j by omega),⟨rfl,rfl⟩,?_,?_⟩
      ·(refine a8 ?_)
       all_goals first|rfl|exact cL (by omega)
      ·(refine a8 ?_)
       all_goals first|exact jo (by rw[iu,Int.toNat_natCast,←aU,←hv];rfl)
     ·have hv:intCm .neq (-1) (-1)=jY d i j:=by
       unfold jY
       rw[Aq,show d.tg i= -1 by rw[show i=d.n by omega];exact sf,show d.tg j= -1 by rw[show j=d.n by omega];exact sf]
      (refine ai ?_)
      (refine aB ?_)
      refine⟨true,_,qt,rfl,?_⟩
      (refine ai ?_)
      refine⟨_,[.b false],_,⟨qt,bm,acR 0⟩,rfl,?_⟩
      (refine ai ?_)
      refine⟨j+1,h2,(show d.n+1 - (j+1)<d.n+1 - j by omega),⟨rfl,rfl⟩,?_,?_⟩
      ·(refine a8 ?_)
       all_goals first|rfl|exact cL (by omega)
      ·(refine a8 ?_)
       all_goals first|exact jo (by rw[iu,Int.toNat_natCast,←aU,←hv];rfl)
    ·have gC:j=d.n+1:=by have h:((d.n+1:Nat):Int)≤j:=h2;omega
     subst gC
     (refine ai ?_)
     refine⟨i+1,h,(show d.n+1 - (i+1)<d.n+1 - i by omega),⟨rfl,rfl⟩,?_,?_⟩
     ·(refine a8 ?_)
      all_goals first|rfl|exact cL (by omega)
     ·(refine a8 ?_)
      all_goals first|exact jo (by rw[Yr])
  ·have br:i=d.n+1:=by have h:((d.n+1:Nat):Int)≤i:=h;omega
   subst br
   obtain⟨C,hC⟩:∃C:Nat,d.cls=(C:Int):=⟨d.cls.toNat,by omega⟩
   have hCt:d.cls.toNat=C:=by rw[hC,Int.toNat_natCast]
   have cr:∀s c,s<d.n+1→c<d.cls.toNat→d.go s c<d.n+1:=λs c _ hc=>aw.zU hm s c (by omega)
   (refine ai ?_)
   refine⟨[],List (List Bool)×Bool,λx=>⟨[(1,.ptr 0 259 0 0),(3,.p (i64 (d.n+1:Nat))),(4,.sl 1 1 0 (d.n+1) none),(9,.p (.b x.2))],[.ax 256 (aO d.o) (d.rest.map .p),.pn 1 1 (dF x.1) none]⟩,
    λx=>l5 d x.1 x.2,λx=>2*mS x.1+(if x.2=true then 1 else 0),⟨(lZ (d.n+1) (jY d),true),l5.start d,⟨rfl,rfl⟩,?_,?_⟩,λx hx=>?_⟩
   ·(exact cI)
    all_goals first|rfl
   ·(refine a8 ?_)
    all_goals first|exact jo (by rw[Ys])
   ·obtain⟨M,ag⟩:=x
    have hx:l5 d M ag:=hx
    cases ag with
    |false=>
     obtain rfl:=hx.final hm
     have e_:d.n+1=(dF (qp d)).length:=by rw[Yi];exact hx.sq.len.symm
     (refine ai ?_)
     refine⟨.p (.au 1 ((qp d).map qo) none),[],⟨rfl,rfl⟩,⟨rfl,rfl⟩,?_,.nil _⟩
     exact ah.xD rfl rfl e_ (by rw[Yj];exact .refl _)
    |true=>
     (refine ai ?_)
     refine⟨[],(List (List Bool)×Bool)×Nat,λx=>⟨[(1,.ptr 0 259 0 0),(3,.p (i64 (d.n+1:Nat))),(4,.sl 1 1 0 (d.n+1) none),(9,.p (.b x.1.2)),(10,.p (i64 x.2))],[.ax 256 (aO d.o) (d.rest.map .p),.pn 1 1 (dF x.1.1) none]⟩,
      λx=>x.2≤d.n+1∧gu d.go d.tg d.cls.toNat (d.n+1) M x.1.1 x.1.2 (λa _ _=>a<x.2),λx=>d.n+1 - x.2,⟨((M,false),0),⟨aaP _,hx.open.mono λa b c _ _ _ h=>by omega⟩,⟨rfl,rfl⟩,?_,?_⟩,λx Yu=>?_⟩
     ·(refine a8 ?_)
      all_goals first|rfl
     ·(refine a8 ?_)
      all_goals first|exact .pn
     ·obtain⟨⟨M1,Fa⟩,i⟩:=x
      obtain⟨hi,h6⟩:=Yu
      have hi:i≤d.n+1:=hi
      have h6:gu d.go d.tg d.cls.toNat (d.n+1) M M1 Fa (λa _ _=>a<i):=h6
      (refine ai ?_)
      refine jk (λh=>?_) (λh=>?_)
      ·have h:i<d.n+1:=by have h:(i:Int)<(d.n+1:Nat):=h;omega
       (refine ai ?_)
       refine⟨[],(List (List Bool)×Bool)×Nat,λx=>⟨[(1,.ptr 0 259 0 0),(3,.p (i64 (d.n+1:Nat))),(4,.sl 1 1 0 (d.n+1) none),(9,.p (.b x.1.2)),(10,.p (i64 i)),(11,.p (i64 x.2))],[.ax 256 (aO d.o) (d.rest.map .p),.pn 1 1 (dF x.1.1) none]⟩,
        λx=>x.2≤d.n+1∧gu d.go d.tg d.cls.toNat (d.n+1) M x.1.1 x.1.2 (λa b _=>a<i∨a=i∧b<x.2),λx=>d.n+1 - x.2,⟨((M1,Fa),0),⟨aaP _,h6.mono λa b c _ _ _ h=>by omega⟩,⟨rfl,rfl⟩,?_,?_⟩,λx Yv=>?_⟩
       ·(refine a8 ?_)
        all_goals first|rfl
       ·(refine a8 ?_)
        all_goals first|exact .pn
       ·obtain⟨⟨M2,Fb⟩,j⟩:=x
        obtain⟨hj,h8⟩:=Yv
        have hj:j≤d.n+1:=hj
        have h8:gu d.go d.tg d.cls.toNat (d.n+1) M M2 Fb (λa b _=>a<i∨a=i∧b<j):=h8
        (refine ai ?_)
        refine jk (λh2=>?_) (λh2=>?_)
        ·have h2:j<d.n+1:=by have h:(j:Int)<(d.n+1:Nat):=h2;omega
         (refine ai ?_)
         refine⟨[],(List (List Bool)×Bool)×Nat,λx=>⟨[(1,.ptr 0 259 0 0),(3,.p (i64 (d.n+1:Nat))),(4,.sl 1 1 0 (d.n+1) none),(9,.p (.b x.1.2)),(10,.p (i64 i)),(11,.p (i64 j)),(12,.p (i64 x.2))],[.ax 256 (aO d.o) (d.rest.map .p),.pn 1 1 (dF x.1.1) none]⟩,
          λx=>x.2≤C∧gu d.go d.tg d.cls.toNat (d.n+1) M x.1.1 x.1.2 (λa b c=>(a<i∨a=i∧b<j)∨a=i∧b=j∧c<x.2),λx=>C - x.2,⟨((M2,Fb),0),⟨aaP _,h8.mono λa b c _ _ _ h=>by omega⟩,⟨rfl,rfl⟩,?_,?_⟩,λx Yw=>?_⟩
         ·(refine a8 ?_)
          all_goals first|rfl
         ·(refine a8 ?_)
          all_goals first|exact .pn
         ·obtain⟨⟨M3,Ar⟩,c⟩:=x
          obtain⟨hc,kc⟩:=Yw
          have hc:c≤C:=hc
          have kc:gu d.go d.tg d.cls.toNat (d.n+1) M M3 Ar (λa b c'=>(a<i∨a=i∧b<j)∨a=i∧b=j∧c'<c):=kc
          have qq:(dF M3)[(0+(i:Int).toNat)*1+0]? =some (true,bT (M3.getD i [])):=by rw[show(0+(i:Int).toNat)*1+0=i by omega];exact MN kc.sq h
          have bm:(bT (M3.getD i []))[(j:Int).toNat]? =some [.b (dU M3 i j)]:=by rw[Int.toNat_natCast];exact E8 kc.sq h h2
          have cj:(bT (M3.getD i [])).length=d.n+1:=by rw[mP];exact kc.sq.row i h
          by_cases uA:c<C
          ·have Fc:d.go i c<d.n+1:=cr i c h (by omega)
           have Yx:d.go j c<d.n+1:=cr j c h2 (by omega)
           cases hv:dU M3 i j with
           |true=>
            rw[hv]at bm
            (refine ai ?_)
            (refine aB ?_)
            refine⟨true,_,qq,rfl,?_⟩
            (refine ai ?_)
            (refine aB ?_)
            refine⟨_,_,qq,bm,?_⟩
            (refine ai ?_)
            refine⟨((M3,Ar),j+1),⟨h2,kc.pass λa b c' _ _ _ h=>?_⟩,(show d.n+1 - (j+1)<d.n+1 - j by omega),⟨rfl,rfl⟩,?_,?_⟩
            ·by_cases As:a=i∧b=j
             ·exact .inr λhf=>by rw[As.1,As.2,hv]at hf;cases hf
             ·have h:a<i∨a=i∧b<j+1:=h
              exact .inl (.inl (by omega))
            ·(refine a8 ?_)
             all_goals first|rfl|exact cL (by omega)
            ·(refine a8 ?_)
             all_goals first|exact .pn
           |false=>
            rw[hv]at bm
            have Yy:=MM d hd hm i c h (by omega)
            have MQ:=MM d hd hm j c h2 (by omega)
            generalize E_:d.go i c=i3 at*
            generalize MR:d.go j c=j3 at*
            have Au:(dF M3)[(0+(i3:Int).toNat)*1+0]? =some (true,bT (M3.getD i3 [])):=by rw[show(0+(i3:Int).toNat)*1+0=i3 by omega];exact MN kc.sq Fc
            have Av:(bT (M3.getD i3 []))[(j3:Int).toNat]? =some [.b (dU M3 i3 j3)]:=by rw[Int.toNat_natCast];exact E8 kc.sq Fc Yx
            have aaz:(bT (M3.getD i3 [])).length=d.n+1:=by rw[mP];exact kc.sq.row i3 Fc
            (refine ai ?_)
            (refine aB ?_)
            refine⟨true,_,qq,rfl,?_⟩
            (refine ai ?_)
            (refine aB ?_)
            refine⟨_,_,qq,bm,?_⟩
            (refine ai ?_)
            refine aH Yy rfl rfl ?_
            cases Aw:dU M3 i3 j3 with
            |true=>
             rw[Aw]at Av
             (refine ai ?_)
             refine⟨true,_,Au,rfl,?_⟩
             (refine ai ?_)
             refine aH MQ rfl rfl ?_
             (refine ai ?_)
             (refine aB ?_)
             refine⟨_,_,Au,Av,?_⟩
             (refine ai ?_)
             refine⟨true,_,qq,rfl,?_⟩
             (refine ai ?_)
             (refine aB ?_)
             refine⟨_,[.b false],_,⟨qq,bm,acR 0⟩,rfl,?_⟩
             (refine ai ?_)
             refine⟨((mR M3 i j,true),c+1),⟨uA,kc.mark h h2 (c:=c) (by omega) hv (by rw[E_,MR];exact Aw) cr⟩,(show C - (c+1)<C - c by omega),⟨rfl,rfl⟩,?_,?_⟩
             ·(refine a8 ?_)
              all_goals first|rfl|exact cL (by omega)
             ·(refine a8 ?_)
              all_goals first|exact jo (by rw[show(0+(i:Int).toNat)*1+0=i by omega,Int.toNat_natCast];exact Yh M3 i j)
            |false=>
             rw[Aw]at Av
             (refine ai ?_)
             refine⟨true,_,Au,rfl,?_⟩
             (refine ai ?_)
             refine aH MQ rfl rfl ?_
             (refine ai ?_)
             (refine aB ?_)
             refine⟨_,_,Au,Av,?_⟩
             (refine ai ?_)
             refine⟨((M3,Ar),c+1),⟨uA,kc.pass λa b c' _ _ _ h=>?_⟩,(show C - (c+1)<C - c by omega),⟨rfl,rfl⟩,?_,?_⟩
             ·have h:(a<i∨a=i∧b<j)∨a=i∧b=j∧c'<c+1:=h
              by_cases As:a=i∧b=j∧c'=c
              ·obtain⟨rfl,rfl,rfl⟩:=As
               exact .inr λ_=>by rw[E_,MR];exact Aw
              ·exact .inl (by omega)
             ·(refine a8 ?_)
              all_goals first|rfl|exact cL (by omega)
             ·(refine a8 ?_)
              all_goals first|exact .pn
          ·(refine ai ?_)
           (refine aB ?_)
           refine⟨((M3,Ar),j+1),⟨h2,kc.mono λa b c' _ _ nm h=>?_⟩,(show d.n+1 - (j+1)<d.n+1 - j by omega),⟨rfl,rfl⟩,?_,?_⟩
           ·have h:a<i∨a=i∧b<j+1:=h
            omega
           ·(refine a8 ?_)
            all_goals first|rfl|exact cL (by omega)
           ·(refine a8 ?_)
            all_goals first|exact .pn
        ·have gC:j=d.n+1:=by have h:((d.n+1:Nat):Int)≤j:=h2;omega
         subst gC
         (refine ai ?_)
         refine⟨((M2,Fb),i+1),⟨h,h8.mono λa b c _ hb _ h=>by have h:a<i+1:=h;omega⟩,(show d.n+1 - (i+1)<d.n+1 - i by omega),⟨rfl,rfl⟩,?_,?_⟩
         ·(refine a8 ?_)
          all_goals first|rfl|exact cL (by omega)
         ·(refine a8 ?_)
          all_goals first|exact .pn
      ·have br:i=d.n+1:=by have h:((d.n+1:Nat):Int)≤i:=h;omega
       subst br
       obtain⟨hA,aq⟩:=l5.shut h6 λa b c ha _ _=>ha
       (refine ai ?_)
       refine⟨(M1,Fa),hA,aq,⟨rfl,rfl⟩,?_,?_⟩
       ·(exact cI)
        all_goals first|rfl
       ·(refine a8 ?_)
        all_goals first|exact .pn
end Hk
namespace Hk
open Go Go.Proofs
open Classical
theorem Yz(d:aw):Sq (d.n+1) (qp d):=MP _ _
theorem YA{d:aw}{i j:Nat}(hi:i<d.n+1)(hj:j<d.n+1):dU (qp d) i j=decide (¬cN d.go d.tg d.cls.toNat i j):=by
 unfold qp
 rw[E9 hi hj]
 rw[abn,@aca _ (propDecidable _),aa7]
noncomputable def kE (d:aw)(i j:Nat):Bool:=decide (∀b,b<j→¬cN d.go d.tg d.cls.toNat i b)
noncomputable def gG (d:aw)(i:Nat):List (List Nat):=((List.range i).filter λa=>kE d a a).map (eR d.go d.tg d.cls.toNat d.n)
noncomputable def lu (d:aw)(i j:Nat):List Nat:=(List.range j).filter λb=>decide (cN d.go d.tg d.cls.toNat i b)
theorem YB(d:aw)(i:Nat):gG d (i+1)=gG d i++if kE d i i=true then[eR d.go d.tg d.cls.toNat d.n i]else[]:=by
 unfold gG
 rw[abH,abD,abb]
 congr 1
 by_cases h:kE d i i=true<;>simp[h]
theorem YC(d:aw)(i:Nat):(gG d i).length≤i:=by
 unfold gG
 rw[aaR]
 exact aa2 (abO _ _) (by simp)
theorem YD(d:aw)(i j:Nat):(lu d i j).length≤j:=aa2 (abO _ _) (by simp)
theorem YE{d:aw}{i:Nat}(h:kE d i i=true):lu d i i=[]:=by
 unfold lu
 rw[acz]
 intro b hb
 have:=abG h b (aaT.1 hb)
 simpa using this
theorem YF(d:aw)(i j:Nat):lu d i (j+1)=lu d i j++if cN d.go d.tg d.cls.toNat i j then[j]else[]:=by
 unfold lu
 rw[abH,abD]
 congr 1
 by_cases h:cN d.go d.tg d.cls.toNat i j<;>simp[h]
theorem YG(d:aw)(i j:Nat):kE d i (j+1)=(kE d i j&&decide (¬cN d.go d.tg d.cls.toNat i j)):=by
 unfold kE
 rw[abn,aaQ,aa7,aa7,aa7]
 constructor
 ·intro h;exact⟨λb hb=>h b (by omega),h j (by omega)⟩
 ·rintro ⟨h1,h2⟩ b hb
  by_cases e:b=j
  ·rw[e];exact h2
  ·exact h1 b (by omega)
theorem YH(d:aw)(hd:d.Fit)(hm:d.may=true):PF Tryz.prog 33 [d.pv] (.au 1 ((gq d).map bJ) none):=by
 have hn:d.n≤600:=(aw.fL hm).1
 have cd:(d.next.map aQ).length=d.n:=by simp[aw.n]
 have oH:=Yt d hd hm
 have xg:=Yz d
 have fe:=λi j (hi:i<d.n+1) (hj:j<d.n+1)=>YA (d:=d) hi hj
 have cj:gG d d.n=gq d:=rfl
 generalize qp d=M at oH xg fe
 have hMl:(M.map qo).length=d.n+1:=by rw[aaR];exact xg.len
 have Fe:∀i:Nat,i<d.n→(M.map qo)[(i:Int).toNat]? =some [.au 1 (bT (M.getD i [])) none]:=λi hi=>by
  rw[Int.toNat_natCast,aaM,aaN,aaI (by rw[xg.len];omega)];rfl
 have pP:∀i j:Nat,i<d.n→j<d.n→(bT (M.getD i []))[(j:Int).toNat]? =some [.b (dU M i j)]:=λi j hi hj=>by
  rw[Int.toNat_natCast];exact E8 xg (by omega) (by omega)
 have YI:∀i:Nat,i<d.n→(bT (M.getD i [])).length=d.n+1:=λi hi=>by rw[mP];exact xg.row i (by omega)
 refine aY [[1,3,4,5,26,27,28,29,30,31,32],[1,3,4,5,6,7,26,27,28,29,30,31,32],[1,3,4,5,8,9,26,27,28,29,30,31,32]] [] ?_
 (refine ai ?_)
 refine⟨_,d.rest.map .p,bO (rest:=d.rest),⟨rfl,bH _,rfl⟩,?_⟩
 (refine ai ?_)
 refine aH oH rfl rfl ?_
 (refine ai ?_)
 refine⟨[.slot 4 1],Nat,λi=>⟨[(1,.ptr 0 259 0 0),(3,.p (.au 1 (M.map qo) none)),(4,.sl 1 1 0 (gG d i).length none),(5,.p (i64 i))],[.ax 256 (aO d.o) (d.rest.map .p),.pr 1 ((gG d i).map bJ)]⟩,
  λi=>i≤d.n,λi=>d.n - i,⟨0,aaP _,⟨rfl,rfl⟩,?_,?_⟩,λi hi=>?_⟩
 ·(refine a8 ?_)
  all_goals first|rfl
 ·(refine a8 ?_)
  all_goals first|rfl
 ·have hi:i≤d.n:=hi
  have qW:=YC d i
  have gB:=YB d i
  by_cases h:i<d.n
  ·have kS:=YI i h
   (refine ai ?_)
   (refine aB ?_)
   refine⟨[],Nat,λj=>⟨[(1,.ptr 0 259 0 0),(3,.p (.au 1 (M.map qo) none)),(4,.sl 1 1 0 (gG d i).length none),(5,.p (i64 i)),(6,.p (.b (kE d i j))),(7,.p (i64 j))],[.ax 256 (aO d.o) (d.rest.map .p),.pr 1 ((gG d i).map bJ)]⟩,
    λj=>j≤i,λj=>i - j,⟨0,aaP _,⟨rfl,rfl⟩,?_,?_⟩,λj hj=>?_⟩
   ·(refine dE ?_ ?_)
    all_goals first|rfl|exact aaH PV.b (aa5 (λb hb=>absurd hb (ab_ b))).symm
   ·(exact cI)
    all_goals first|rfl
   ·have hj:j≤i:=hj
    by_cases h2:j<i
    ·have bn:=pP i j h (by omega)
     have hg:=fe i j (by omega) (by omega)
     have qN:=YG d i j
     cases hf:kE d i j with
     |true=>
      show awp _ _ _ ⟨[_,_,_,_,(6,.p (.b (kE d i j))),_],_⟩
      rw[hf]at qN ⊢
      (refine ai ?_)
      (refine aB ?_)
      refine aJ (Fe i h) ?_
      (refine ai ?_)
      (refine aB ?_)
      refine aJ bn ?_
      (refine ai ?_)
      refine⟨j+1,h2,(show i - (j+1)<i - j by omega),⟨rfl,rfl⟩,?_,?_⟩
      ·(refine dE ?_ ?_)
       all_goals first|exact cL (by omega)|exact aaH PV.b (by rw[qN,←hg];rfl)
      ·(exact cI)
     |false=>
      show awp _ _ _ ⟨[_,_,_,_,(6,.p (.b (kE d i j))),_],_⟩
      rw[hf]at qN ⊢
      (refine ai ?_)
      (refine aB ?_)
      refine⟨j+1,h2,(show i - (j+1)<i - j by omega),⟨rfl,rfl⟩,?_,?_⟩
      ·(refine dE ?_ ?_)
       all_goals first|exact cL (by omega)|exact aaH PV.b (by rw[qN];rfl)
      ·(exact cI)
    ·have gC:j=i:=by omega
     subst gC
     cases hf:kE d j j with
     |false=>
      show awp _ _ _ ⟨[_,_,_,_,(6,.p (.b (kE d j j))),_],_⟩
      rw[hf]at gB ⊢
      have gB:gG d (j+1)=gG d j:=by rw[gB];exact abF _
      (refine ai ?_)
      (refine aB ?_)
      refine⟨j+1,h,(show d.n - (j+1)<d.n - j by omega),⟨rfl,rfl⟩,?_,?_⟩
      ·(refine dE ?_ ?_)
       all_goals first|exact cL (by omega)|exact ah.sle (by rw[gB]) rfl
      ·(refine a8 ?_)
       all_goals first|exact aaH (List.map bJ) gB.symm
     |true=>
      show awp _ _ _ ⟨[_,_,_,_,(6,.p (.b (kE d j j))),_],_⟩
      rw[hf]at gB ⊢
      have gB:gG d (j+1)=gG d j++[eR d.go d.tg d.cls.toNat d.n j]:=by rw[gB];rfl
      have aU:=YE hf
      (refine ai ?_)
      (refine aB ?_)
      refine⟨[.slot 8 1],Nat,λk=>⟨[(1,.ptr 0 259 0 0),(3,.p (.au 1 (M.map qo) none)),(4,.sl 1 1 0 (gG d j).length none),(5,.p (i64 j)),(8,.sl 2 1 0 (lu d j k).length none),(9,.p (i64 k))],[.ax 256 (aO d.o) (d.rest.map .p),.pr 1 ((gG d j).map bJ),.pr 1 (aG (lu d j k))]⟩,
       λk=>k≤d.n,λk=>d.n - k,⟨j,hi,⟨rfl,rfl⟩,?_,?_⟩,λk hk=>?_⟩
      ·(refine a8 ?_)
       all_goals first|rfl|exact ah.sle (by rw[aU];rfl) rfl
      ·(refine a8 ?_)
       all_goals first|(rw[aU];rfl)
      ·have hk:k≤d.n:=hk
       have b0:=YD d j k
       have dA:=YF d j k
       by_cases o_:k<d.n
       ·have bn:=pP j k h o_
        have hg:=fe j k (by omega) (by omega)
        have dR:0+(lu d j k).length=(aG (lu d j k)).length:=by rw[cQ,aaL]
        by_cases ha:cN d.go d.tg d.cls.toNat j k
        ·rw[hg,aa_ (λh=>h ha)]at bn
         rw[aaG ha]at dA
         (refine ai ?_)
         (refine aB ?_)
         refine aJ (Fe j h) ?_
         (refine ai ?_)
         (refine aB ?_)
         refine aJ bn ?_
         (refine ai ?_)
         refine And.intro (lU (by omega)) ?_
         (refine ai ?_)
         refine⟨k+1,o_,(show d.n - (k+1)<d.n - k by omega),⟨rfl,rfl⟩,?_,?_⟩
         ·(refine dE ?_ ?_)
          all_goals first|exact cL (by omega)|exact ah.sle (by rw[dA,aaV];rfl) rfl
         ·(refine a8 ?_)
          all_goals first|(rw[dA,Aa];rfl)
        ·rw[hg,aa5 ha]at bn
         rw[aaF ha,abF]at dA
         (refine ai ?_)
         (refine aB ?_)
         refine aJ (Fe j h) ?_
         (refine ai ?_)
         (refine aB ?_)
         refine aJ bn ?_
         (refine ai ?_)
         refine⟨k+1,o_,(show d.n - (k+1)<d.n - k by omega),⟨rfl,rfl⟩,?_,?_⟩
         ·(refine dE ?_ ?_)
          all_goals first|exact cL (by omega)|exact ah.sle (by rw[dA]) rfl
         ·(refine a8 ?_)
          all_goals first|exact aaH aG dA.symm
       ·have kY:k=d.n:=by omega
        subst kY
        have dR:(aG (lu d j d.n)).length=(lu d j d.n).length:=cQ _
        have Xz:0+(gG d j).length=((gG d j).map bJ).length:=by rw[aaR,aaL]
        (refine ai ?_)
        (refine aB ?_)
        refine⟨aG (lu d j d.n),eF (aby dR),dR,lz.kill ?_⟩
        (refine ai ?_)
        refine And.intro (uz (by omega)) ?_
        (refine ai ?_)
        refine⟨j+1,h,(show d.n - (j+1)<d.n - j by omega),⟨rfl,rfl⟩,?_,?_⟩
        ·(refine dE ?_ ?_)
         all_goals first|exact cL (by omega)|exact ah.sle (by rw[gB];exact Mh _ _) rfl
        ·(refine a8 ?_)
         all_goals first|(rw[gB];exact Mi _ _)
  ·have br:i=d.n:=by omega
   subst br
   have di:((gG d d.n).map bJ).length=(gG d d.n).length:=aaR ..
   (refine ai ?_)
   (refine aB ?_)
   refine⟨.p (.au 1 ((gG d d.n).map bJ) none),[],⟨by rw[cj],rfl⟩,⟨rfl,rfl⟩,?_,.nil _⟩
   exact ah.dI rfl rfl (eF (aby di)) di (.refl _)
end Hk

namespace Hk
open Go Go.Proofs
theorem MS(d:aw):PF Tryz.prog 31 [d.pv] (.b (lO d||decide (40<d.next.length))):=by
 have hg:=Uw d
 have cd:(d.next.map aQ).length=d.next.length:=aaR ..
 cases hv:lO d with
 |true=>
  rw[hv]at hg
  refine aY [] [] ?_
  (refine ai ?_)
  refine⟨_,d.rest.map .p,bO (rest:=d.rest),⟨rfl,bH _,rfl⟩,?_⟩
  (refine ai ?_)
  refine aH hg rfl rfl ?_
  (refine ai ?_)
  exact aM rfl rfl rfl
 |false=>
  rw[hv]at hg
  refine aY [] [] ?_
  (refine ai ?_)
  refine⟨_,d.rest.map .p,bO (rest:=d.rest),⟨rfl,bH _,rfl⟩,?_⟩
  (refine ai ?_)
  refine aH hg rfl rfl ?_
  (refine ai ?_)
  refine aM rfl rfl (aaH PV.b ?_)
  show decide ((((d.next.map aQ).length:Nat):Int)>40)=_
  rw[cd,acU]
  by_cases h:40<d.next.length
  ·rw[aa5 h,aa5 (by omega)]
  ·rw[aa_ h,aa_ (by omega)]
theorem YJ(a:List Int)(ha:a.length<2^40):PF Tryz.prog 34 [.au 1 (ints a) none,.au 1 (ints a) none] (.b true):=by
 have cz:=bR a
 refine aY [[0,1,5]] [[2,5,8,11,14,17,20,23,26]] ?_
 (refine ai ?_)
 (refine aB ?_)
 refine⟨[],Nat,λi=>⟨[(0,.p (.au 1 (ints a) none)),(1,.p (.au 1 (ints a) none)),(5,.p (i64 i))],[]⟩,λi=>i≤a.length,λi=>a.length - i,⟨0,aaP _,⟨rfl,rfl⟩,?_,?_⟩,λi hi=>?_⟩
 ·(refine a8 ?_)
  all_goals rfl
 ·(exact cI)
 ·have hi:i≤a.length:=hi
  by_cases h:i<a.length
  ·obtain⟨x,hx⟩:∃x,a[i]? =some x:=⟨_,aaI h⟩
   have hg:(ints a)[(i:Int).toNat]? =some [i64 x]:=by rw[Int.toNat_natCast];exact c7 hx
   (refine ai ?_)
   (refine aB ?_)
   refine aJ hg ?_
   (refine ai ?_)
   (refine aB ?_)
   refine aJ hg ?_
   (refine ai ?_)
   (refine aB ?_)
   refine⟨i+1,h,(show a.length - (i+1)<a.length - i by omega),⟨rfl,rfl⟩,?_,?_⟩
   ·(refine a8 ?_)
    exact cL (by omega)
   ·(exact cI)
  ·have br:i=a.length:=by omega
   subst br
   (refine ai ?_)
   (refine aB ?_)
   exact aM rfl rfl rfl
theorem YK(d:aw)(hg:(lO d||decide (40<d.next.length))=true):PF Tryz.prog 6 [d.pv] (.b true):=by
 have ha:=MI
 have b7:=MS d
 rw[hg]at b7
 refine aY [[3,4,5]] [[2,5,8,11,14,17,20,23,28,29]] ?_
 (refine ai ?_)
 refine⟨_,d.rest.map .p,bO (rest:=d.rest),⟨rfl,bH _,rfl⟩,?_⟩
 (refine ai ?_)
 refine aH ha rfl rfl ?_
 (refine ai ?_)
 refine aH b7 rfl rfl ?_
 (refine ai ?_)
 exact aM rfl rfl rfl
theorem YL(d:aw)(hF:d.Fit)(hg:(lO d||decide (40<d.next.length))=false):PF Tryz.prog 6 [d.pv] (.b true):=by
 have ha:=MI
 have b7:=MS d
 rw[hg]at b7
 have MT:=Uv d
 have fu:=UP d hF
 cases hm:d.may with
 |false=>
  rw[hm]at fu
  have hb:=Xo d hF hm
  refine aY [[3,4,5]] [[2,5,8,11,14,17,20,23,28,29]] ?_
  (refine ai ?_)
  refine⟨_,d.rest.map .p,bO (rest:=d.rest),⟨rfl,bH _,rfl⟩,?_⟩
  (refine ai ?_)
  refine aH ha rfl rfl ?_
  (refine ai ?_)
  refine aH b7 rfl rfl ?_
  (refine ai ?_)
  refine aH MT rfl rfl ?_
  (refine ai ?_)
  refine aH hb rfl rfl ?_
  (refine ai ?_)
  refine aH fu rfl rfl ?_
  (refine ai ?_)
  exact aM rfl rfl rfl
 |true=>
  rw[hm]at fu
  have hb:=Ml d hF hm
  have hr:=YH d hF hm
  have hP:pg d.n (gq d):=z6 ..
  have hn:d.n≤600:=(aw.fL hm).1
  have LY:=hP.len
  have iM:=hP.ll
  generalize gq d=B at*
  have di:(B.map bJ).length=B.length:=aaR ..
  refine aY [[3,4,5]] [[2,5,8,11,14,17,20,23,28,29]] ?_
  (refine ai ?_)
  refine⟨_,d.rest.map .p,bO (rest:=d.rest),⟨rfl,bH _,rfl⟩,?_⟩
  (refine ai ?_)
  refine aH ha rfl rfl ?_
  (refine ai ?_)
  refine aH b7 rfl rfl ?_
  (refine ai ?_)
  refine aH MT rfl rfl ?_
  (refine ai ?_)
  refine aH hb rfl rfl ?_
  (refine ai ?_)
  refine aH fu rfl rfl ?_
  (refine ai ?_)
  refine aH hr rfl rfl ?_
  (refine ai ?_)
  (refine aB ?_)
  refine⟨[],Nat,λi=>⟨[(3,.p (.au 1 (B.map bJ) none)),(4,.p (.au 1 (B.map bJ) none)),(5,.p (i64 i))],[]⟩,λi=>i≤B.length,λi=>B.length - i,⟨0,aaP _,⟨rfl,rfl⟩,?_,?_⟩,λi hi=>?_⟩
  ·(refine a8 ?_)
   all_goals rfl
  ·(exact cI)
  ·have hi:i≤B.length:=hi
   by_cases h:i<B.length
   ·obtain⟨l,hl⟩:∃l,B[i]? =some l:=⟨_,aaI h⟩
    have gQ:(B.map bJ)[(i:Int).toNat]? =some [.au 1 (aG l) none]:=by rw[Int.toNat_natCast,aaM,hl];rfl
    have a_:=YJ (l.map λn:Nat=>(n:Int)) (by rw[aaR];have:=iM l (aaY hl);omega)
    rw[←uF]at a_
    (refine ai ?_)
    (refine aB ?_)
    refine aJ gQ ?_
    (refine ai ?_)
    (refine aB ?_)
    refine aJ gQ ?_
    (refine ai ?_)
    refine aH a_ rfl rfl ?_
    (refine ai ?_)
    refine⟨i+1,h,(show B.length - (i+1)<B.length - i by omega),⟨rfl,rfl⟩,?_,?_⟩
    ·(refine a8 ?_)
     exact cL (by omega)
    ·(exact cI)
   ·have br:i=B.length:=by omega
    subst br
    (refine ai ?_)
    (refine aB ?_)
    exact aM rfl rfl rfl
theorem YM(d:aw)(ho:∀b,b<256→d.o b<256):PF Tryz.prog 6 [d.pv] (.b true):=by
 cases hg:(lO d||decide (40<d.next.length))with
 |true=>exact YK d hg
 |false=>
  refine YL d (Ux ho ?_) hg
  rw[adg]at hg
  exact hg.1
end Hk
namespace Hk
open Go Go.ChangeShapes Go.WideShapes
def Kept(w w':World):Prop:=(∀(c:Nat) (o:Obj),w.heap[c]? =some o→w'.heap[c]? =some o)∧w.heap.size≤w'.heap.size∧w'.os=w.os∧w'.output=w.output
def iU:az:=⟨λ_=>none,λ_=>False,λ_=>False,[],False⟩
theorem MU(c:Nat):¬iU.M c:=by
 rintro (⟨b,o,s,h⟩|h)
 ·cases h
 ·exact h
inductive uI(w:World):List PV→List Value→Prop
 |nil:uI w [] []
 |cons {x:PV} {v:Value} {xs:List PV} {vs:List Value} (h:RP w (λc=>iU.M c) x v) (hs:uI w xs vs):uI w (x::xs) (v::vs)
theorem uI.get{w:World}{xs:List PV}{vs:List Value}(h:uI w xs vs):vs.length=xs.length∧∀(i:Nat) x,xs[i]? =some x→RP w iU.M x (vs.getD i undef):=by
 induction h with
 |nil=>exact⟨rfl,by simp⟩
 |cons h hs ih=>
  refine⟨by simp[ih.1],λi x hx=>?_⟩
  cases i with
  |zero=>simp at hx;subst hx;simpa using h
  |succ i=>simp at hx;simpa using ih.2 i x hx
theorem PF.true{P:Program}{f:Nat}{args:List PV}(h:PF P f args (.b true)){w:World}{vs:List Value}(ha:uI w args vs)(gQ:ga w iU.M):
 Calls P f vs.toArray w λe w'=>e=.returned (.bool true)∧Kept w w':=by
 obtain⟨h1,h2⟩:=ha.get
 have s5:=h.2 w iU vs.toArray (λh=>h) (λc hc=>hc.elim) ⟨gQ,λb=>(by simp[nth,RB,iU]),λb b' c o s o' s' h=>(by cases h),λb c o s h=>(by cases h),λb i=>HB.bare (by cases b<;>rfl) rfl⟩
  ⟨by simp[h1],λi x hx=>by
   rw[aaM]at hx
   obtain⟨y,hy,rfl⟩:=aaO.1 hx
   exact .p (by simpa using h2 i y hy)⟩
 refine s5.mono ?_
 rintro e w' ⟨r,v,aC,H',rfl,⟨rfl,rfl⟩,_,_,dB,_,hk,hs,_,dj,_⟩
 refine⟨by rw[pw dB],λc o hc=>hk c o (λ⟨b,o,s,hb⟩=>by cases hb) hc,hs,dj.1,dj.2⟩
theorem Kept.frame{w w':World}(h:Kept w w')(may:MemPlace→Prop):w.keptBut w' may:=by
 refine⟨h.2.2.1,h.2.2.2,λi hi=>?_⟩
 have e:=h.1 i _ (abh hi)
 rw[abh hi,e]
 cases w.heap[i]with
 |cells c t fr=>exact⟨rfl,rfl,rfl,λ_ _=>rfl⟩
 |map es cl=>exact .inr ⟨rfl,rfl⟩
 |_=>rfl
theorem Kept.frozen{w w':World}(h:Kept w w')(a:Addr)(ha:a.block<w.heap.size):w'.frozen? a=w.frozen? a:=by
 have e:=h.1 a.block _ (abh ha)
 simp only[World.frozen?,e,abh ha]
section
variable {H:Type} {enc:TypeId×Value→H} {P:Program}
theorem YN{f:Func}{s:ChangeSpec}{apart fresh handsOn again:Bool}{W W':World}{args:Array Value}{v:Value}{ds gs:List (DataW H)}{before pa pv:List MemPlace}
 (hW:DataW.Whole enc P f.params.toList s.vars apart W args.toList ds gs before)
 (nH:∀(b:Nat) (sp:Nat→Bool) (hd:Bool),DataW.TrodAll enc P W' b sp hd f.resultTypes.toList (v.resultList f.resultTypes.size) (s.fn H (ds++gs)).results [])
 (cS:∀sp:Nat→Bool,(∀p∈before,sp p.block=true)→DataW.TrodAll enc P W' 0 sp true f.params.toList args.toList (s.fn H (ds++gs)).args pa)
 (MV:∀sp:Nat→Bool,(∀p∈before,sp p.block=true)→DataW.TrodVars enc P W' sp s.vars (s.fn H (ds++gs)).vars pv)
 (kV:before=pa++pv) (hk:Kept W W')
 (aZ:∀(j:Nat) (t:TypeId) (r:Value),f.resultTypes[j]? =some t→(v.resultList f.resultTypes.size)[j]? =some r→Value.okWide P W' .any 0 t r):
 s.post enc P f apart fresh handsOn again W args v W':=by
 have aq:=hW.lt
 have hold:∀p∈before,(λb=>decide (b<W.heap.size)) p.block=true:=λp hp=>by simpa using aq p hp
 refine⟨ds,gs,before,[],pa,pv,hW,nH _ _ _,cS _ hold,MV _ hold,World.keptBut_mono (λp hp=>⟨hp,?_⟩) (hk.frame (·∈before)),λ_=>?_⟩
 ·rw[kV,abf]at hp;exact .inr hp
 ·obtain⟨_,_,_,_,_,hz,hn⟩:=hW
  refine⟨aZ,_,_,([]++pa)++pv,⟨[]++pa,pv,trodAll_append (cS _ (λ_ _=>rfl)) (nH _ _ _),MV _ (λ_ _=>rfl),rfl,?_,?_⟩,?_⟩
  ·intro b off hp
   have ji:MemPlace.cell b off∈before:=by rw[kV];simpa using hp
   rw[hk.frozen _ (aq _ ji)]
   exact hz b off ji
  ·intro ha
   have h0:=hn ha
   rw[kV]at h0
   simpa using h0
  ·intro p hp _
   rw[kV]
   simpa using hp
end
theorem RP.YO{w:World}{M:Nat→Prop}(a:ByteArray):RP w M (.str a.data.toList) (.string a):=.str a.data.toList
end Hk
namespace Hk
open Go Go.ChangeShapes Go.WideShapes Go.RowKit
inductive c8(P:Program):TypeId→List PV→Prop
 |b {t:TypeId} (x:Bool) (ht:P.underlying t=some .bool):c8 P t [.b x]
 |int {t:TypeId} {k:IntKind} {n:Int} (ht:P.underlying t=some (.int k)) (hw:(Lit.int k n).wf=true):c8 P t [.int k n]
 |str {t:TypeId} {l:List UInt8} (ht:P.underlying t=some .string) (hl:l.length≤maxLen):c8 P t [.str l]
 |nil {t e:TypeId} (ht:P.underlying t=some (.slice e)):c8 P t [.au 0 [] (some 0)]
 |sl {t e:TypeId} {rows:List (List PV)} (ht:P.underlying t=some (.slice e)) (hl:rows.length≤maxLen) (hr:∀(i:Nat) r,rows[i]? =some r→c8 P e r):c8 P t [.au (P.cellsOf e) rows none]
 |arr {t e:TypeId} {n:Nat} {parts:List (List PV)} (ht:P.underlying t=some (.array n e)) (hn:parts.length=n) (hr:∀(i:Nat) r,parts[i]? =some r→c8 P e r):c8 P t parts.flatten
 |struct {t:TypeId} {fs:Array Field} {parts:List (List PV)} (ht:P.underlying t=some (.struct fs)) (hn:parts.length=fs.size)
  (hr:∀(i:Nat) f r,fs[i]? =some f→parts[i]? =some r→c8 P f.type r):c8 P t parts.flatten
theorem Kept.at{W W':World}(hk:Kept W W'){i:Nat}(hi:i<W.heap.size):W'.heap[i]? =W.heap[i]?:=by
 have e:=hk.1 i _ (abh hi)
 rw[e,abh hi]
theorem Kept.same{W W':World}(hk:Kept W W'){p:MemPlace}(hp:p.block<W.heap.size):W.sameAt W' p:=by
 cases p with
 |cell b off=>
  have e:W'.heap[b]? =W.heap[b]?:=hk.at hp
  show W'.cell? _=W.cell? _
  simp only[World.cell?,e]
 |map b=>exact hk.at hp
theorem MW{H:Type}{enc:TypeId×Value→H}{P:Program}(hl:laidOutB P=true){W W':World}(hk:Kept W W'){sp:Nat→Bool}:
 ∀{ts:List TypeId} {vs:List Value} {ds:List (DataW H)} {ps:List MemPlace},(∀t∈ts,P.readableRec t=true∧t<P.types.size)→DataW.TrodAll enc P W 0 (λ_=>true) true ts vs ds ps→
  (∀p∈ps,p.block<W.heap.size)→(∀p∈ps,sp p.block=true)→DataW.TrodAll enc P W' 0 sp true ts vs ds ps
 |[],[],[],ps,_,h,_,_=>h
 |t::ts,v::vs,d::ds,ps,ht,h,aq,hs=>by
  obtain⟨p,q,h1,h2,rfl⟩:=h
  exact⟨p,q,WideElems.Trod_stays hl (ht t (by simp)).1 (ht t (by simp)).2 h1 (λx hx=>hk.same (aq x (by simp[hx]))) (λx hx=>hs x (by simp[hx])),
   MW hl hk (λt h=>ht t (by simp[h])) h2 (λx hx=>aq x (by simp[hx])) (λx hx=>hs x (by simp[hx])),rfl⟩
 |[],_::_,_,_,_,h,_,_=>h.elim
 |[],[],_::_,_,_,h,_,_=>h.elim
 |_::_,[],_,_,_,h,_,_=>h.elim
 |_::_,_::_,[],_,_,h,_,_=>h.elim
def denseF(P:Program)(L:List TypeId):Nat→List Field→Nat→Bool
 |off,[],total=>off==total
 |off,f::r,total=>f.offset==off&&L.contains f.type&&denseF P L (off+P.cellsOf f.type) r total
def MX(P:Program)(L:List TypeId):Bool:=L.all λt=>match P.underlying t with
 |some .bool|some (.int _)|some .string=>true
 |some (.slice e)=>L.contains e&&decide (0<P.cellsOf e)
 |some (.array n e)=>L.contains e&&P.cellsOf t==n*P.cellsOf e
 |some (.struct fs)=>denseF P L 0 fs.toList (P.cellsOf t)
 |_=>false
def kF(W:World)(xs:List PV)(cs:List Value):Prop:=xs.length=cs.length∧∀(i:Nat) x,xs[i]? =some x→x.one=true∧RP W iU.M x (cs.getD i undef)
theorem kF.one{W:World}{x:PV}{c:Value}(h1:x.one=true)(h:RP W iU.M x c):kF W [x] [c]:=by
 refine⟨rfl,λi y hi=>?_⟩
 cases i with
 |zero=>simp at hi;subst hi;exact⟨h1,by simpa using h⟩
 |succ i=>simp at hi
theorem kF.append{W:World}{xs ys:List PV}{cs ds:List Value}(h1:kF W xs cs)(h2:kF W ys ds):kF W (xs++ys) (cs++ds):=by
 refine⟨by simp[h1.1,h2.1],λi x hi=>?_⟩
 rw[abw]at hi
 split at hi
 ·rename_i aq
  obtain⟨g1,g2⟩:=h1.2 i x hi
  refine⟨g1,?_⟩
  have:i<cs.length:=by rw[←h1.1];exact aq
  simpa [abw,this]using g2
 ·rename_i dG
  obtain⟨g1,g2⟩:=h2.2 _ x hi
  refine⟨g1,?_⟩
  have:¬i<cs.length:=by rw[←h1.1];exact dG
  rw[h1.1]at g2
  simpa [abw,this]using g2
theorem xi{α β:Type}{f:α→Option β}:∀{l:List α} {r:List β},l.mapM f=some r→r.length=l.length∧∀(i:Nat) x,l[i]? =some x→∃y,r[i]? =some y∧f x=some y
 |[],r,h=>by simp at h;subst h;simp
 |x::xs,r,h=>by
  rw[ac5]at h
  cases hx:f x with
  |none=>rw[hx]at h;simp at h
  |some y=>
   rw[hx]at h
   cases hr:xs.mapM f with
   |none=>rw[hr]at h;simp at h
   |some r'=>
    rw[hr]at h
    simp at h
    subst h
    obtain⟨h1,h2⟩:=xi hr
    refine⟨by simp[h1],λi z hz=>?_⟩
    cases i with
    |zero=>simp at hz;subst hz;exact⟨y,rfl,hx⟩
    |succ i=>simp at hz;simpa using h2 i z hz
theorem MY{W:World}{Q:List PV→Prop}{sz:Nat}:∀(n:Nat) (cs:List Value),cs.length=n*sz→(∀i,i<n→∃xs,Q xs∧kF W xs ((cs.drop (i*sz)).take sz))→
 ∃parts:List (List PV),parts.length=n∧(∀r∈parts,Q r)∧kF W parts.flatten cs
 |0,cs,hl,_=>by
  have:cs=[]:=aa1 (by simpa using hl)
  subst this
  exact⟨[],rfl,by simp,rfl,by simp⟩
 |n+1,cs,hl,h=>by
  obtain⟨x0,q0,a0⟩:=h 0 (by omega)
  obtain⟨ps,h1,h2,h3⟩:=MY (Q:=Q) (W:=W) (sz:=sz) n (cs.drop sz) (by rw[abZ,hl,aaU,abC];omega) (λi hi=>by
   obtain⟨xs,q,a⟩:=h (i+1) (by omega)
   refine⟨xs,q,?_⟩
   rw[abI]
   rw[aaU,abC,acu]at a
   exact a)
  refine⟨x0::ps,by simp[h1],by simpa using ⟨q0,h2⟩,?_⟩
  rw[acf,adu]at a0
  have:=a0.append h3
  rwa [abY]at this
theorem MZ{P:Program}{L:List TypeId}{W:World}{cs:List Value}:∀(fs:List Field) (off:Nat),denseF P L off fs cs.length=true→
 (∀f∈fs,∃xs,c8 P f.type xs∧kF W xs ((cs.drop f.offset).take (P.cellsOf f.type)))→
 ∃parts:List (List PV),parts.length=fs.length∧(∀(i:Nat) f r,fs[i]? =some f→parts[i]? =some r→c8 P f.type r)∧kF W parts.flatten (cs.drop off)
 |[],off,hd,_=>by
  simp only[denseF,abv]at hd
  subst hd
  exact⟨[],rfl,by simp,by simp[kF]⟩
 |f::r,off,hd,h=>by
  simp only[denseF,aaQ,abv]at hd
  obtain⟨⟨ho,_⟩,hd⟩:=hd
  obtain⟨x0,s0,a0⟩:=h f (by simp)
  obtain⟨ps,h1,h2,h3⟩:=MZ r (off+P.cellsOf f.type) hd (λg hg=>h g (by simp[hg]))
  refine⟨x0::ps,by simp[h1],λi g q hg hq=>?_,?_⟩
  ·cases i with
   |zero=>simp at hg hq;subst hg;subst hq;exact s0
   |succ i=>simp at hg hq;exact h2 i g q hg hq
  ·rw[ho]at a0
   have:=a0.append h3
   rw[←abI,abY]at this
   exact this
theorem M4{P:Program}{L:List TypeId}{total:Nat}:∀(fs:List Field) (off:Nat),denseF P L off fs total=true→∀f∈fs,f.type∈L
 |[],_,_,f,hf=>by cases hf
 |g::r,off,hd,f,hf=>by
  simp only[denseF,aaQ]at hd
  rcases aa0.1 hf with rfl|hf
  ·simpa using hd.1.2
  ·exact M4 r _ hd.2 f hf
theorem YP{H:Type}{enc:TypeId×Value→H}{P:Program}{L:List TypeId}(hc:MX P L=true){W:World}{sp:Nat→Bool}{held:Bool}:∀(fuel:Nat) (t:TypeId) (cs:List Value) (d:DataW H) (ps:List MemPlace),t∈L→
 DataW.trod enc P W 0 sp held fuel t cs=some (d,ps)→∃xs,c8 P t xs∧kF W xs cs:=by
 intro fuel
 induction fuel with
 |zero=>intro t cs d ps _ h;simp[DataW.trod]at h
 |succ fuel ih=>
  intro t cs d ps ht h
  have gE:=aa8.1 hc t ht
  unfold DataW.trod at h
  split at h
  case h_1 x hu=>exact⟨[.b x],.b x hu,.one rfl (.b x)⟩
  case h_2 k k' n hu=>
   split at h
   ·rename_i hk
    obtain⟨rfl,hw⟩:=hk
    exact⟨[.int _ n],.int hu hw,.one rfl (.int _ n)⟩
   ·cases h
  case h_4 s hu=>
   split at h
   ·rename_i hs
    exact⟨[.str s.data.toList],.str hu (by simpa using hs),.one rfl (.YO s)⟩
   ·cases h
  case h_7 e hu=>exact⟨[.au 0 [] (some 0)],.nil hu,.one rfl (.nil λk hk=>by cases hk;rfl)⟩
  case h_8 e a len cap hu=>
   rw[hu]at gE
   simp only[aaQ,aa7,List.contains_eq_mem]at gE
   simp only at h
   split at h
   ·rename_i eO
    obtain⟨els,YQ,_⟩:=ab7.1 h
    obtain⟨hl,fe⟩:=xi YQ
    have row:∀i,i<len→∃xs cv,c8 P e xs∧kF W xs cv∧cv.length=P.cellsOf e∧∀j,j<P.cellsOf e→W.cell? ((a.add (i*P.cellsOf e)).add j)=cv[j]?:=λi hi=>by
     obtain⟨y,_,hy⟩:=fe i i (by simp[hi])
     obtain⟨cv,dX,hy⟩:=ab7.1 hy
     obtain⟨xs,h1,h2⟩:=ih _ _ y.1 y.2 gE.1 hy
     unfold World.cells? at dX
     split at dX
     ·obtain⟨g1,g2⟩:=xi dX
      refine⟨xs,cv,h1,h2,by simpa using g1,λj hj=>?_⟩
      obtain⟨z,hz,og⟩:=g2 j j (by simp[hj])
      rw[hz,og]
     ·cases dX
    have rows:∀n,n≤len→∃rs:List (List PV),rs.length=n∧∀(i:Nat) r,rs[i]? =some r→c8 P e r∧∃cv,kF W r cv∧cv.length=P.cellsOf e∧∀j,j<P.cellsOf e→W.cell? ((a.add (i*P.cellsOf e)).add j)=cv[j]?:=by
     intro n
     induction n with
     |zero=>intro _;exact⟨[],rfl,by simp⟩
     |succ n YR=>
      intro hn
      obtain⟨rs,h1,h2⟩:=YR (by omega)
      obtain⟨xs,cv,g1,g2,g3,g4⟩:=row n (by omega)
      refine⟨rs++[xs],by simp[h1],λi r hi=>?_⟩
      rw[abw]at hi
      split at hi
      ·exact h2 i r hi
      ·rename_i dG
       have:i=n:=by
        rcases abz (i - rs.length) 1 with h'|h'
        ·omega
        ·rw[aaS (by simpa using h')]at hi;cases hi
       subst this
       rw[h1,acw]at hi
       simp at hi
       subst hi
       exact⟨g1,cv,g2,g3,g4⟩
    obtain⟨rs,r1,r2⟩:=rows len (aaJ _)
    refine⟨[.au (P.cellsOf e) rs none],.sl hu (by omega) (λi r hi=>(r2 i r hi).1),.one rfl ?_⟩
    rw[←r1]
    by_cases h0:rs=[]
    ·subst h0
     exact .nil λk hk=>by cases hk
    ·have jh:0<rs.length:=acB.2 h0
     obtain⟨_,cv0,a0,l0,c0⟩:=r2 0 rs[0] (aaI jh)
     have gP:=c0 0 gE.2
     rw[acf]at gP
     have YS:(a.add 0).add 0=a:=rfl
     rw[YS,aaI (by omega)]at gP
     have M5:a.spot=none:=by
      unfold World.cell? at gP
      split at gP
      ·split at gP
       ·cases gP
       ·rename_i hs;simpa using hs
      ·cases gP
     have hblk:a.block<W.heap.size:=by
      unfold World.cell? at gP
      split at gP
      ·rename_i hb;exact(aaW.1 hb).1
      ·cases gP
     obtain⟨ab,ao,Mb⟩:=a
     simp only at M5 hblk
     subst M5
     have get:∀(i:Nat) (r:List PV) (j:Nat) (x:PV),rs[i]? =some r→r[j]? =some x→x.one=true∧∃v,W.cell? ⟨ab,ao+(i*P.cellsOf e+j),none⟩=some v∧RP W iU.M x v:=λi r j x hi hx=>by
      obtain⟨_,cv,⟨al,ag⟩,cl,cc⟩:=r2 i r hi
      have hj:j<P.cellsOf e:=by rw[←cl,←al];exact(aaK.1 hx).1
      have h3:=cc j hj
      rw[gK,gK]at h3
      obtain⟨o1,rp⟩:=ag j x hx
      refine⟨o1,cv.getD j undef,?_,rp⟩
      rw[←aaX,h3,aaI (by omega)]
      simp[cl,hj]
     refine sF (ad:=⟨ab,ao,none⟩) rfl (MU _) hblk (by omega) (by simp) λi r hi=>?_
     obtain⟨_,cv,⟨al,ag⟩,cl,cc⟩:=r2 i r hi
     refine⟨by rw[al,cl],λj x hx=>?_⟩
     obtain⟨o1,v,hv,rp⟩:=get i r j x hi hx
     exact⟨o1,v,by rw[aaX];exact hv,rp⟩
   ·cases h
  case h_9 fs hu=>
   rw[hu]at gE
   split at h
   ·rename_i hlen
    obtain⟨ys,nu,_⟩:=aaO.1 h
    obtain⟨hl,fe⟩:=xi nu
    obtain⟨parts,p1,p2,p3⟩:=MZ (P:=P) (L:=L) (W:=W) fs.toList 0 (by rw[hlen];exact gE) (λf hf=>by
     obtain⟨i,hi⟩:=acq.1 hf
     obtain⟨y,_,hy⟩:=fe i f hi
     exact ih _ _ y.1 y.2 (M4 _ _ gE f hf) hy)
    refine⟨parts.flatten,.struct hu (by simpa using p1) (λi f r hf hr=>p2 i f r (by simpa using hf) hr),by simpa using p3⟩
   ·cases h
  case h_10 n e hu=>
   rw[hu]at gE
   simp only[aaQ,abv,List.contains_eq_mem,aa7]at gE
   split at h
   ·rename_i hlen
    obtain⟨ys,nu,_⟩:=aaO.1 h
    obtain⟨hl,fe⟩:=xi nu
    obtain⟨parts,p1,p2,p3⟩:=MY (W:=W) (Q:=c8 P e) (sz:=P.cellsOf e) n _ (by rw[hlen,gE.2]) (λi hi=>by
     obtain⟨y,_,hy⟩:=fe i i (by simp[hi])
     exact ih _ _ y.1 y.2 gE.1 hy)
    exact⟨parts.flatten,.arr hu p1 (λi r hr=>p2 r (aaY hr)),p3⟩
   ·cases h
  all_goals first|(cases h;done)|(rename_i hu;rw[hu]at gE;simp at gE;done)|skip
inductive gU(P:Program)(t:TypeId):PV→Prop
 |agg (xs:List PV) (h:aggT P t=some true) (hs:c8 P t xs):gU P t (.agg xs)
 |one (x:PV) (h:aggT P t=some false) (hs:c8 P t [x]):gU P t x
theorem YT{H:Type}{enc:TypeId×Value→H}{P:Program}{L:List TypeId}(hc:MX P L=true){W:World}{sp:Nat→Bool}{held:Bool}{t:TypeId}(ht:t∈L){base:Nat}{v:Value}
 (d_:Value.okWide P W .any base t v) {d:DataW H} {ps:List MemPlace} (h:DataW.Trod enc P W 0 sp held t v d ps):∃x,gU P t x∧RP W iU.M x v:=by
 obtain⟨fuel,hf⟩:=h
 obtain⟨xs,hs,hl,ha⟩:=YP hc fuel t _ d ps ht hf
 have gE:=aa8.1 hc t ht
 have agg:∀cs:Array Value,v=.agg cs→aggT P t=some true→∃x,gU P t x∧RP W iU.M x v:=λcs hv hg=>by
  subst hv
  refine⟨.agg xs,.agg xs hg hs,.agg (by simpa [Value.cells]using hl.symm) (λi x hx=>(ha i x hx).1) (λi x hx=>?_)⟩
  have:=(ha i x hx).2
  simpa [Value.cells]using this
 have one:(∀cs:Array Value,v≠.agg cs)→aggT P t=some false→∃x,gU P t x∧RP W iU.M x v:=λhv hg=>by
  have e:v.cells= #[v]:=by
   cases v<;>first|rfl|(rename_i cs;exact absurd rfl (hv cs))
  rw[e]at hl ha
  obtain⟨x,rfl⟩:=ab0.1 (by simpa using hl)
  have:=(ha 0 x rfl).2
  exact⟨x,.one x hg hs,by simpa using this⟩
 cases hu:P.underlying t with
 |none=>rw[hu]at gE;cases gE
 |some td=>
  unfold Value.okWide at d_
  rw[hu]at gE d_
  cases td with
  |bool=>exact one (λcs e=>by subst e;simp[Cell.okWide,Cell.ok,hu]at d_) (by simp[aggT,hu])
  |int k=>exact one (λcs e=>by subst e;simp[Cell.okWide,Cell.ok,hu]at d_) (by simp[aggT,hu])
  |string=>exact one (λcs e=>by subst e;simp[Cell.okWide,Cell.ok,hu]at d_) (by simp[aggT,hu])
  |slice e0=>exact one (λcs e=>by subst e;simp[Cell.okWide,Cell.ok,hu]at d_) (by simp[aggT,hu])
  |array n e0=>
   obtain⟨cs,hv,_⟩:=d_
   exact agg cs hv (by simp[aggT,hu])
  |struct fs=>
   obtain⟨cs,hv,_⟩:=d_
   exact agg cs hv (by simp[aggT,hu])
  |_=>cases gE
section
variable {P:Program} {t:TypeId} {r:List PV}
theorem c8.YU(ht:P.underlying t=some .bool)(h:c8 P t r):∃x,r=[.b x]:=by
 cases h with
 |b y h'=>exact⟨_,rfl⟩
 |int h' hw=>rw[ht]at h';cases h'
 |str h' hl=>rw[ht]at h';cases h'
 |nil h'=>rw[ht]at h';cases h'
 |sl h' hl hr=>rw[ht]at h';cases h'
 |arr h' hn hr=>rw[ht]at h';cases h'
 |struct h' hn hr=>rw[ht]at h';cases h'
theorem c8.Ax{k:IntKind}(ht:P.underlying t=some (.int k))(h:c8 P t r):∃n,r=[.int k n]∧(Lit.int k n).wf=true:=by
 cases h with
 |int h' hw=>rw[ht]at h';cases h';exact⟨_,rfl,hw⟩
 |b y h'=>rw[ht]at h';cases h'
 |str h' hl=>rw[ht]at h';cases h'
 |nil h'=>rw[ht]at h';cases h'
 |sl h' hl hr=>rw[ht]at h';cases h'
 |arr h' hn hr=>rw[ht]at h';cases h'
 |struct h' hn hr=>rw[ht]at h';cases h'
theorem c8.YV(ht:P.underlying t=some .string)(h:c8 P t r):∃l,r=[.str l]∧l.length≤maxLen:=by
 cases h with
 |str h' hl=>exact⟨_,rfl,hl⟩
 |b y h'=>rw[ht]at h';cases h'
 |int h' hw=>rw[ht]at h';cases h'
 |nil h'=>rw[ht]at h';cases h'
 |sl h' hl hr=>rw[ht]at h';cases h'
 |arr h' hn hr=>rw[ht]at h';cases h'
 |struct h' hn hr=>rw[ht]at h';cases h'
theorem c8.Ff{e:TypeId}(ht:P.underlying t=some (.slice e))(h:c8 P t r):∃w rows cap,r=[.au w rows cap]∧(rows=[]∧w=0∧cap=some 0∨w=P.cellsOf e∧cap=none)∧rows.length≤maxLen∧
 ∀(i:Nat) q,rows[i]? =some q→c8 P e q:=by
 cases h with
 |nil h'=>exact⟨_,_,_,rfl,.inl ⟨rfl,rfl,rfl⟩,by simp,λi q hq=>by simp at hq⟩
 |sl h' hl hr=>rw[ht]at h';cases h';exact⟨_,_,_,rfl,.inr ⟨rfl,rfl⟩,hl,hr⟩
 |str h' hl=>rw[ht]at h';cases h'
 |b y h'=>rw[ht]at h';cases h'
 |int h' hw=>rw[ht]at h';cases h'
 |arr h' hn hr=>rw[ht]at h';cases h'
 |struct h' hn hr=>rw[ht]at h';cases h'
theorem c8.YW{n:Nat}{e:TypeId}(ht:P.underlying t=some (.array n e))(h:c8 P t r):∃parts:List (List PV),r=parts.flatten∧parts.length=n∧∀(i:Nat) q,parts[i]? =some q→c8 P e q:=by
 cases h with
 |arr h' hn hr=>rw[ht]at h';cases h';exact⟨_,rfl,hn,hr⟩
 |nil h'=>rw[ht]at h';cases h'
 |sl h' hl hr=>rw[ht]at h';cases h'
 |str h' hl=>rw[ht]at h';cases h'
 |b y h'=>rw[ht]at h';cases h'
 |int h' hw=>rw[ht]at h';cases h'
 |struct h' hn hr=>rw[ht]at h';cases h'
theorem c8.M6{fs:Array Field}(ht:P.underlying t=some (.struct fs))(h:c8 P t r):∃parts:List (List PV),r=parts.flatten∧parts.length=fs.size∧
 ∀(i:Nat) f q,fs[i]? =some f→parts[i]? =some q→c8 P f.type q:=by
 cases h with
 |struct h' hn hr=>rw[ht]at h';cases h';exact⟨_,rfl,hn,hr⟩
 |arr h' hn hr=>rw[ht]at h';cases h'
 |nil h'=>rw[ht]at h';cases h'
 |sl h' hl hr=>rw[ht]at h';cases h'
 |str h' hl=>rw[ht]at h';cases h'
 |b y h'=>rw[ht]at h';cases h'
 |int h' hw=>rw[ht]at h';cases h'
theorem gU.Ay{x:PV}(ha:aggT P t=some false)(h:gU P t x):c8 P t [x]:=by
 cases h with
 |one _ h' hs=>exact hs
 |agg xs h' hs=>rw[ha]at h';cases h'
theorem gU.YX{x:PV}(ha:aggT P t=some true)(h:gU P t x):∃xs,x=.agg xs∧c8 P t xs:=by
 cases h with
 |one _ h' hs=>rw[ha]at h';cases h'
 |agg xs h' hs=>exact⟨_,rfl,hs⟩
theorem gU.str{x:PV}(ht:P.underlying t=some .string)(h:gU P t x):∃l,x=.str l∧l.length≤maxLen:=by
 obtain⟨l,h1,h2⟩:=(h.Ay (by simp[aggT,ht])).YV ht
 simp only[acK,acC]at h1
 exact⟨l,h1,h2⟩
theorem gU.bool{x:PV}(ht:P.underlying t=some .bool)(h:gU P t x):∃b,x=.b b:=by
 obtain⟨l,h1⟩:=(h.Ay (by simp[aggT,ht])).YU ht
 simp only[acK,acC]at h1
 exact⟨l,h1⟩
theorem gU.int{x:PV}{k:IntKind}(ht:P.underlying t=some (.int k))(h:gU P t x):∃n,x=.int k n∧(Lit.int k n).wf=true:=by
 obtain⟨l,h1,h2⟩:=(h.Ay (by simp[aggT,ht])).Ax ht
 simp only[acK,acC]at h1
 exact⟨l,h1,h2⟩
theorem gU.sl{x:PV}{e:TypeId}(ht:P.underlying t=some (.slice e))(h:gU P t x):∃w rows cap,x=.au w rows cap∧(rows=[]∧w=0∧cap=some 0∨w=P.cellsOf e∧cap=none)∧rows.length≤maxLen∧
 ∀(i:Nat) q,rows[i]? =some q→c8 P e q:=by
 obtain⟨w,rows,cap,h1,h2⟩:=(h.Ay (by simp[aggT,ht])).Ff ht
 simp only[acK,acC]at h1
 exact⟨w,rows,cap,h1,h2⟩
theorem M7{α:Type}{mk:α→List PV}:∀{rows:List (List PV)},(∀(i:Nat) q,rows[i]? =some q→∃a,q=mk a)→∃l:List α,rows=l.map mk
 |[],_=>⟨[],rfl⟩
 |q::r,h=>by
  obtain⟨a,rfl⟩:=h 0 q rfl
  obtain⟨l,rfl⟩:=M7 (rows:=r) λi q' hq=>h (i+1) q' (by simpa using hq)
  exact⟨a::l,rfl⟩
end
section
variable {P:Program} {tI tL:TypeId}
theorem kG.ints{rows:List (List PV)}{l:List Int}(h:rows=l.map λz=>[i64 z]):rows=ints l:=h
theorem M8(hL:P.underlying tL=some (.slice tI))(hI:P.underlying tI=some (.int .i64))(hc:P.cellsOf tI=1){r:List PV}(h:c8 P tL r):∃x l,r=[x]∧cP x (.au 1 (ints l) none):=by
 obtain⟨w,rows,cap,rfl,hw,_,hr⟩:=h.Ff hL
 rcases hw with⟨rfl,rfl,rfl⟩|⟨rfl,rfl⟩
 ·exact⟨_,[],rfl,.nil (.inl rfl)⟩
 ·obtain⟨l,rfl⟩:=M7 (α:=Int) (mk:=λz=>[i64 z]) λi q hq=>by
   obtain⟨n,rfl,_⟩:=(hr i q hq).Ax hI
   exact⟨n,rfl⟩
  rw[hc]
  exact⟨_,l,rfl,.refl _⟩
theorem YY{rows:List (List PV)}(h:∀(i:Nat) q,rows[i]? =some q→∃x l,q=[x]∧cP x (.au 1 (ints l) none)):∃nx:List (List Int),kG rows (nx.map aQ):=by
 induction rows with
 |nil=>exact⟨[],.refl _⟩
 |cons q r ih=>
  obtain⟨x,l,rfl,hx⟩:=h 0 q rfl
  obtain⟨nx,hn⟩:=ih λi q' hq=>h (i+1) q' (by simpa using hq)
  exact⟨l::nx,.cons (.cons hx (.refl _)) hn⟩
theorem YZ{tR:TypeId}(hR:P.underlying tR=some (.slice tL))(hL:P.underlying tL=some (.slice tI))(hI:P.underlying tI=some (.int .i64))(hc:P.cellsOf tI=1)(Fg:P.cellsOf tL=1){r:List PV}
 (h:c8 P tR r):∃(x:PV) (nx:List (List Int)),r=[x]∧cP x (.au 1 (nx.map aQ) none):=by
 obtain⟨w,rows,cap,rfl,hw,_,hr⟩:=h.Ff hR
 rcases hw with⟨rfl,rfl,rfl⟩|⟨rfl,rfl⟩
 ·exact⟨_,[],rfl,.nil (.inl rfl)⟩
 ·obtain⟨nx,hn⟩:=YY λi q hq=>M8 hL hI hc (hr i q hq)
  rw[Fg]
  exact⟨_,nx,rfl,.au hn (.inl rfl)⟩
theorem Y0{tA tB:TypeId}(hA:P.underlying tA=some (.array 256 tB))(hB:P.underlying tB=some (.int .u8)){r:List PV}(h:c8 P tA r):∃o:Nat→Nat,(∀b,b<256→o b<256)∧r=aO o:=by
 obtain⟨parts,rfl,hl,hr⟩:=h.YW hA
 have ex:∀i,i<256→∃n:Nat,n<256∧parts[i]? =some [.int .u8 (n:Int)]:=λi hi=>by
  have hg:parts[i]? =some parts[i]:=aaI (by omega)
  obtain⟨n,hn,hw⟩:=(hr i _ hg).Ax hB
  simp[Lit.wf,IntKind.min,IntKind.max,IntKind.signed,IntKind.bits]at hw
  refine⟨n.toNat,by omega,?_⟩
  rw[hg,hn,acE hw.1]
 let o:Nat→Nat:=λi=>if h:i<256 then(ex i h).choose else 0
 have ho:∀i (h:i<256),o i<256∧parts[i]? =some [.int .u8 (o i:Int)]:=λi h=>by
  show(if h:i<256 then(ex i h).choose else 0)<256∧parts[i]? =some [.int .u8 ((if h:i<256 then(ex i h).choose else 0:Nat):Int)]
  rw[dif_pos h]
  exact(ex i h).choose_spec
 refine⟨o,λb hb=>(ho b hb).1,?_⟩
 have e:parts=(List.range 256).map λi=>[PV.int .u8 (o i:Int)]:=by
  apply abj
  intro i
  by_cases hi:i<256
  ·rw[(ho i hi).2,aaM,abo hi];rfl
  ·rw[aaS (by omega),aaS (by simp;omega)]
 have flat:∀l:List Nat,(l.map λi=>[PV.int .u8 (o i:Int)]).flatten=l.map λi=>PV.int .u8 (o i:Int):=λl=>by
  induction l with
  |nil=>rfl
  |cons a l ih=>simp only[abr,List.flatten_cons,ih,List.singleton_append]
 rw[e,flat]
 unfold aO
 rfl
variable {tD tC tR tA tB:TypeId} {fD fC:Array Field}
theorem fZ.app{a b c d:List PV}(h:fZ a b)(h':fZ c d):fZ (a++c) (b++d):=by
 induction a generalizing b with
 |nil=>have:=h.len;cases b with
  |nil=>exact h'
  |cons y b=>simp at this
 |cons x a ih=>
  cases h with
  |refl=>exact .cons (.refl _) (ih (.refl _))
  |cons h1 h2=>exact .cons h1 (ih h2)
theorem Y1(hD:P.underlying tD=some (.struct fD))(Az:fD.size=3)(d0:∀f,fD[0]? =some f→f.type=tC)(d1:∀f,fD[1]? =some f→f.type=tR)(d2:∀f,fD[2]? =some f→f.type=tL)
 (hC:P.underlying tC=some (.struct fC)) (Fh:fC.size=2) (c0:∀f,fC[0]? =some f→f.type=tA) (c1:∀f,fC[1]? =some f→f.type=tI)
 (hA:P.underlying tA=some (.array 256 tB)) (hB:P.underlying tB=some (.int .u8)) (hR:P.underlying tR=some (.slice tL)) (hL:P.underlying tL=some (.slice tI)) (hI:P.underlying tI=some (.int .i64))
 (hc:P.cellsOf tI=1) (Fg:P.cellsOf tL=1) {x:PV} (h:gU P tD x) {w:World} {M:Nat→Prop} {v:Value} (hv:RP w M x v):
 ∃d:aw,(∀b,b<256→d.o b<256)∧RP w M d.pv v:=by
 obtain⟨xs,rfl,hs⟩:=h.YX (by simp[aggT,hD])
 obtain⟨parts,rfl,hn,hr⟩:=hs.M6 hD
 have si:∀i,i<3→∃f,fD[i]? =some f:=λi hi=>⟨_,abh (by omega)⟩
 have M9:∀i,i<2→∃f,fC[i]? =some f:=λi hi=>⟨_,abh (by omega)⟩
 match parts,hn,hr with
 |[],hn,_=>rw[Az]at hn;cases hn
 |[_],hn,_=>rw[Az]at hn;cases hn
 |[_,_],hn,_=>rw[Az]at hn;cases hn
 |_::_::_::_::_,hn,_=>rw[Az]at hn;simp at hn
 |[p0,p1,p2],hn,hr=>
  obtain⟨f0,e0⟩:=si 0 (by decide)
  obtain⟨f1,e1⟩:=si 1 (by decide)
  obtain⟨f2,e2⟩:=si 2 (by decide)
  have s0:=d0 f0 e0▸hr 0 f0 p0 e0 rfl
  have s1:=d1 f1 e1▸hr 1 f1 p1 e1 rfl
  have s2:=d2 f2 e2▸hr 2 f2 p2 e2 rfl
  obtain⟨nx,nl,rfl,DV⟩:=YZ hR hL hI hc Fg s1
  obtain⟨tg,tl,rfl,nV⟩:=M8 hL hI hc s2
  obtain⟨cp,rfl,kv,jO⟩:=s0.M6 hC
  match cp,kv,jO with
  |[],kv,_=>rw[Fh]at kv;cases kv
  |[_],kv,_=>rw[Fh]at kv;cases kv
  |_::_::_::_,kv,_=>rw[Fh]at kv;simp at kv
  |[q0,q1],kv,jO=>
   obtain⟨g0,k0⟩:=M9 0 (by decide)
   obtain⟨g1,k1⟩:=M9 1 (by decide)
   obtain⟨o,ho,rfl⟩:=Y0 hA hB (c0 g0 k0▸jO 0 g0 q0 k0 rfl)
   obtain⟨n,rfl,_⟩:=(c1 g1 k1▸jO 1 g1 q1 k1 rfl).Ax hI
   refine⟨⟨o,n,nl,tl⟩,ho,cP.sound hv (.agg ?_)⟩
   have e:[[aO o,[PV.int .i64 n]].flatten,[nx],[tg]].flatten=aO o++([i64 n]++([nx]++[tg])):=by simp
   rw[e]
   exact fZ.app (.refl _) (fZ.app (.refl _) (.cons DV (.cons nV (.refl _))))
end
end Hk
namespace Hk
open Go Go.Proofs
theorem M_:Tryz.prog.globalNamed "math/bits.deBruijn64tab" =some 0:=by kernel_rfl
theorem Y2:(Tryz.prog.globals[0]?).map (·.type)=some 296:=by kernel_rfl
def AA:List Int:=Lib.deBruijn64tab.map λ(k:Nat)=>(k:Int)
theorem Y3:uN=AA.map λz=>PV.int .u8 z:=rfl
theorem Y4{W:World}(h:laidMet Tryz.prog [("math/bits.deBruijn64tab",Go.Proofs.YteicokbnoonipaaGreatDoor.Rows.laid_math_bits_deBruijn64tab)] W):ga W iU.M:=by
 have hT:Lib.TabIs Tryz.prog W "math/bits.deBruijn64tab" .u8 AA:=
  Lib.tabIs_of_head (rest:=[]) M_ Y2 Tryz.underlying296 Tryz.underlying5 (by kernel_rfl) (by kernel_rfl) h
 have bn:∀i,i<64→W.cell? ⟨0,i,none⟩=some (.int .u8 (AA.getD i 0)):=λi hi=>hT.cell M_ i hi
 intro g row hg
 obtain⟨rfl,rfl⟩:g=0∧row=uN:=by
  have:=abX.1 hg
  exact⟨aaH Prod.fst this,aaH Prod.snd this⟩
 refine⟨MU _,?_,λi x hx=>?_⟩
 ·have h0:=bn 0 (by decide)
  by_cases hs:0<W.heap.size
  ·exact hs
  ·exfalso
   unfold World.cell? at h0
   rw[show W.heap[(⟨0,0,none⟩:Addr).block]? =none from abV (by show W.heap.size≤0;omega)]at h0
   cases h0
 ·rw[Y3,aaM]at hx
  obtain⟨z,hz,rfl⟩:=aaO.1 hx
  have hi:i<64:=(aaK.1 hz).1
  refine⟨rfl,_,bn i hi,?_⟩
  rw[aaN,hz]
  exact .int _ _
end Hk
