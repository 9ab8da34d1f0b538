/- The law MiniBlocks: what is said of it, of the program with its boundary. -/
import Derived.Test.YteicokbnoonipaaGreatDoorCards
import Derived.Test.YteicokbnoonipaaGreatDoorTie
import Derived.Test.YteicokbnoonipaaGreatDoorM5
import Derived.WalkKit
import Derived.ProofKit
import Derived.OpenShut
import Derived.ShutString
import Derived.Deep.DeepHandedRow
import Derived.Deep.DeepLaidRun
import Derived.Lib.LaidTab
namespace Go.Proofs.YteicokbnoonipaaGreatDoor.miniBlocks
open Go.ChangeShapes Go.WideShapes Go.ChangeAt Go.RowKit
set_option linter.unusedVariables false
set_option maxRecDepth 100000
theorem own:ownKnob Tryz.prog.godebug=none:=by kernel_rfl
theorem Zi{x:Hk.PV}{v:Value}{w:World}(hx:Hk.gU Tryz.prog 28 x)(hr:Hk.RP w Hk.iV.M x v):∃d:Hk.au,(∀b,b<256→d.o b<256)∧Hk.RP w Hk.iV.M d.pv v:=
 Hk.Ze Tryz.underlying28 rfl (λf h=>by cases h;rfl) (λf h=>by cases h;rfl) (λf h=>by cases h;rfl) Tryz.underlying24 rfl (λf h=>by cases h;rfl) (λf h=>by cases h;rfl)
  Tryz.underlying22 Tryz.underlying5 Tryz.underlying25 Tryz.underlying26 Tryz.underlying3 (by kernel_rfl) (by kernel_rfl) hx hr
theorem walk(x0:Hk.PV)(v0:Value)(fJ:Hk.gU Tryz.prog 28 x0)(w:World)(gy:Hk.RP w Hk.iV.M x0 v0)(gQ:Hk.ga w Hk.iV.M):
 Calls Tryz.prog 6 #[v0] w λe w'=>e=.returned (.bool true)∧Hk.Kept w w':=by
 obtain⟨d,ho,hd⟩:=Zi fJ gy
 exact(Hk.YW d ho).true (.cons hd .nil) gQ
theorem table{W:World}(h:laidMetH Tryz.prog Rows.miniBlocksRow.laid W):Hk.ga W Hk.iV.M:=Hk.Zh h
noncomputable def Fw (os:Os):World:=
 {World.holding Tryz.prog os ⟨#[],#[],[]⟩with heap:=(World.holding Tryz.prog os ⟨#[],#[],[]⟩).heap.modify 0 λ
  |.cells _ t frozen=>.cells (Hk.AL.map λz=>Value.int .u8 z).toArray t frozen
  |o=>o}
noncomputable def AM:Array Value:= #[.agg (List.replicate 256 (Value.int .u8 0)++[Value.int .i64 0,Value.slice none 0 0,Value.slice none 0 0]).toArray]
theorem Zj(os:Os):laidMet Tryz.prog Rows.miniBlocksRow.laid ((Fw os).forCall (λ_ _=>0) ⟨#[],AM,[]⟩).memory:=
 laidMet_of_run3 8 (by kernel_rfl) (by kernel_rfl) (by kernel_rfl)
theorem reads(os:Os){H:Type}(enc:TypeId×Value→H):∃places,DataW.whole enc Tryz.prog ((Fw os).forCall (λ_ _=>0) ⟨#[],AM,[]⟩).memory Tryz.f6.params.toList Rows.miniBlocksSpec.vars false AM.toList 8=some ([.agg [.agg [.agg (List.replicate 256 (.lit (.int .u8 0))),.lit (.int .i64 0)],.nil,.nil]],[],places):=
 ⟨[],by kernel_rfl⟩
set_option maxRecDepth 100000 in
theorem lifted(os:Os)(started:os.Started)(H:Type)(enc:TypeId×Value→H)(F:Stop.Interp):
 ReturnsInHanded {} Tryz.checked os 6 .any ((OpenSpec.ofChange Rows.miniBlocksSpec).preRow enc Tryz.prog Tryz.f6 Rows.miniBlocksRow.domain false Rows.miniBlocksRow.laid) (((OpenSpec.ofChange Rows.miniBlocksSpec).at F).post enc Tryz.prog Tryz.f6 false true false false):=by
 obtain⟨places,hx⟩:=reads os enc
 refine returnsInHanded_of_row (C:=Tryz.checked) (s:=(OpenSpec.ofChange Rows.miniBlocksSpec)) own started (by kernel_rfl) Tryz.func6
  (witness_row_at (enc:=enc) (C:=Tryz.checked) false (Fw os) AM rfl (by kernel_rfl) (by kernel_rfl) (by kernel_rfl)
   (OpenSpec.preRow_of_cond 8 hx (by kernel_rfl) (λk hk=>by cases hk) (by kernel_rfl) (Zj os))) ?_
 intro W base args ds gs before Zk hW _ eO _ hL _ _
 have ed:∀(j:Nat) t v,Tryz.f6.params[j]? =some t→args[j]? =some v→Value.okWide Tryz.prog W .any base t v:=Zk
 have No:=hW
 obtain⟨p,q,Np,hV,rfl,oJ,ia⟩:=hW
 have hA:DataW.TrodAll enc Tryz.prog W 0 (λ_=>true) true Tryz.f6.params.toList args.toList ds p:=Np
 rw[Tryz.params6]at hA ed
 obtain⟨v0,vs0,d0,ds0,p0,q0,cV,rfl,rfl,h0,r0⟩:=trodAll_cons hA
 obtain⟨rfl,rfl,rfl⟩:=trodAll_nil r0
 obtain rfl:args= #[v0]:=by cases args;simp_all
 obtain⟨rfl,rfl⟩:=trodVars_none hV
 obtain⟨x0,fJ,gy⟩:=Hk.Y7 (L:=[3,5,22,24,25,26,28]) (by kernel_rfl) (by decide) (ed 0 28 v0 rfl rfl) h0
 have aq:=No.lt
 have Zl:=Np
 have gQ:=table hL
 refine(walk x0 v0 fJ W gy gQ).mono λe W' ⟨he,hg⟩=>?_
 subst he
 have cr:(Tryz.f6.params.toList.all λt=>Tryz.prog.readableRec t&&decide (t<Tryz.prog.types.size))=true:=by kernel_rfl
 refine⟨_,rfl,Hk.Y1 (s:=Rows.miniBlocksSpec) (pv:=[]) No (λ_ _ _=>(trodAll_cons_mk (shut_bool Tryz.underlying4 _) trodAll_mk0)) (λsp nX=>Hk.Nb (by kernel_rfl:laidOutB Tryz.prog=true) hg
  (λt ht=>by have:=List.all_eq_true.1 cr t ht;simpa using this) Zl (λp hp=>aq p (by simpa using hp)) (λp hp=>nX p (by simpa using hp))) (λ_ _=>rfl) (by simp)
  hg (ok_one (by kernel_rfl) rfl (okWide_bool_mk Tryz.underlying4 _))⟩
theorem dP{a b:Bool}(h:a=true)(h':b=true):(a&&b)=true:=by subst h;subst h';rfl
theorem k0:(Rows.miniBlocksRow.wf (OpenSpec.ofChange Rows.miniBlocksSpec))=true:=by kernel_rfl
theorem k1:(laidOutB Tryz.prog)=true:=by kernel_rfl
theorem k2:(mapsRowed Tryz.prog)=true:=by kernel_rfl
theorem k3:(Tryz.f6.params.all (Tryz.prog.readableRec ·))=true:=by kernel_rfl
theorem k4:(namedTie Tryz.prog Rows.miniBlocksRow.named Rows.miniBlocksSpec.vars)=true:=by kernel_rfl
theorem k5:((Rows.miniBlocksRow.stops==[]))=true:=by kernel_rfl
theorem k6:((Tryz.prog.stops==[]))=true:=by kernel_rfl
theorem k7:((Rows.miniBlocksRow.knobs==[]))=true:=by kernel_rfl
theorem k8:((Tryz.prog.stopKnobs==[]))=true:=by kernel_rfl
theorem k9:((Rows.miniBlocksRow.inPlace==Tryz.prog.inPlace 6))=true:=by kernel_rfl
theorem Zm:((Rows.miniBlocksRow.unfollowed==Tryz.prog.unfollowed 6))=true:=by kernel_rfl
theorem Zn:((Rows.miniBlocksRow.recurses==Tryz.prog.recurses 6))=true:=by kernel_rfl
theorem Zo:((Rows.miniBlocksRow.named==Tryz.prog.varsNamed 6))=true:=by kernel_rfl
theorem Zp:((Rows.miniBlocksRow.maps==(Tryz.f6.params.toList++Rows.miniBlocksSpec.plain.varTypes Tryz.prog).any (Tryz.prog.mapsRec ·)))=true:=by kernel_rfl
theorem Zq:((Rows.miniBlocksRow.ifaces==(Tryz.f6.params.toList++Rows.miniBlocksSpec.plain.varTypes Tryz.prog).any (Tryz.prog.ifacesRec ·)))=true:=by kernel_rfl
theorem Zr:((Rows.miniBlocksRow.mapsOut==Tryz.prog.mapsAmong Tryz.f6.resultTypes.toList))=true:=by kernel_rfl
theorem Zs:((Rows.miniBlocksRow.loops==(Tryz.f6.params.toList++Rows.miniBlocksSpec.plain.varTypes Tryz.prog).any (Tryz.prog.loopsFrom ·)))=true:=by kernel_rfl
theorem Zt:((Rows.miniBlocksRow.wideKeys==(Tryz.f6.params.toList++Rows.miniBlocksSpec.plain.varTypes Tryz.prog++Tryz.f6.resultTypes.toList).any (Tryz.prog.wideKeysFrom ·)))=true:=by kernel_rfl
theorem Zu:(Rows.miniBlocksSpec.vars.all (Tryz.prog.varReadable ·))=true:=by kernel_rfl
theorem Zv:(Tryz.f6.resultTypes.all (λt=>Tryz.prog.readableRec t&&decide (t<Tryz.prog.types.size)))=true:=by kernel_rfl
theorem Zw:((Rows.miniBlocksRow.ifacesOut==Tryz.f6.resultTypes.toList.any (Tryz.prog.ifacesRec ·)))=true:=by kernel_rfl
theorem Zx:((Rows.miniBlocksRow.loopsOut==Tryz.f6.resultTypes.toList.any (Tryz.prog.loopsFrom ·)))=true:=by kernel_rfl
theorem Zy:((Rows.miniBlocksRow.plainKeys==Tryz.prog.plainKeys))=true:=by kernel_rfl
theorem Zz:(Rows.miniBlocksRow.shortTexts.isNone)=true:=by kernel_rfl
theorem ZA:(Tryz.prog.stopsHeard)=true:=by kernel_rfl
theorem ZB:(Tryz.prog.mayEnter)=true:=by kernel_rfl
theorem ZC:((Rows.miniBlocksRow.lifted==Tryz.prog.liftsFinal))=true:=by kernel_rfl
theorem ZD:((Tryz.prog.make==some Rows.miniBlocksRow.make))=true:=by kernel_rfl
theorem ZE:((Rows.miniBlocksRow.kinds==(if Rows.miniBlocksRow.domain.isEmpty then[]else Tryz.f6.params.toList.map λt=>match Tryz.prog.underlying t with|some (.int k)=>some k|_=>none)))=true:=by kernel_rfl
theorem ZF:((Rows.miniBlocksRow.pinned==Rows.miniBlocksRow.pinnedBy))=true:=by kernel_rfl
theorem ZG:((Rows.miniBlocksRow.veiled==(Tryz.f6.params.toList++Rows.miniBlocksSpec.plain.varTypes Tryz.prog++Tryz.f6.resultTypes.toList).any (Tryz.prog.veiledRec ·)))=true:=by kernel_rfl
theorem ZH:(Rows.miniBlocksRow.veiledFits Tryz.prog Tryz.f6.params.toList (Tryz.f6.params.toList++Rows.miniBlocksSpec.plain.varTypes Tryz.prog++Tryz.f6.resultTypes.toList))=true:=by kernel_rfl
theorem closed:joinedFacts Tryz.prog 6 Tryz.f6 Rows.miniBlocksSpec Rows.miniBlocksRow=true:=by
 unfold joinedFacts
 exact(dP (dP (dP (dP (dP (dP (dP (dP (dP (dP (dP (dP (dP (dP (dP (dP (dP (dP (dP (dP (dP (dP (dP (dP (dP (dP (dP (dP (dP (dP (dP k0 k1) k2) k3) k4) k5) k6) k7) k8) k9) Zm) Zn) Zo) Zp) Zq) Zr) Zs) Zt) Zu) Zv) Zw) Zx) Zy) Zz) ZA) ZB) ZC) ZD) ZE) ZF) ZG) ZH)
theorem said:Rows.MiniBlocksSaid:=
 OpenClaim.holds_of_cond 6 Tryz.f6 rfl rfl rfl rfl rfl rfl rfl ⟨rfl,rfl,rfl,rfl,rfl⟩ rfl rfl rfl rfl rfl (by kernel_rfl) Tryz.func6 closed
  (of_decide_eq_true (by kernel_rfl)) (by unfold Func.isWrapper;first|(rw[if_pos (by decide+kernel)];kernel_rfl)|(rw[if_neg (by decide+kernel)];exact⟨rfl,rfl⟩))
  (λos started H enc _ F=>by rw[OpenClaim.pre_eq_preRow];exact lifted os started H enc F)
end Go.Proofs.YteicokbnoonipaaGreatDoor.miniBlocks
