/- The law ProdFinds of hacklelaw12 is proved: the call returns true for every input. Conditions: none beyond the statement's. The frame is turned from the kit's worked example of a law over a listed table. -/
import Derived.Test.YteicokbnoonipaaGreatDoorCards
import Derived.Test.YteicokbnoonipaaGreatDoorTie
import Derived.Test.YteicokbnoonipaaGreatDoorM5
import Derived.Test.YteicokbnoonipaaGreatDoorM6
import Derived.WalkKit
import Derived.ProofKit
import Derived.OpenShut
import Derived.ShutString
import Derived.Deep.DeepHandedRow
import Derived.Deep.DeepLaidRun
import Derived.Lib.LaidTab
namespace Go.Proofs.YteicokbnoonipaaGreatDoor.prodFinds
open Go.ChangeShapes Go.WideShapes Go.ChangeAt Go.RowKit
set_option linter.unusedVariables false
set_option maxRecDepth 100000

theorem own : ownKnob Tryz.prog.godebug = none := by kernel_rfl

theorem dfa28 {x : Hk.PV} {v : Value} {w : World} (hx : Hk.ArgShp Tryz.prog 28 x) (hr : Hk.RP w Hk.noInj.M x v) : ∃ d : Hk.Dfa, (∀ b, b < 256 → d.o b < 256) ∧ Hk.RP w Hk.noInj.M d.pv v :=
  Hk.dfa_arg Tryz.underlying28 rfl (fun f h => by cases h; rfl) (fun f h => by cases h; rfl) (fun f h => by cases h; rfl) Tryz.underlying24 rfl (fun f h => by cases h; rfl) (fun f h => by cases h; rfl)
    Tryz.underlying22 Tryz.underlying5 Tryz.underlying25 Tryz.underlying26 Tryz.underlying3 (by kernel_rfl) (by kernel_rfl) hx hr

/-! ### The walk -/
theorem walk (x0 : Hk.PV) (v0 : Value) (hx0 : Hk.ArgShp Tryz.prog 28 x0) (x1 : Hk.PV) (v1 : Value) (hx1 : Hk.ArgShp Tryz.prog 28 x1) (w : World) (hr0 : Hk.RP w Hk.noInj.M x0 v0) (hr1 : Hk.RP w Hk.noInj.M x1 v1) (hgl : Hk.Glb w Hk.noInj.M) :
    Calls Tryz.prog 4 #[v0, v1] w fun e w' => e = .returned (.bool true) ∧ Hk.Kept w w' := by
  obtain ⟨d, ho, hd⟩ := dfa28 hx0 hr0
  obtain ⟨d', ho', hd'⟩ := dfa28 hx1 hr1
  exact (Hk.prodFinds_fn d d' ho ho').true (.cons hd (.cons hd' .nil)) hgl

/-! ### What the row's list gives, and a world that meets it -/
theorem table {W : World} (h : laidMetH Tryz.prog Rows.prodFindsRow.laid W) : Hk.Glb W Hk.noInj.M := Hk.glb_of h
noncomputable def laidWorld (os : Os) : World :=
  { World.holding Tryz.prog os ⟨#[], #[], []⟩ with heap := (World.holding Tryz.prog os ⟨#[], #[], []⟩).heap.modify 0 fun
      | .cells _ t frozen => .cells (Hk.dbZ.map fun z => Value.int .u8 z).toArray t frozen
      | o => o }
noncomputable def wit : Array Value := #[.agg (List.replicate 256 (Value.int .u8 0) ++ [Value.int .i64 0, Value.slice none 0 0, Value.slice none 0 0]).toArray, .agg (List.replicate 256 (Value.int .u8 0) ++ [Value.int .i64 0, Value.slice none 0 0, Value.slice none 0 0]).toArray]
theorem laid_met (os : Os) : laidMet Tryz.prog Rows.prodFindsRow.laid ((laidWorld os).forCall (fun _ _ => 0) ⟨#[], wit, []⟩).memory :=
  laidMet_of_run3 8 (by kernel_rfl) (by kernel_rfl) (by kernel_rfl)
theorem reads (os : Os) {H : Type} (enc : TypeId × Value → H) : ∃ places, DataW.whole enc Tryz.prog ((laidWorld os).forCall (fun _ _ => 0) ⟨#[], wit, []⟩).memory Tryz.f4.params.toList Rows.prodFindsSpec.vars false wit.toList 8 = some ([.agg [.agg [.agg (List.replicate 256 (.lit (.int .u8 0))), .lit (.int .i64 0)], .nil, .nil], .agg [.agg [.agg (List.replicate 256 (.lit (.int .u8 0))), .lit (.int .i64 0)], .nil, .nil]], [], places) :=
  ⟨[], by kernel_rfl⟩

/-! ### THE ROW's STEP -/
set_option maxRecDepth 100000 in
theorem lifted (os : Os) (started : os.Started) (H : Type) (enc : TypeId × Value → H) (F : Stop.Interp) :
    ReturnsInHanded {} Tryz.checked os 4 .any ((OpenSpec.ofChange Rows.prodFindsSpec).preRow enc Tryz.prog Tryz.f4 Rows.prodFindsRow.domain false Rows.prodFindsRow.laid) (((OpenSpec.ofChange Rows.prodFindsSpec).at F).post enc Tryz.prog Tryz.f4 false true false false) := by
  obtain ⟨places, hx⟩ := reads os enc
  refine returnsInHanded_of_row (C := Tryz.checked) (s := (OpenSpec.ofChange Rows.prodFindsSpec)) own started (by kernel_rfl) Tryz.func4
    (witness_row_at (enc := enc) (C := Tryz.checked) false (laidWorld os) wit rfl (by kernel_rfl) (by kernel_rfl) (by kernel_rfl)
      (OpenSpec.preRow_of_cond 8 hx (by kernel_rfl) (fun k hk => by cases hk) (by kernel_rfl) (laid_met os))) ?_
  intro W base args ds gs before hval0 hW _ hcond _ hL _ _
  have hval : ∀ (j : Nat) t v, Tryz.f4.params[j]? = some t → args[j]? = some v → Value.okWide Tryz.prog W .any base t v := hval0
  have hW' := hW
  obtain ⟨p, q, hA0, hV, rfl, hfz, hnd⟩ := hW
  have hA : DataW.TrodAll enc Tryz.prog W 0 (fun _ => true) true Tryz.f4.params.toList args.toList ds p := hA0
  rw [Tryz.params4] at hA hval
  obtain ⟨v0, vs0, d0, ds0, p0, q0, hargs, rfl, rfl, h0, r0⟩ := trodAll_cons hA
  obtain ⟨v1, vs1, d1, ds1, p1, q1, rfl, rfl, rfl, h1, r1⟩ := trodAll_cons r0
  obtain ⟨rfl, rfl, rfl⟩ := trodAll_nil r1
  obtain rfl : args = #[v0, v1] := by cases args; simp_all
  obtain ⟨rfl, rfl⟩ := trodVars_none hV
  obtain ⟨x0, hx0, hr0⟩ := Hk.arg_pv (L := [3, 5, 22, 24, 25, 26, 28]) (by kernel_rfl) (by decide) (hval 0 28 v0 rfl rfl) h0
  obtain ⟨x1, hx1, hr1⟩ := Hk.arg_pv (L := [3, 5, 22, 24, 25, 26, 28]) (by kernel_rfl) (by decide) (hval 1 28 v1 rfl rfl) h1
  have hlt := hW'.lt
  have hA' := hA0
  have hgl := table hL
  refine (walk x0 v0 hx0 x1 v1 hx1 W hr0 hr1 hgl).mono fun e W' ⟨he, hg⟩ => ?_
  subst he
  have hall : (Tryz.f4.params.toList.all fun t => Tryz.prog.readableRec t && decide (t < Tryz.prog.types.size)) = true := by kernel_rfl
  refine ⟨_, rfl, Hk.post_kept (s := Rows.prodFindsSpec) (pv := []) hW' (fun _ _ _ => (trodAll_cons_mk (shut_bool Tryz.underlying4 _) trodAll_mk0)) (fun sp hsp => Hk.args_stay (by kernel_rfl : laidOutB Tryz.prog = true) hg
    (fun t ht => by have := List.all_eq_true.1 hall t ht; simpa using this) hA' (fun p hp => hlt p (by simpa using hp)) (fun p hp => hsp p (by simpa using hp))) (fun _ _ => rfl) (by simp)
    hg (ok_one (by kernel_rfl) rfl (okWide_bool_mk Tryz.underlying4 _))⟩

/-! ### The row's closed cells, each by itself -/
theorem and_mk {a b : Bool} (h : a = true) (h' : b = true) : (a && b) = true := by subst h; subst h'; rfl
theorem k0 : (Rows.prodFindsRow.wf (OpenSpec.ofChange Rows.prodFindsSpec)) = true := by kernel_rfl
theorem k1 : (laidOutB Tryz.prog) = true := by kernel_rfl
theorem k2 : (mapsRowed Tryz.prog) = true := by kernel_rfl
theorem k3 : (Tryz.f4.params.all (Tryz.prog.readableRec ·)) = true := by kernel_rfl
theorem k4 : (namedTie Tryz.prog Rows.prodFindsRow.named Rows.prodFindsSpec.vars) = true := by kernel_rfl
theorem k5 : ((Rows.prodFindsRow.stops == [])) = true := by kernel_rfl
theorem k6 : ((Tryz.prog.stops == [])) = true := by kernel_rfl
theorem k7 : ((Rows.prodFindsRow.knobs == [])) = true := by kernel_rfl
theorem k8 : ((Tryz.prog.stopKnobs == [])) = true := by kernel_rfl
theorem k9 : ((Rows.prodFindsRow.inPlace == Tryz.prog.inPlace 4)) = true := by kernel_rfl
theorem k10 : ((Rows.prodFindsRow.unfollowed == Tryz.prog.unfollowed 4)) = true := by kernel_rfl
theorem k11 : ((Rows.prodFindsRow.recurses == Tryz.prog.recurses 4)) = true := by kernel_rfl
theorem k12 : ((Rows.prodFindsRow.named == Tryz.prog.varsNamed 4)) = true := by kernel_rfl
theorem k13 : ((Rows.prodFindsRow.maps == (Tryz.f4.params.toList ++ Rows.prodFindsSpec.plain.varTypes Tryz.prog).any (Tryz.prog.mapsRec ·))) = true := by kernel_rfl
theorem k14 : ((Rows.prodFindsRow.ifaces == (Tryz.f4.params.toList ++ Rows.prodFindsSpec.plain.varTypes Tryz.prog).any (Tryz.prog.ifacesRec ·))) = true := by kernel_rfl
theorem k15 : ((Rows.prodFindsRow.mapsOut == Tryz.prog.mapsAmong Tryz.f4.resultTypes.toList)) = true := by kernel_rfl
theorem k16 : ((Rows.prodFindsRow.loops == (Tryz.f4.params.toList ++ Rows.prodFindsSpec.plain.varTypes Tryz.prog).any (Tryz.prog.loopsFrom ·))) = true := by kernel_rfl
theorem k17 : ((Rows.prodFindsRow.wideKeys == (Tryz.f4.params.toList ++ Rows.prodFindsSpec.plain.varTypes Tryz.prog ++ Tryz.f4.resultTypes.toList).any (Tryz.prog.wideKeysFrom ·))) = true := by kernel_rfl
theorem k18 : (Rows.prodFindsSpec.vars.all (Tryz.prog.varReadable ·)) = true := by kernel_rfl
theorem k19 : (Tryz.f4.resultTypes.all (fun t => Tryz.prog.readableRec t && decide (t < Tryz.prog.types.size))) = true := by kernel_rfl
theorem k20 : ((Rows.prodFindsRow.ifacesOut == Tryz.f4.resultTypes.toList.any (Tryz.prog.ifacesRec ·))) = true := by kernel_rfl
theorem k21 : ((Rows.prodFindsRow.loopsOut == Tryz.f4.resultTypes.toList.any (Tryz.prog.loopsFrom ·))) = true := by kernel_rfl
theorem k22 : ((Rows.prodFindsRow.plainKeys == Tryz.prog.plainKeys)) = true := by kernel_rfl
theorem k23 : (Rows.prodFindsRow.shortTexts.isNone) = true := by kernel_rfl
theorem k24 : (Tryz.prog.stopsHeard) = true := by kernel_rfl
theorem k25 : (Tryz.prog.mayEnter) = true := by kernel_rfl
theorem k26 : ((Rows.prodFindsRow.lifted == Tryz.prog.liftsFinal)) = true := by kernel_rfl
theorem k27 : ((Tryz.prog.make == some Rows.prodFindsRow.make)) = true := by kernel_rfl
theorem k28 : ((Rows.prodFindsRow.kinds == (if Rows.prodFindsRow.domain.isEmpty then [] else Tryz.f4.params.toList.map fun t => match Tryz.prog.underlying t with | some (.int k) => some k | _ => none))) = true := by kernel_rfl
theorem k29 : ((Rows.prodFindsRow.pinned == Rows.prodFindsRow.pinnedBy)) = true := by kernel_rfl
theorem k30 : ((Rows.prodFindsRow.veiled == (Tryz.f4.params.toList ++ Rows.prodFindsSpec.plain.varTypes Tryz.prog ++ Tryz.f4.resultTypes.toList).any (Tryz.prog.veiledRec ·))) = true := by kernel_rfl
theorem k31 : (Rows.prodFindsRow.veiledFits Tryz.prog Tryz.f4.params.toList (Tryz.f4.params.toList ++ Rows.prodFindsSpec.plain.varTypes Tryz.prog ++ Tryz.f4.resultTypes.toList)) = true := by kernel_rfl
theorem closed : joinedFacts Tryz.prog 4 Tryz.f4 Rows.prodFindsSpec Rows.prodFindsRow = true := by
  unfold joinedFacts
  exact (and_mk (and_mk (and_mk (and_mk (and_mk (and_mk (and_mk (and_mk (and_mk (and_mk (and_mk (and_mk (and_mk (and_mk (and_mk (and_mk (and_mk (and_mk (and_mk (and_mk (and_mk (and_mk (and_mk (and_mk (and_mk (and_mk (and_mk (and_mk (and_mk (and_mk (and_mk k0 k1) k2) k3) k4) k5) k6) k7) k8) k9) k10) k11) k12) k13) k14) k15) k16) k17) k18) k19) k20) k21) k22) k23) k24) k25) k26) k27) k28) k29) k30) k31)

theorem said : Rows.ProdFindsSaid :=
  OpenClaim.holds_of_cond 4 Tryz.f4 rfl rfl rfl rfl rfl rfl rfl ⟨rfl, rfl, rfl, rfl, rfl⟩ rfl rfl rfl rfl rfl (by kernel_rfl) Tryz.func4 closed
    (of_decide_eq_true (by kernel_rfl)) (by unfold Func.isWrapper; first | (rw [if_pos (by decide +kernel)]; kernel_rfl) | (rw [if_neg (by decide +kernel)]; exact ⟨rfl, rfl⟩))
    (fun os started H enc _ F => by rw [OpenClaim.pre_eq_preRow]; exact lifted os started H enc F)

/-- No parameter wants a stand-in; the program's own looks: what the card asks. -/
theorem plain (f : FuncId) (fn : Func) (hf : Tryz.pinned.checked.prog.funcNamed "hackle/hacklelaw12.ProdFinds" = some f) (hfn : Tryz.pinned.checked.prog.funcs[f]? = some fn) :
    true = Tryz.pinned.checked.prog.looks [] ∧ ∀ (j : Nat) t, fn.params[j]? = some t → Tryz.pinned.checked.prog.wantsStandIn t = false := by
  obtain rfl : f = 4 := Option.some.inj ((show Tryz.prog.funcNamed "hackle/hacklelaw12.ProdFinds" = some 4 by kernel_rfl).symm.trans hf) |>.symm
  obtain rfl : fn = Tryz.f4 := (Option.some.inj (Tryz.func4.symm.trans hfn)).symm
  refine ⟨by kernel_rfl, fun j t ht => ?_⟩
  rw [Tryz.params4] at ht
  have hall : ([28, 28] : List TypeId).all (fun t => !Tryz.prog.wantsStandIn t) = true := by kernel_rfl
  have := List.all_eq_true.1 hall t (by simpa using Array.mem_of_getElem? ht)
  exact (by simpa using this : Tryz.prog.wantsStandIn t = false)

/-- ████ THE STATEMENT ████ -/
theorem proved : Rows.ProdFindsCardSaid :=
  Claim7.holds_tied_plain_at .later [] _ _ _ _ said (fun _ h => by cases h) (by kernel_rfl) (fun _ h => by cases h) prodFinds_row_tie rfl ⟨rfl, rfl⟩ (by kernel_rfl) rfl plain (by kernel_rfl)
end Go.Proofs.YteicokbnoonipaaGreatDoor.prodFinds
