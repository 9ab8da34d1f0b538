/- The law RxFirst of hacklelaw04 is proved: the call returns true for every input. Conditions: none beyond the statement's. The frame is turned from the kit's proof-skeleton. -/
import Derived.Test.YtmgkffdnnjpmpaaRows
import Derived.Test.YtmgkffdnnjpmpaaHkRxP
import Derived.Test.YtmgkffdnnjpmpaaHkRxArg
import Derived.Test.YtmgkffdnnjpmpaaHkRead3
import Derived.Test.YtmgkffdnnjpmpaaHkWrap
import Derived.Test.YtmgkffdnnjpmpaaHkShapes
import Derived.WalkKit
import Derived.ProofKit
import Derived.OpenShut
import Derived.ShutString
namespace Go.Proofs.Ytmgkffdnnjpmpaa.rxFirst
open Go.ChangeShapes Go.WideShapes Go.ChangeAt Go.RowKit
open Go.ChangeMaps (open_string shut_string)
set_option linter.unusedVariables false

theorem own : ownKnob Try.prog.godebug = none := by kernel_rfl

theorem re_arg {x : Hk.PV} {v : Value} {w : World} (hx : Hk.ArgShp Try.prog 55 x) (hr : Hk.RP w Hk.noInj.M x v) : ∃ T : Hk.Tr, T.Fit ∧ Hk.RP w Hk.noInj.M T.pv v := by
  obtain ⟨xs, rfl, hs⟩ := hx.agg_inv (by rw [Hk.aggT, Try.underlying55])
  exact Hk.tree_pv ((Hk.re_shp Try.underlying55 rfl (fun f h => by cases h; rfl) (fun f h => by cases h; rfl) (fun f h => by cases h; rfl) (fun f h => by cases h; rfl) (fun f h => by cases h; rfl)
    Try.underlying3 Try.underlying52 Try.underlying50 Try.underlying53 hs).1 rfl) hr

/-! ### The walk -/
theorem walk (x0 : Hk.PV) (v0 : Value) (hx0 : Hk.ArgShp Try.prog 55 x0) (w : World) (hr0 : Hk.RP w Hk.noInj.M x0 v0) :
    Calls Try.prog 11 #[v0] w fun e w' => e = .returned (.bool true) ∧ Hk.Kept w w' := by
  obtain ⟨T, hT, hr⟩ := re_arg hx0 hr0
  exact (Hk.RxFirst_fn T hT).true (.cons hr .nil)

/-! ### THE ROW's STEP -/
set_option maxRecDepth 100000 in
theorem lifted (os : Os) (started : os.Started) (H : Type) (enc : TypeId × Value → H) :
    ReturnsInHanded {} Try.checked os 11 .any (Rows.rxFirstSpec.pre6 enc Try.prog Try.f11 Rows.rxFirstRow.domain false) (Rows.rxFirstSpec.post enc Try.prog Try.f11 false true false false) := by
  refine returnsInHanded_of_change (C := Try.checked) own started (by kernel_rfl) Try.func11
    (ChangeSpec.witness6 (enc := enc) (C := Try.checked) false ⟨#[], #[.agg #[.int .i64 0, .int .u64 0, .int .u64 0, .int .u64 0, .int .u64 0, .slice none 0 0, .int .i64 0, .int .i64 0]], []⟩ 8 (by kernel_rfl) (by kernel_rfl) (by kernel_rfl) (by kernel_rfl)) ?_
  intro W base args ds gs before hval0 hW hcnd _
  have hval : ∀ (j : Nat) t v, Try.f11.params[j]? = some t → args[j]? = some v → Value.okWide Try.prog W .any base t v := hval0
  have hW' := hW
  obtain ⟨p, q, hA0, hV, rfl, hfz, hnd⟩ := hW
  have hA : DataW.TrodAll enc Try.prog W 0 (fun _ => true) true Try.f11.params.toList args.toList ds p := hA0
  rw [Try.params11] at hA hval
  obtain ⟨v0, vs0, d0, ds0, p0, q0, hargs, rfl, rfl, h0, r0⟩ := trodAll_cons hA
  obtain ⟨rfl, rfl, rfl⟩ := trodAll_nil r0
  obtain rfl : args = #[v0] := by cases args; simp_all
  obtain ⟨rfl, rfl⟩ := trodVars_none hV
  obtain ⟨x0, hx0, hr0⟩ := Hk.arg_pv (L := [3, 50, 52, 53, 55]) (by kernel_rfl) (by decide) (hval 0 55 v0 rfl rfl) h0
  have hlt := hW'.lt
  have hA' := hA0
  refine (walk x0 v0 hx0 W hr0).mono fun e W' ⟨he, hg⟩ => ?_
  subst he
  have hall : (Try.f11.params.toList.all fun t => Try.prog.readableRec t && decide (t < Try.prog.types.size)) = true := by kernel_rfl
  refine ⟨_, rfl, Hk.post_kept (pv := []) hW' (fun _ _ _ => (trodAll_cons_mk (shut_bool Try.underlying4 _) trodAll_mk0)) (fun sp hsp => Hk.args_stay (by kernel_rfl : laidOutB Try.prog = true) hg
    (fun t ht => by have := List.all_eq_true.1 hall t ht; simpa using this) hA' (fun p hp => hlt p (by simpa using hp)) (fun p hp => hsp p (by simpa using hp))) (fun _ _ => rfl) (by simp)
    hg (ok_one (by kernel_rfl) rfl (okWide_bool_mk Try.underlying4 _))⟩

theorem over : Rows.rxFirstRow.holds Try.pinned (OpenSpec.ofChange Rows.rxFirstSpec) :=
  OpenClaim.holds_of_wide 11 Try.f11 rfl rfl rfl rfl rfl rfl rfl ⟨rfl, rfl, rfl, rfl, rfl⟩ rfl rfl rfl rfl rfl (by kernel_rfl) Try.func11 (by kernel_rfl)
    (of_decide_eq_true (by kernel_rfl)) (by unfold Func.isWrapper; first | (rw [if_pos (by decide +kernel)]; kernel_rfl) | (rw [if_neg (by decide +kernel)]; exact ⟨rfl, rfl⟩))
    (fun os started H enc _ => lifted os started H enc)

/-- ████ THE STATEMENT ████ -/
theorem proved : Rows.RxFirstSaid :=
  over
end Go.Proofs.Ytmgkffdnnjpmpaa.rxFirst
