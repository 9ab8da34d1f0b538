/- The law RxLast of hacklelaw04 is proved: the call returns true for every input. Conditions: none beyond the statement's. The frame is turned from the kit's proof-skeleton. -/
import Derived.Test.YtmgkffdnnjpmpaaRows
import Derived.Test.YtmgkffdnnjpmpaaHkRxN
import Derived.Test.YtmgkffdnnjpmpaaHkRxArg
import Derived.Test.YtmgkffdnnjpmpaaHkRead3
import Derived.Test.YtmgkffdnnjpmpaaHkWrap
import Derived.Test.YtmgkffdnnjpmpaaHkShapes
import Derived.WalkKit
import Derived.ProofKit
import Derived.OpenShut
import Derived.ShutString
namespace Go.Proofs.Ytmgkffdnnjpmpaa.rxLast
open Go.ChangeShapes Go.WideShapes Go.ChangeAt Go.RowKit
open Go.ChangeMaps (open_string shut_string)
set_option linter.unusedVariables false

theorem own : ownKnob Try.prog.godebug = none := by kernel_rfl

theorem re_arg {x : Hk.PV} {v : Value} {w : World} (hx : Hk.ArgShp Try.prog 55 x) (hr : Hk.RP w Hk.noInj.M x v) : ∃ T : Hk.Tr, T.Fit ∧ Hk.RP w Hk.noInj.M T.pv v := by
  obtain ⟨xs, rfl, hs⟩ := hx.agg_inv (by rw [Hk.aggT, Try.underlying55])
  exact Hk.tree_pv ((Hk.re_shp Try.underlying55 rfl (fun f h => by cases h; rfl) (fun f h => by cases h; rfl) (fun f h => by cases h; rfl) (fun f h => by cases h; rfl) (fun f h => by cases h; rfl)
    Try.underlying3 Try.underlying52 Try.underlying50 Try.underlying53 hs).1 rfl) hr

/-! ### The walk -/
theorem walk (x0 : Hk.PV) (v0 : Value) (hx0 : Hk.ArgShp Try.prog 55 x0) (x1 : Hk.PV) (v1 : Value) (hx1 : Hk.ArgShp Try.prog 9 x1) (w : World) (hr0 : Hk.RP w Hk.noInj.M x0 v0) (hr1 : Hk.RP w Hk.noInj.M x1 v1) :
    Calls Try.prog 13 #[v0, v1] w fun e w' => e = .returned (.bool true) ∧ Hk.Kept w w' := by
  obtain ⟨T, hT, hr⟩ := re_arg hx0 hr0
  obtain ⟨s, rfl, _⟩ := hx1.str Try.underlying9
  exact (Hk.RxLast_fn T hT s).true (.cons hr (.cons hr1 .nil))

/-! ### THE ROW's STEP -/
set_option maxRecDepth 100000 in
theorem lifted (os : Os) (started : os.Started) (H : Type) (enc : TypeId × Value → H) :
    ReturnsInHanded {} Try.checked os 13 .any (Rows.rxLastSpec.pre6 enc Try.prog Try.f13 Rows.rxLastRow.domain false) (Rows.rxLastSpec.post enc Try.prog Try.f13 false true false false) := by
  refine returnsInHanded_of_change (C := Try.checked) own started (by kernel_rfl) Try.func13
    (ChangeSpec.witness6 (enc := enc) (C := Try.checked) false ⟨#[], #[.agg #[.int .i64 0, .int .u64 0, .int .u64 0, .int .u64 0, .int .u64 0, .slice none 0 0, .int .i64 0, .int .i64 0], .string ByteArray.empty], []⟩ 8 (by kernel_rfl) (by kernel_rfl) (by kernel_rfl) (by kernel_rfl)) ?_
  intro W base args ds gs before hval0 hW hcnd _
  have hval : ∀ (j : Nat) t v, Try.f13.params[j]? = some t → args[j]? = some v → Value.okWide Try.prog W .any base t v := hval0
  have hW' := hW
  obtain ⟨p, q, hA0, hV, rfl, hfz, hnd⟩ := hW
  have hA : DataW.TrodAll enc Try.prog W 0 (fun _ => true) true Try.f13.params.toList args.toList ds p := hA0
  rw [Try.params13] at hA hval
  obtain ⟨v0, vs0, d0, ds0, p0, q0, hargs, rfl, rfl, h0, r0⟩ := trodAll_cons hA
  obtain ⟨v1, vs1, d1, ds1, p1, q1, rfl, rfl, rfl, h1, r1⟩ := trodAll_cons r0
  obtain ⟨rfl, rfl, rfl⟩ := trodAll_nil r1
  obtain rfl : args = #[v0, v1] := by cases args; simp_all
  obtain ⟨rfl, rfl⟩ := trodVars_none hV
  obtain ⟨x0, hx0, hr0⟩ := Hk.arg_pv (L := [3, 9, 50, 52, 53, 55]) (by kernel_rfl) (by decide) (hval 0 55 v0 rfl rfl) h0
  obtain ⟨x1, hx1, hr1⟩ := Hk.arg_pv (L := [3, 9, 50, 52, 53, 55]) (by kernel_rfl) (by decide) (hval 1 9 v1 rfl rfl) h1
  have hlt := hW'.lt
  have hA' := hA0
  refine (walk x0 v0 hx0 x1 v1 hx1 W hr0 hr1).mono fun e W' ⟨he, hg⟩ => ?_
  subst he
  have hall : (Try.f13.params.toList.all fun t => Try.prog.readableRec t && decide (t < Try.prog.types.size)) = true := by kernel_rfl
  refine ⟨_, rfl, Hk.post_kept (pv := []) hW' (fun _ _ _ => (trodAll_cons_mk (shut_bool Try.underlying4 _) trodAll_mk0)) (fun sp hsp => Hk.args_stay (by kernel_rfl : laidOutB Try.prog = true) hg
    (fun t ht => by have := List.all_eq_true.1 hall t ht; simpa using this) hA' (fun p hp => hlt p (by simpa using hp)) (fun p hp => hsp p (by simpa using hp))) (fun _ _ => rfl) (by simp)
    hg (ok_one (by kernel_rfl) rfl (okWide_bool_mk Try.underlying4 _))⟩

theorem over : Rows.rxLastRow.holds Try.pinned (OpenSpec.ofChange Rows.rxLastSpec) :=
  OpenClaim.holds_of_wide 13 Try.f13 rfl rfl rfl rfl rfl rfl rfl ⟨rfl, rfl, rfl, rfl, rfl⟩ rfl rfl rfl rfl rfl (by kernel_rfl) Try.func13 (by kernel_rfl)
    (of_decide_eq_true (by kernel_rfl)) (by unfold Func.isWrapper; first | (rw [if_pos (by decide +kernel)]; kernel_rfl) | (rw [if_neg (by decide +kernel)]; exact ⟨rfl, rfl⟩))
    (fun os started H enc _ => lifted os started H enc)

/-- ████ THE STATEMENT ████ -/
theorem proved : Rows.RxLastSaid :=
  over
end Go.Proofs.Ytmgkffdnnjpmpaa.rxLast
