/- The law RxMakes of hacklelaw04 is proved: the call returns true for every input. Conditions: none beyond the statement's. The frame is turned from the kit's proof-skeleton. -/
import Derived.Test.YtmgkffdnnjpmpaaRows
import Derived.Test.YtmgkffdnnjpmpaaHkRxS
import Derived.Test.YtmgkffdnnjpmpaaHkRxArg
import Derived.Test.YtmgkffdnnjpmpaaHkRead3
import Derived.Test.YtmgkffdnnjpmpaaHkWrap
import Derived.Test.YtmgkffdnnjpmpaaHkShapes
import Derived.WalkKit
import Derived.ProofKit
import Derived.OpenShut
import Derived.ShutString
namespace Go.Proofs.Ytmgkffdnnjpmpaa.rxMakes
open Go.ChangeShapes Go.WideShapes Go.ChangeAt Go.RowKit
open Go.ChangeMaps (open_string shut_string)
set_option linter.unusedVariables false

theorem own : ownKnob Try.prog.godebug = none := by kernel_rfl

theorem re_q {r : List Hk.PV} (h : Hk.Shp Try.prog 55 r) : Hk.ReQ r :=
  (Hk.re_shp Try.underlying55 rfl (fun f h => by cases h; rfl) (fun f h => by cases h; rfl) (fun f h => by cases h; rfl) (fun f h => by cases h; rfl) (fun f h => by cases h; rfl)
    Try.underlying3 Try.underlying52 Try.underlying50 Try.underlying53 h).1 rfl

/-! ### The walk -/
theorem walk (x0 : Hk.PV) (v0 : Value) (hx0 : Hk.ArgShp Try.prog 53 x0) (x1 : Hk.PV) (v1 : Value) (hx1 : Hk.ArgShp Try.prog 9 x1) (x2 : Hk.PV) (v2 : Value) (hx2 : Hk.ArgShp Try.prog 62 x2) (w : World) (hr0 : Hk.RP w Hk.noInj.M x0 v0) (hr1 : Hk.RP w Hk.noInj.M x1 v1) (hr2 : Hk.RP w Hk.noInj.M x2 v2) :
    Calls Try.prog 12 #[v0, v1, v2] w fun e w' => e = .returned (.bool true) ∧ Hk.Kept w w' := by
  obtain ⟨wd, rows, cap, rfl, _, hl, hr⟩ := hx0.sl Try.underlying53
  obtain ⟨l, hll, hfit, hrp⟩ := Hk.re_slice (fun i r hi => re_q (hr i r hi)) hl hr0
  obtain ⟨s, rfl, _⟩ := hx1.str Try.underlying9
  obtain ⟨xs, rfl, hs⟩ := hx2.agg_inv (by rw [Hk.aggT, Try.underlying62])
  obtain ⟨parts, rfl, hn, hp⟩ := hs.arr_inv Try.underlying62
  match parts, hn, hp, hr2 with
  | [a, b], _, hp, hr2 =>
    obtain ⟨p, rfl, _⟩ := (hp 0 a rfl).int_inv Try.underlying3
    obtain ⟨q, rfl, _⟩ := (hp 1 b rfl).int_inv Try.underlying3
    exact (Hk.RxMakes_fn l hfit (by unfold maxLen at hl; omega) s p q).true (.cons hrp (.cons hr1 (.cons hr2 .nil)))

/-! ### THE ROW's STEP -/
set_option maxRecDepth 100000 in
theorem lifted (os : Os) (started : os.Started) (H : Type) (enc : TypeId × Value → H) :
    ReturnsInHanded {} Try.checked os 12 .any (Rows.rxMakesSpec.pre6 enc Try.prog Try.f12 Rows.rxMakesRow.domain false) (Rows.rxMakesSpec.post enc Try.prog Try.f12 false true false false) := by
  refine returnsInHanded_of_change (C := Try.checked) own started (by kernel_rfl) Try.func12
    (ChangeSpec.witness6 (enc := enc) (C := Try.checked) false ⟨#[], #[.slice none 0 0, .string ByteArray.empty, .agg #[.int .i64 0, .int .i64 0]], []⟩ 8 (by kernel_rfl) (by kernel_rfl) (by kernel_rfl) (by kernel_rfl)) ?_
  intro W base args ds gs before hval0 hW hcnd _
  have hval : ∀ (j : Nat) t v, Try.f12.params[j]? = some t → args[j]? = some v → Value.okWide Try.prog W .any base t v := hval0
  have hW' := hW
  obtain ⟨p, q, hA0, hV, rfl, hfz, hnd⟩ := hW
  have hA : DataW.TrodAll enc Try.prog W 0 (fun _ => true) true Try.f12.params.toList args.toList ds p := hA0
  rw [Try.params12] at hA hval
  obtain ⟨v0, vs0, d0, ds0, p0, q0, hargs, rfl, rfl, h0, r0⟩ := trodAll_cons hA
  obtain ⟨v1, vs1, d1, ds1, p1, q1, rfl, rfl, rfl, h1, r1⟩ := trodAll_cons r0
  obtain ⟨v2, vs2, d2, ds2, p2, q2, rfl, rfl, rfl, h2, r2⟩ := trodAll_cons r1
  obtain ⟨rfl, rfl, rfl⟩ := trodAll_nil r2
  obtain rfl : args = #[v0, v1, v2] := by cases args; simp_all
  obtain ⟨rfl, rfl⟩ := trodVars_none hV
  obtain ⟨x0, hx0, hr0⟩ := Hk.arg_pv (L := [3, 9, 50, 52, 53, 55, 62]) (by kernel_rfl) (by decide) (hval 0 53 v0 rfl rfl) h0
  obtain ⟨x1, hx1, hr1⟩ := Hk.arg_pv (L := [3, 9, 50, 52, 53, 55, 62]) (by kernel_rfl) (by decide) (hval 1 9 v1 rfl rfl) h1
  obtain ⟨x2, hx2, hr2⟩ := Hk.arg_pv (L := [3, 9, 50, 52, 53, 55, 62]) (by kernel_rfl) (by decide) (hval 2 62 v2 rfl rfl) h2
  have hlt := hW'.lt
  have hA' := hA0
  refine (walk x0 v0 hx0 x1 v1 hx1 x2 v2 hx2 W hr0 hr1 hr2).mono fun e W' ⟨he, hg⟩ => ?_
  subst he
  have hall : (Try.f12.params.toList.all fun t => Try.prog.readableRec t && decide (t < Try.prog.types.size)) = true := by kernel_rfl
  refine ⟨_, rfl, Hk.post_kept (pv := []) hW' (fun _ _ _ => (trodAll_cons_mk (shut_bool Try.underlying4 _) trodAll_mk0)) (fun sp hsp => Hk.args_stay (by kernel_rfl : laidOutB Try.prog = true) hg
    (fun t ht => by have := List.all_eq_true.1 hall t ht; simpa using this) hA' (fun p hp => hlt p (by simpa using hp)) (fun p hp => hsp p (by simpa using hp))) (fun _ _ => rfl) (by simp)
    hg (ok_one (by kernel_rfl) rfl (okWide_bool_mk Try.underlying4 _))⟩

theorem over : Rows.rxMakesRow.holds Try.pinned (OpenSpec.ofChange Rows.rxMakesSpec) :=
  OpenClaim.holds_of_wide 12 Try.f12 rfl rfl rfl rfl rfl rfl rfl ⟨rfl, rfl, rfl, rfl, rfl⟩ rfl rfl rfl rfl rfl (by kernel_rfl) Try.func12 (by kernel_rfl)
    (of_decide_eq_true (by kernel_rfl)) (by unfold Func.isWrapper; first | (rw [if_pos (by decide +kernel)]; kernel_rfl) | (rw [if_neg (by decide +kernel)]; exact ⟨rfl, rfl⟩))
    (fun os started H enc _ => lifted os started H enc)

/-- ████ THE STATEMENT ████ -/
theorem proved : Rows.RxMakesSaid :=
  over
end Go.Proofs.Ytmgkffdnnjpmpaa.rxMakes
