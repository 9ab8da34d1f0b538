/- The law RxMay of hacklelaw04 is proved in its second form: the call returns true for every input. Conditions: none beyond the statement's (what it reads is of bulk at most 1048576). The frame is turned from the kit's proof-skeleton. -/
import Derived.Test.YtmgkffdnnjpmpaaRows
import Derived.Test.YtmgkffdnnjpmpaaHkRxT
import Derived.Test.YtmgkffdnnjpmpaaHkRxArg2
import Derived.Test.YtmgkffdnnjpmpaaHkRead3
import Derived.Test.YtmgkffdnnjpmpaaHkWrap
import Derived.Test.YtmgkffdnnjpmpaaHkShapes
import Derived.JoinedCond
import Derived.WalkKit
import Derived.ProofKit
import Derived.OpenShut
import Derived.ShutString
namespace Go.Proofs.Ytmgkffdnnjpmpaa.rxMay
open Go.ChangeShapes Go.WideShapes Go.ChangeAt Go.RowKit
open Go.ChangeMaps (open_string shut_string)
set_option linter.unusedVariables false

theorem own : ownKnob Try.prog.godebug = none := by kernel_rfl

theorem one_le {H : Type} (d : DataW H) : 1 ≤ Rows.uptoBulk d := by
  cases d with
  | lit l => cases l <;> simp [Rows.uptoBulk]
  | nil => simp [Rows.uptoBulk]
  | ptr d => simp [Rows.uptoBulk]
  | slice elems spare => simp [Rows.uptoBulk]
  | agg parts => simp [Rows.uptoBulk]
  | iface t d => simp [Rows.uptoBulk]
  | map entries => simp [Rows.uptoBulk]
  | held h => simp [Rows.uptoBulk]

theorem sum_all {H : Type} : ∀ l : List (DataW H), (l.map Rows.uptoBulk).sum = Rows.uptoBulkAll l
  | [] => by simp [Rows.uptoBulkAll]
  | d :: r => by rw [List.map_cons, List.sum_cons, sum_all r]; simp [Rows.uptoBulkAll]

theorem bulk {H : Type} : Hk.Bulk (Rows.uptoBulk (H := H)) :=
  ⟨one_le, fun els spare => by rw [sum_all]; simp only [Rows.uptoBulk]; omega, fun parts => by rw [sum_all]; simp only [Rows.uptoBulk]; omega⟩

set_option maxRecDepth 100000 in
theorem re_sz {H : Type} {enc : TypeId × Value → H} {W : World} {sp : Nat → Bool} {held : Bool} {base : Nat} {v : Value} (hval : Value.okWide Try.prog W .any base 55 v) {d : DataW H} {ps : List MemPlace}
    (h : DataW.Trod enc Try.prog W 0 sp held 55 v d ps) : ∃ T : Hk.Tr, T.Fit ∧ T.nodes ≤ Rows.uptoBulk d ∧ Hk.RP W Hk.noInj.M T.pv v := by
  obtain ⟨xs, hs, hz, hr⟩ := Hk.agg_sz bulk (L := [3, 50, 52, 53, 55]) (by kernel_rfl) (by decide) Try.underlying55 hval h
  obtain ⟨T, hT, hn, hr'⟩ := Hk.tree_pv2 ((Hk.re_shp2 Try.underlying55 rfl (fun f h => by cases h; rfl) (fun f h => by cases h; rfl) (fun f h => by cases h; rfl) (fun f h => by cases h; rfl) (fun f h => by cases h; rfl)
    Try.underlying3 Try.underlying52 Try.underlying50 Try.underlying53 hs).1 rfl) hr
  exact ⟨T, hT, Nat.le_trans hn hz, hr'⟩

/-! ### The walk -/
theorem walk (A B : Hk.Tr) (v0 v1 : Value) (hA : A.Fit) (hB : B.Fit) (nA : A.nodes < 2 ^ 40) (nB : B.nodes < 2 ^ 40) (w : World) (hr0 : Hk.RP w Hk.noInj.M A.pv v0) (hr1 : Hk.RP w Hk.noInj.M B.pv v1) :
    Calls Try.prog 14 #[v0, v1] w fun e w' => e = .returned (.bool true) ∧ Hk.Kept w w' :=
  (Hk.RxMay_fn A B hA hB nA nB).true (.cons hr0 (.cons hr1 .nil))

/-! ### THE ROW's STEP -/
set_option maxRecDepth 100000 in
theorem lifted (os : Os) (started : os.Started) (H : Type) (enc : TypeId × Value → H) (F : Stop.Interp) :
    ReturnsInHanded {} Try.checked os 14 .any ((Rows.OpenSpec.upto Rows.rxMaySpec).pre6 enc Try.prog Try.f14 Rows.rxMayUptoRow.domain false) (((Rows.OpenSpec.upto Rows.rxMaySpec).at F).post enc Try.prog Try.f14 false true false false) := by
  refine returnsInHanded_of_cond (C := Try.checked) (s := Rows.OpenSpec.upto Rows.rxMaySpec) (k := Rows.uptoSmall) rfl own started (by kernel_rfl) Try.func14
    (OpenSpec.witness (enc := enc) (C := Try.checked) (s := Rows.OpenSpec.upto Rows.rxMaySpec) (k := Rows.uptoSmall) rfl false ⟨#[], #[.agg #[.int .i64 0, .int .u64 0, .int .u64 0, .int .u64 0, .int .u64 0, .slice none 0 0, .int .i64 0, .int .i64 0], .agg #[.int .i64 0, .int .u64 0, .int .u64 0, .int .u64 0, .int .u64 0, .slice none 0 0, .int .i64 0, .int .i64 0]], []⟩ 8 (by kernel_rfl) (by kernel_rfl) (by kernel_rfl)
      (x := ([.agg [.lit (.int .i64 0), .agg [.lit (.int .u64 0), .lit (.int .u64 0), .lit (.int .u64 0), .lit (.int .u64 0)], .nil, .lit (.int .i64 0), .lit (.int .i64 0)], .agg [.lit (.int .i64 0), .agg [.lit (.int .u64 0), .lit (.int .u64 0), .lit (.int .u64 0), .lit (.int .u64 0)], .nil, .lit (.int .i64 0), .lit (.int .i64 0)]], [], [])) (by kernel_rfl) rfl (by kernel_rfl)) ?_
  intro W base args ds gs before hval0 hW hcnd hk _
  have hval : ∀ (j : Nat) t v, Try.f14.params[j]? = some t → args[j]? = some v → Value.okWide Try.prog W .any base t v := hval0
  have hW' := hW
  obtain ⟨p, q, hA0, hV, rfl, hfz, hnd⟩ := hW
  have hA : DataW.TrodAll enc Try.prog W 0 (fun _ => true) true Try.f14.params.toList args.toList ds p := hA0
  rw [Try.params14] at hA hval
  obtain ⟨v0, vs0, d0, ds0, p0, q0, hargs, rfl, rfl, h0, r0⟩ := trodAll_cons hA
  obtain ⟨v1, vs1, d1, ds1, p1, q1, rfl, rfl, rfl, h1, r1⟩ := trodAll_cons r0
  obtain ⟨rfl, rfl, rfl⟩ := trodAll_nil r1
  obtain rfl : args = #[v0, v1] := by cases args; simp_all
  obtain ⟨rfl, rfl⟩ := trodVars_none hV
  have hb : Rows.uptoBulkAll ([d0, d1] ++ []) ≤ 1048576 := of_decide_eq_true hk
  simp only [List.append_nil, Rows.uptoBulkAll] at hb
  obtain ⟨A, fA, nA, hr0⟩ := re_sz (hval 0 55 v0 rfl rfl) h0
  obtain ⟨B, fB, nB, hr1⟩ := re_sz (hval 1 55 v1 rfl rfl) h1
  have hlt := hW'.lt
  have hA' := hA0
  refine (walk A B v0 v1 fA fB (by omega) (by omega) W hr0 hr1).mono fun e W' ⟨he, hg⟩ => ?_
  subst he
  have hall : (Try.f14.params.toList.all fun t => Try.prog.readableRec t && decide (t < Try.prog.types.size)) = true := by kernel_rfl
  refine ⟨_, rfl, Hk.post_kept (pv := []) hW' (fun _ _ _ => (trodAll_cons_mk (shut_bool Try.underlying4 _) trodAll_mk0)) (fun sp hsp => Hk.args_stay (by kernel_rfl : laidOutB Try.prog = true) hg
    (fun t ht => by have := List.all_eq_true.1 hall t ht; simpa using this) hA' (fun p hp => hlt p (by simpa using hp)) (fun p hp => hsp p (by simpa using hp))) (fun _ _ => rfl) (by simp)
    hg (ok_one (by kernel_rfl) rfl (okWide_bool_mk Try.underlying4 _))⟩

theorem over : Rows.rxMayUptoRow.holds Try.pinned (Rows.OpenSpec.upto Rows.rxMaySpec) :=
  OpenClaim.holds_of_cond 14 Try.f14 rfl rfl rfl rfl rfl rfl rfl ⟨rfl, rfl, rfl, rfl, rfl⟩ rfl rfl rfl rfl rfl (by kernel_rfl) Try.func14 (by kernel_rfl)
    (of_decide_eq_true (by kernel_rfl)) (by unfold Func.isWrapper; first | (rw [if_pos (by decide +kernel)]; kernel_rfl) | (rw [if_neg (by decide +kernel)]; exact ⟨rfl, rfl⟩))
    (fun os started H enc _ F => lifted os started H enc F)

/-- ████ THE STATEMENT ████ -/
theorem proved : Rows.RxMayUptoSaid :=
  over
end Go.Proofs.Ytmgkffdnnjpmpaa.rxMay
