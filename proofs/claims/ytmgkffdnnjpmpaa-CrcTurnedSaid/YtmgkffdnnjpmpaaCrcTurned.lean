/- The law CrcTurned of hacklelaw17 is proved: the call returns true for every input. Conditions: none beyond the statement's. The frame was written by the kit's proof-skeleton. -/
import Derived.Test.YtmgkffdnnjpmpaaRows
import Derived.Test.YtmgkffdnnjpmpaaHkCrcLaw5
import Derived.Test.YtmgkffdnnjpmpaaHkRead3
import Derived.Test.YtmgkffdnnjpmpaaHkWrap
import Derived.WalkKit
import Derived.ProofKit
import Derived.OpenShut
import Derived.ShutString
namespace Go.Proofs.Ytmgkffdnnjpmpaa.crcTurned
open Go.ChangeShapes Go.WideShapes Go.ChangeAt Go.RowKit
open Go.ChangeMaps (open_string shut_string)
set_option linter.unusedVariables false      -- a walk need not use every 'w<i>' (that an integer argument fits its kind)

theorem own : ownKnob Try.prog.godebug = none := by kernel_rfl

/-! ### The walk -/
theorem walk (a0 : ByteArray) (a1 : Int) (x : Hk.PV) (v : Value) (hx : Hk.ArgShp Try.prog 27 x) (w : World) (hr : Hk.RP w Hk.noInj.M x v) :
    Calls Try.prog 4 #[.string a0, .int .i64 a1, v] w fun e w' => e = .returned (.bool true) ∧ Hk.Kept w w' := by
  have hu8 : ∀ r, Hk.Shp Try.prog 5 r → ∃ c : UInt8, r = [.int .u8 c.toNat] := fun r h => by
    cases h with
    | int ht hw =>
      rename_i k n
      rw [Try.underlying5] at ht
      cases ht
      refine ⟨UInt8.ofNat n.toNat, ?_⟩
      simp [Lit.wf, IntKind.min, IntKind.max, IntKind.signed, IntKind.bits] at hw
      have : ((UInt8.ofNat n.toNat).toNat : Int) = n := by
        simp
        omega
      rw [this]
    | b y ht => rw [Try.underlying5] at ht; cases ht
    | str ht hl => rw [Try.underlying5] at ht; cases ht
    | nil ht => rw [Try.underlying5] at ht; cases ht
    | sl ht hl hr => rw [Try.underlying5] at ht; cases ht
    | arr ht hn hr => rw [Try.underlying5] at ht; cases ht
    | struct ht hn hr => rw [Try.underlying5] at ht; cases ht
  obtain ⟨y, rfl⟩ : ∃ y : Nat → UInt8, x = .agg [.int .u8 (y 0).toNat, .int .u8 (y 1).toNat, .int .u8 (y 2).toNat, .int .u8 (y 3).toNat] := by
    cases hx with
    | one _ h hs => exact absurd h (by rw [Hk.aggT, Try.underlying27]; decide)
    | agg xs h hs =>
      generalize hxs : xs = ys at hs
      cases hs with
      | arr ht hn hr =>
        rename_i n parts
        rw [Try.underlying27] at ht
        cases ht
        match parts, hn with
        | [r0, r1, r2, r3], _ =>
          obtain ⟨c0, rfl⟩ := hu8 r0 (hr 0 r0 rfl)
          obtain ⟨c1, rfl⟩ := hu8 r1 (hr 1 r1 rfl)
          obtain ⟨c2, rfl⟩ := hu8 r2 (hr 2 r2 rfl)
          obtain ⟨c3, rfl⟩ := hu8 r3 (hr 3 r3 rfl)
          exact ⟨fun i => match i with | 0 => c0 | 1 => c1 | 2 => c2 | _ => c3, by subst hxs; rfl⟩
      | b y ht => rw [Try.underlying27] at ht; cases ht
      | int ht hw => rw [Try.underlying27] at ht; cases ht
      | str ht hl => rw [Try.underlying27] at ht; cases ht
      | nil ht => rw [Try.underlying27] at ht; cases ht
      | sl ht hl hr => rw [Try.underlying27] at ht; cases ht
      | struct ht hn hr => rw [Try.underlying27] at ht; cases ht
  have h := Hk.CrcTurned_fn a0.data.toList a1 y
  exact h.true (.cons (.str' a0) (.cons (.int .i64 a1) (.cons hr .nil)))

/-! ### THE ROW's STEP: WRITTEN OUT: LEAVE IT -/
set_option maxRecDepth 100000 in
theorem lifted (os : Os) (started : os.Started) (H : Type) (enc : TypeId × Value → H) :
    ReturnsInHanded {} Try.checked os 4 .any (Rows.crcTurnedSpec.pre6 enc Try.prog Try.f4 Rows.crcTurnedRow.domain false) (Rows.crcTurnedSpec.post enc Try.prog Try.f4 false true false false) := by
  refine returnsInHanded_of_change (C := Try.checked) own started (by kernel_rfl) Try.func4
    (ChangeSpec.witness6 (enc := enc) (C := Try.checked) false ⟨#[], #[.string ByteArray.empty, .int .i64 0, .agg #[.int .u8 0, .int .u8 0, .int .u8 0, .int .u8 0]], []⟩ 8 (by kernel_rfl) (by kernel_rfl) (by kernel_rfl) (by kernel_rfl)) ?_
  intro W base args ds gs before hval0 hW hcnd _
  have hval : ∀ (j : Nat) t v, Try.f4.params[j]? = some t → args[j]? = some v → Value.okWide Try.prog W .any base t v := hval0
  have hW' := hW
  obtain ⟨p, q, hA0, hV, rfl, hfz, hnd⟩ := hW
  have hA : DataW.TrodAll enc Try.prog W 0 (fun _ => true) true Try.f4.params.toList args.toList ds p := hA0
  rw [Try.params4] at hA hval
  obtain ⟨v0, vs0, d0, ds0, p0, q0, hargs, rfl, rfl, h0, r0⟩ := trodAll_cons hA
  obtain ⟨v1, vs1, d1, ds1, p1, q1, rfl, rfl, rfl, h1, r1⟩ := trodAll_cons r0
  obtain ⟨v2, vs2, d2, ds2, p2, q2, rfl, rfl, rfl, h2, r2⟩ := trodAll_cons r1
  obtain ⟨rfl, rfl, rfl⟩ := trodAll_nil r2
  obtain rfl : args = #[v0, v1, v2] := by cases args; simp_all
  obtain ⟨rfl, rfl⟩ := trodVars_none hV
  obtain ⟨a0, rfl, e0, rfl, w0⟩ := open_string Try.underlying9 (hval 0 9 v0 rfl rfl) h0
  obtain ⟨a1, rfl, e1, rfl, w1⟩ := open_int Try.underlying3 (hval 1 3 v1 rfl rfl) h1
  obtain ⟨x, hx, hr⟩ := Hk.arg_pv (L := [5, 27]) (by kernel_rfl) (by decide) (hval 2 27 v2 rfl rfl) h2
  have hlt := hW'.lt
  have hA' := hA0
  refine (walk a0 a1 x v2 hx W hr).mono fun e W' ⟨he, hg⟩ => ?_
  subst he
  have hall : (Try.f4.params.toList.all fun t => Try.prog.readableRec t && decide (t < Try.prog.types.size)) = true := by kernel_rfl
  refine ⟨_, rfl, Hk.post_kept (pv := []) hW' (fun _ _ _ => (trodAll_cons_mk (shut_bool Try.underlying4 _) trodAll_mk0)) (fun sp hsp => Hk.args_stay (by kernel_rfl : laidOutB Try.prog = true) hg
    (fun t ht => by have := List.all_eq_true.1 hall t ht; simpa using this) hA' (fun p hp => hlt p (by simpa using hp)) (fun p hp => hsp p (by simpa using hp))) (fun _ _ => rfl) (by simp)
    hg (ok_one (by kernel_rfl) rfl (okWide_bool_mk Try.underlying4 _))⟩

theorem over : Rows.crcTurnedRow.holds Try.pinned (OpenSpec.ofChange Rows.crcTurnedSpec) :=
  OpenClaim.holds_of_wide 4 Try.f4 rfl rfl rfl rfl rfl rfl rfl ⟨rfl, rfl, rfl, rfl, rfl⟩ rfl rfl rfl rfl rfl (by kernel_rfl) Try.func4 (by kernel_rfl)
    (of_decide_eq_true (by kernel_rfl)) (by unfold Func.isWrapper; first | (rw [if_pos (by decide +kernel)]; kernel_rfl) | (rw [if_neg (by decide +kernel)]; exact ⟨rfl, rfl⟩))
    (fun os started H enc _ => lifted os started H enc)

/-- ████ THE STATEMENT ████ -/
theorem proved : Rows.CrcTurnedSaid :=
  over
end Go.Proofs.Ytmgkffdnnjpmpaa.crcTurned
