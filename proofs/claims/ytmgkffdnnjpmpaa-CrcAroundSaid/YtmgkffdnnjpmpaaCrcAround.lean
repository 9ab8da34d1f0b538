/- The law CrcAround of hacklelaw17 is proved: the call returns true for every input. Conditions: none beyond the statement's. The frame was written by the kit's proof-skeleton. -/
import Derived.Test.YtmgkffdnnjpmpaaRows
import Derived.Test.YtmgkffdnnjpmpaaHkCrcLaw4
import Derived.Test.YtmgkffdnnjpmpaaHkRead3
import Derived.Test.YtmgkffdnnjpmpaaHkWrap
import Derived.WalkKit
import Derived.ProofKit
import Derived.OpenShut
import Derived.ShutString
namespace Go.Proofs.Ytmgkffdnnjpmpaa.crcAround
open Go.ChangeShapes Go.WideShapes Go.ChangeAt Go.RowKit
open Go.ChangeMaps (open_string shut_string)
set_option linter.unusedVariables false      -- a walk need not use every 'w<i>' (that an integer argument fits its kind)

theorem own : ownKnob Try.prog.godebug = none := by kernel_rfl

/-! ### The walk -/
theorem walk (a0 a1 : ByteArray) (x : Hk.PV) (v : Value) (hx : Hk.ArgShp Try.prog 31 x) (w : World) (hr : Hk.RP w Hk.noInj.M x v) :
    Calls Try.prog 5 #[.string a0, .string a1, v] w fun e w' => e = .returned (.bool true) ∧ Hk.Kept w w' := by
  have hstr : ∀ r, Hk.Shp Try.prog 9 r → ∃ p : List UInt8, r = [.str p] := fun r h => by
    cases h with
    | str ht hl => exact ⟨_, rfl⟩
    | b y ht => rw [Try.underlying9] at ht; cases ht
    | int ht hw => rw [Try.underlying9] at ht; cases ht
    | nil ht => rw [Try.underlying9] at ht; cases ht
    | sl ht hl hr => rw [Try.underlying9] at ht; cases ht
    | arr ht hn hr => rw [Try.underlying9] at ht; cases ht
    | struct ht hn hr => rw [Try.underlying9] at ht; cases ht
  obtain ⟨p, q, rfl⟩ : ∃ p q : List UInt8, x = .agg [.str p, .str q] := by
    cases hx with
    | one _ h hs => exact absurd h (by rw [Hk.aggT, Try.underlying31]; decide)
    | agg xs h hs =>
      generalize hxs : xs = ys at hs
      cases hs with
      | arr ht hn hr =>
        rename_i n parts
        rw [Try.underlying31] at ht
        cases ht
        match parts, hn with
        | [r0, r1], _ =>
          obtain ⟨p, rfl⟩ := hstr r0 (hr 0 r0 rfl)
          obtain ⟨q, rfl⟩ := hstr r1 (hr 1 r1 rfl)
          exact ⟨p, q, by subst hxs; rfl⟩
      | b y ht => rw [Try.underlying31] at ht; cases ht
      | int ht hw => rw [Try.underlying31] at ht; cases ht
      | str ht hl => rw [Try.underlying31] at ht; cases ht
      | nil ht => rw [Try.underlying31] at ht; cases ht
      | sl ht hl hr => rw [Try.underlying31] at ht; cases ht
      | struct ht hn hr => rw [Try.underlying31] at ht; cases ht
  have h := Hk.CrcAround_fn a0.data.toList a1.data.toList p q
  exact h.true (.cons (.str' a0) (.cons (.str' a1) (.cons hr .nil)))

/-! ### THE ROW's STEP: WRITTEN OUT: LEAVE IT -/
set_option maxRecDepth 100000 in
theorem lifted (os : Os) (started : os.Started) (H : Type) (enc : TypeId × Value → H) :
    ReturnsInHanded {} Try.checked os 5 .any (Rows.crcAroundSpec.pre6 enc Try.prog Try.f5 Rows.crcAroundRow.domain false) (Rows.crcAroundSpec.post enc Try.prog Try.f5 false true false false) := by
  refine returnsInHanded_of_change (C := Try.checked) own started (by kernel_rfl) Try.func5
    (ChangeSpec.witness6 (enc := enc) (C := Try.checked) false ⟨#[], #[.string ByteArray.empty, .string ByteArray.empty, .agg #[.string ByteArray.empty, .string ByteArray.empty]], []⟩ 8 (by kernel_rfl) (by kernel_rfl) (by kernel_rfl) (by kernel_rfl)) ?_
  intro W base args ds gs before hval0 hW hcnd _
  have hval : ∀ (j : Nat) t v, Try.f5.params[j]? = some t → args[j]? = some v → Value.okWide Try.prog W .any base t v := hval0
  have hW' := hW
  obtain ⟨p, q, hA0, hV, rfl, hfz, hnd⟩ := hW
  have hA : DataW.TrodAll enc Try.prog W 0 (fun _ => true) true Try.f5.params.toList args.toList ds p := hA0
  rw [Try.params5] at hA hval
  obtain ⟨v0, vs0, d0, ds0, p0, q0, hargs, rfl, rfl, h0, r0⟩ := trodAll_cons hA
  obtain ⟨v1, vs1, d1, ds1, p1, q1, rfl, rfl, rfl, h1, r1⟩ := trodAll_cons r0
  obtain ⟨v2, vs2, d2, ds2, p2, q2, rfl, rfl, rfl, h2, r2⟩ := trodAll_cons r1
  obtain ⟨rfl, rfl, rfl⟩ := trodAll_nil r2
  obtain rfl : args = #[v0, v1, v2] := by cases args; simp_all
  obtain ⟨rfl, rfl⟩ := trodVars_none hV
  obtain ⟨a0, rfl, e0, rfl, w0⟩ := open_string Try.underlying9 (hval 0 9 v0 rfl rfl) h0
  obtain ⟨a1, rfl, e1, rfl, w1⟩ := open_string Try.underlying9 (hval 1 9 v1 rfl rfl) h1
  obtain ⟨x, hx, hr⟩ := Hk.arg_pv (L := [9, 31]) (by kernel_rfl) (by decide) (hval 2 31 v2 rfl rfl) h2
  have hlt := hW'.lt
  have hA' := hA0
  refine (walk a0 a1 x v2 hx W hr).mono fun e W' ⟨he, hg⟩ => ?_
  subst he
  have hall : (Try.f5.params.toList.all fun t => Try.prog.readableRec t && decide (t < Try.prog.types.size)) = true := by kernel_rfl
  refine ⟨_, rfl, Hk.post_kept (pv := []) hW' (fun _ _ _ => (trodAll_cons_mk (shut_bool Try.underlying4 _) trodAll_mk0)) (fun sp hsp => Hk.args_stay (by kernel_rfl : laidOutB Try.prog = true) hg
    (fun t ht => by have := List.all_eq_true.1 hall t ht; simpa using this) hA' (fun p hp => hlt p (by simpa using hp)) (fun p hp => hsp p (by simpa using hp))) (fun _ _ => rfl) (by simp)
    hg (ok_one (by kernel_rfl) rfl (okWide_bool_mk Try.underlying4 _))⟩

theorem over : Rows.crcAroundRow.holds Try.pinned (OpenSpec.ofChange Rows.crcAroundSpec) :=
  OpenClaim.holds_of_wide 5 Try.f5 rfl rfl rfl rfl rfl rfl rfl ⟨rfl, rfl, rfl, rfl, rfl⟩ rfl rfl rfl rfl rfl (by kernel_rfl) Try.func5 (by kernel_rfl)
    (of_decide_eq_true (by kernel_rfl)) (by unfold Func.isWrapper; first | (rw [if_pos (by decide +kernel)]; kernel_rfl) | (rw [if_neg (by decide +kernel)]; exact ⟨rfl, rfl⟩))
    (fun os started H enc _ => lifted os started H enc)

/-- ████ THE STATEMENT ████ -/
theorem proved : Rows.CrcAroundSaid :=
  over
end Go.Proofs.Ytmgkffdnnjpmpaa.crcAround
