/- Arguments of plain types as pure values. -/
import Derived.Test.YtmgkffdnnjpmpaaHkRead2
namespace Hk
open Go Go.ChangeShapes Go.WideShapes Go.RowKit
set_option linter.unusedVariables false

inductive ArgShp (P : Program) (t : TypeId) : PV → Prop
  | agg (xs : List PV) (h : aggT P t = some true) (hs : Shp P t xs) : ArgShp P t (.agg xs)
  | one (x : PV) (h : aggT P t = some false) (hs : Shp P t [x]) : ArgShp P t x

theorem arg_pv {H : Type} {enc : TypeId × Value → H} {P : Program} {L : List TypeId} (hc : closedT P L = true) {W : World} {sp : Nat → Bool} {held : Bool} {t : TypeId} (ht : t ∈ L) {base : Nat} {v : Value}
    (hval : Value.okWide P W .any base t v) {d : DataW H} {ps : List MemPlace} (h : DataW.Trod enc P W 0 sp held t v d ps) : ∃ x, ArgShp P t x ∧ RP W noInj.M x v := by
  obtain ⟨fuel, hf⟩ := h
  obtain ⟨xs, hs, hl, ha⟩ := trod_shp hc fuel t _ d ps ht hf
  have hct := List.all_eq_true.1 hc t ht
  have agg : ∀ cs : Array Value, v = .agg cs → aggT P t = some true → ∃ x, ArgShp P t x ∧ RP W noInj.M x v := fun cs hv hg => by
    subst hv
    refine ⟨.agg xs, .agg xs hg hs, .agg (by simpa [Value.cells] using hl.symm) (fun i x hx => (ha i x hx).1) (fun i x hx => ?_)⟩
    have := (ha i x hx).2
    simpa [Value.cells] using this
  have one : (∀ cs : Array Value, v ≠ .agg cs) → aggT P t = some false → ∃ x, ArgShp P t x ∧ RP W noInj.M x v := fun hv hg => by
    have e : v.cells = #[v] := by
      cases v <;> first | rfl | (rename_i cs; exact absurd rfl (hv cs))
    rw [e] at hl ha
    obtain ⟨x, rfl⟩ := List.length_eq_one_iff.1 (by simpa using hl)
    have := (ha 0 x rfl).2
    exact ⟨x, .one x hg hs, by simpa using this⟩
  cases hu : P.underlying t with
  | none => rw [hu] at hct; cases hct
  | some td =>
    unfold Value.okWide at hval
    rw [hu] at hct hval
    cases td with
    | bool => exact one (fun cs e => by subst e; simp [Cell.okWide, Cell.ok, hu] at hval) (by simp [aggT, hu])
    | int k => exact one (fun cs e => by subst e; simp [Cell.okWide, Cell.ok, hu] at hval) (by simp [aggT, hu])
    | string => exact one (fun cs e => by subst e; simp [Cell.okWide, Cell.ok, hu] at hval) (by simp [aggT, hu])
    | slice e0 => exact one (fun cs e => by subst e; simp [Cell.okWide, Cell.ok, hu] at hval) (by simp [aggT, hu])
    | array n e0 =>
      obtain ⟨cs, hv, _⟩ := hval
      exact agg cs hv (by simp [aggT, hu])
    | struct fs =>
      obtain ⟨cs, hv, _⟩ := hval
      exact agg cs hv (by simp [aggT, hu])
    | _ => cases hct

end Hk
