/- Hk, part 4: the operations that only reckon or read do what their conditions say. -/
import Derived.Test.YtmgkffdnnjpmpaaHkComp
import Derived.Laws.World
import Derived.Laws.Strings
namespace Hk
open Go
set_option linter.unusedVariables false
set_option linter.unusedSimpArgs false

theorem force_of {v : AV} {k : AV → Prop} (h : force v k) : k v := by
  cases v with
  | p x => cases x <;> exact h
  | _ => exact h
theorem forceP_of {v : PV} {k : PV → Prop} (h : forceP v k) : k v := by cases v <;> exact h

theorem sameK_of {a b : IntKind} {A : Prop} (h : sameK a b A) : a = b ∧ A := by
  cases a <;> cases b <;> first | exact ⟨rfl, h⟩ | exact h.elim

theorem add_none (c x n : Nat) : (⟨c, x, none⟩ : Addr).add n = ⟨c, x + n, none⟩ := by
  unfold Addr.add
  by_cases h : n = 0 <;> simp [h]

theorem add_spot {a : Addr} (h : a.spot = none) (n : Nat) : a.add n = ⟨a.block, a.off + n, none⟩ := by
  obtain ⟨b, o, s⟩ := a
  simp at h; subst h
  exact add_none b o n

theorem pv1_sound {w : World} {M : Nat → Prop} {v : Value} {x : PV} (h : pv1 v = some x) : RP w M x v ∧ x.one = true := by
  unfold pv1 at h
  split at h <;> first
    | (cases h; exact ⟨.int _ _, rfl⟩)
    | (cases h; exact ⟨.b _, rfl⟩)
    | (cases h; exact ⟨.str _, rfl⟩)
    | (cases h; exact ⟨.lit _ rfl, rfl⟩)
    | (cases h; exact ⟨.nil (by simp), rfl⟩)
    | cases h

theorem pvL_sound {w : World} {M : Nat → Prop} {l : List Value} {xs : List PV} (h : pvL l = some xs) :
    xs.length = l.length ∧ ∀ (i : Nat) x, xs[i]? = some x → x.one = true ∧ ∃ v, l[i]? = some v ∧ RP w M x v := by
  induction l generalizing xs with
  | nil => simp [pvL] at h; subst h; simp
  | cons v r ih =>
    unfold pvL at h
    split at h
    · rename_i x l h1 h2
      cases h
      obtain ⟨hl, hi⟩ := ih h2
      refine ⟨by simp [hl], fun i y hy => ?_⟩
      cases i with
      | zero => simp at hy; subst hy; exact ⟨(pv1_sound (w := w) (M := M) h1).2, v, by simp, (pv1_sound h1).1⟩
      | succ i => simp at hy; simpa using hi i y hy
    · cases h

theorem pvOf_sound {w : World} {M : Nat → Prop} {v : Value} {x : PV} (h : pvOf v = some x) : RP w M x v := by
  unfold pvOf at h
  split at h
  · rename_i cs
    obtain ⟨xs, h1, rfl⟩ := Option.map_eq_some_iff.1 h
    obtain ⟨hl, hi⟩ := pvL_sound (w := w) (M := M) h1
    refine .agg (by rw [hl]; simp) (fun i x hx => (hi i x hx).1) (fun i x hx => ?_)
    obtain ⟨_, v, hv, hr⟩ := hi i x hx
    have : cs.getD i undef = v := by
      simp only [Array.getD_eq_getD_getElem?]
      rw [← Array.getElem?_toList, hv]; rfl
    rw [this]; exact hr
  · exact (pv1_sound h).1

theorem RA_int {w : World} {ι : Inj} {k : IntKind} {n : Int} {v : Value} (h : RA w ι (.p (.int k n)) v) : v = .int k n := by
  obtain ⟨⟨⟩⟩ | _ := h; rfl
theorem RA_b {w : World} {ι : Inj} {x : Bool} {v : Value} (h : RA w ι (.p (.b x)) v) : v = .bool x := by
  obtain ⟨⟨⟩⟩ | _ := h; rfl
theorem RA_str {w : World} {ι : Inj} {l : List UInt8} {v : Value} (h : RA w ι (.p (.str l)) v) : v = .string ⟨⟨l⟩⟩ := by
  obtain ⟨⟨⟩⟩ | _ := h; rfl
theorem RA_lit {w : World} {ι : Inj} {u v : Value} (h : RA w ι (.p (.lit u)) v) : v = u := by
  obtain ⟨⟨⟩⟩ | _ := h; rfl

section
variable {cx : Cx} {ι : Inj} {st : St} {a : Act} {w : World}

theorem ev_sound (tm : ∀ s, RA w ι (lk st.tmps s) (a.tmps.getD s undef)) {o : Operand} {o' : Opd} (h : cOpd o = some o') : RA w ι (ev st o') (a.eval o) := by
  unfold cOpd at h
  split at h
  · cases h; exact tm _
  · obtain ⟨x, h1, rfl⟩ := Option.map_eq_some_iff.1 h
    exact .p (pvOf_sound h1)
  · cases h; exact .p (.fn (by simp) (by simp) (by simp) (by simp))
  · cases h

theorem evL_sound (tm : ∀ s, RA w ι (lk st.tmps s) (a.tmps.getD s undef)) {l : List Operand} {l' : List Opd} (h : cOpds l = some l') :
    (evL st l').length = l.length ∧ ∀ (i : Nat) x, (evL st l')[i]? = some x → RA w ι x ((l.map a.eval).toArray.getD i undef) := by
  induction l generalizing l' with
  | nil => simp [cOpds] at h; subst h; simp [evL]
  | cons o r ih =>
    unfold cOpds at h
    split at h
    · rename_i y l h1 h2
      cases h
      obtain ⟨hl, hi⟩ := ih h2
      refine ⟨by simp [evL, hl], fun i x hx => ?_⟩
      cases i with
      | zero => simp [evL] at hx; subst hx; simpa using ev_sound tm h1
      | succ i => simp [evL] at hx; simpa using hi i x hx
    · cases h

/-- A reckoning that yields one of k's values in every later world. -/
def Vals (P : Program) (w : World) (ι : Inj) (k : AV → Prop) (s : Sem Value) : Prop :=
  ∃ av v, k av ∧ RA w ι av v ∧ ∀ w', Ext w w' → s.run P w' = .ok v w'

theorem Vals.mk {P : Program} {k : AV → Prop} {s : Sem Value} {av : AV} {v : Value} (hk : k av) (hr : RA w ι av v)
    (h : ∀ w', Ext w w' → s.run P w' = .ok v w') : Vals P w ι k s := ⟨av, v, hk, hr, h⟩

theorem run_underlying {P : Program} {t : TypeId} {d : TypeDesc} (h : P.underlying t = some d) (w : World) : (underlying t).run P w = .ok d w := by
  simp [underlying, h]

theorem run_typeInfo {P : Program} {t : TypeId} {i : TypeInfo} (h : P.info? t = some i) (w : World) : (typeInfo t).run P w = .ok i w := by
  simp [typeInfo, h]

theorem run_sizeOf {P : Program} {t : TypeId} {s : Nat} (h : szT P t = some s) (w : World) : (Go.sizeOf t).run P w = .ok s w := by
  unfold szT at h
  obtain ⟨i, h1, rfl⟩ := Option.map_eq_some_iff.1 h
  simp [Go.sizeOf, run_typeInfo h1]

theorem run_isAgg {P : Program} {t : TypeId} {g : Bool} (h : aggT P t = some g) (w : World) : (isAgg t).run P w = .ok g w := by
  unfold aggT at h
  unfold isAgg
  split at h
  · cases h; rename_i h1; simp [run_underlying h1]
  · cases h; rename_i h1; simp [run_underlying h1]
  · cases h; rename_i d h1 h2 h3
    simp only [Sem.run_bind, run_underlying h3, Result.andThen_ok]
    cases d <;> first | rfl | exact absurd h3 (by simp_all)
  · cases h

/-! #### Numbers -/

theorem vbin_sound {P : Program} {op : BinOp} {t : TypeId} {xo yo : Operand} {x y : AV} {v u : Value} {k : AV → Prop} (hx : RA w ι x v) (hy : RA w ι y u) (h : vbin op x y k) :
    Vals P w ι k (do eqGuard op t xo yo v u; binOp op t v u) := by
  unfold vbin at h
  split at h
  · -- ints
    rw [RA_int hx, RA_int hy]
    cases op
    case add => obtain ⟨e, h1⟩ := sameK_of h; subst e; exact .mk h1 (.p (.int _ _)) fun w' _ => by simp [eqGuard, Go.binOp, Op.intArith, intAr]
    case sub => obtain ⟨e, h1⟩ := sameK_of h; subst e; exact .mk h1 (.p (.int _ _)) fun w' _ => by simp [eqGuard, Go.binOp, Op.intArith, intAr]
    case mul => obtain ⟨e, h1⟩ := sameK_of h; subst e; exact .mk h1 (.p (.int _ _)) fun w' _ => by simp [eqGuard, Go.binOp, Op.intArith, intAr]
    case and => obtain ⟨e, h1⟩ := sameK_of h; subst e; exact .mk h1 (.p (.int _ _)) fun w' _ => by simp [eqGuard, Go.binOp, Op.intBits, intAr]
    case or => obtain ⟨e, h1⟩ := sameK_of h; subst e; exact .mk h1 (.p (.int _ _)) fun w' _ => by simp [eqGuard, Go.binOp, Op.intBits, intAr]
    case xor => obtain ⟨e, h1⟩ := sameK_of h; subst e; exact .mk h1 (.p (.int _ _)) fun w' _ => by simp [eqGuard, Go.binOp, Op.intBits, intAr]
    case andNot => obtain ⟨e, h1⟩ := sameK_of h; subst e; exact .mk h1 (.p (.int _ _)) fun w' _ => by simp [eqGuard, Go.binOp, Op.intBits, intAr]
    case quo => obtain ⟨e, h0, h1⟩ := sameK_of h; subst e; exact .mk h1 (.p (.int _ _)) fun w' _ => by simp [eqGuard, Go.binOp, Op.intDiv, intAr, h0]
    case rem => obtain ⟨e, h0, h1⟩ := sameK_of h; subst e; exact .mk h1 (.p (.int _ _)) fun w' _ => by simp [eqGuard, Go.binOp, Op.intDiv, intAr, h0]
    case shl => obtain ⟨h0, h1⟩ := h; exact .mk h1 (.p (.int _ _)) fun w' _ => by simp [eqGuard, Go.binOp, Op.shift, intAr, Int.not_lt.2 h0]
    case shr => obtain ⟨h0, h1⟩ := h; exact .mk h1 (.p (.int _ _)) fun w' _ => by simp [eqGuard, Go.binOp, Op.shift, intAr, Int.not_lt.2 h0]
    case eql => obtain ⟨e, h1⟩ := sameK_of h; subst e; exact .mk h1 (.p (.b _)) fun w' _ => by simp [eqGuard, Go.binOp, Op.intCmp, intCm]
    case neq => obtain ⟨e, h1⟩ := sameK_of h; subst e; exact .mk h1 (.p (.b _)) fun w' _ => by simp [eqGuard, Go.binOp, Op.intCmp, intCm]
    case lss => obtain ⟨e, h1⟩ := sameK_of h; subst e; exact .mk h1 (.p (.b _)) fun w' _ => by simp [eqGuard, Go.binOp, Op.intCmp, intCm]
    case leq => obtain ⟨e, h1⟩ := sameK_of h; subst e; exact .mk h1 (.p (.b _)) fun w' _ => by simp [eqGuard, Go.binOp, Op.intCmp, intCm]
    case gtr => obtain ⟨e, h1⟩ := sameK_of h; subst e; exact .mk h1 (.p (.b _)) fun w' _ => by simp [eqGuard, Go.binOp, Op.intCmp, intCm]
    case geq => obtain ⟨e, h1⟩ := sameK_of h; subst e; exact .mk h1 (.p (.b _)) fun w' _ => by simp [eqGuard, Go.binOp, Op.intCmp, intCm]
  · -- strings
    rw [RA_str hx, RA_str hy]
    rename_i la lb
    have e3 : ∀ l : List UInt8, (⟨⟨l⟩⟩ : ByteArray).toList = l := fun l => ByteArray.toList_mk l
    cases op <;> simp only at h
    case add =>
      obtain ⟨h0, h⟩ := h
      refine .mk h (.p (.str _)) fun w' _ => ?_
      have hs : ¬ ((((⟨⟨la⟩⟩ : ByteArray).size + (⟨⟨lb⟩⟩ : ByteArray).size : Nat) : Int) > IntKind.i64.max) := by
        show ¬ ((((la.length + lb.length : Nat)) : Int) > 9223372036854775807)
        omega
      have hc : (⟨⟨la⟩⟩ : ByteArray) ++ ⟨⟨lb⟩⟩ = ⟨⟨la ++ lb⟩⟩ := by apply ByteArray.ext; simp
      simp only [eqGuard, Go.binOp, Op.stringOp, if_neg hs, hc]
      rfl
    case eql => exact .mk h (.p (.b _)) fun w' _ => by simp [eqGuard, Go.binOp, Op.stringOp, strCm, e3]
    case neq => exact .mk h (.p (.b _)) fun w' _ => by simp [eqGuard, Go.binOp, Op.stringOp, strCm, e3]
    case lss => exact .mk h (.p (.b _)) fun w' _ => by simp [eqGuard, Go.binOp, Op.stringOp, strCm, e3]
    case leq => exact .mk h (.p (.b _)) fun w' _ => by simp [eqGuard, Go.binOp, Op.stringOp, strCm, e3]
    case gtr => exact .mk h (.p (.b _)) fun w' _ => by simp [eqGuard, Go.binOp, Op.stringOp, strCm, e3]
    case geq => exact .mk h (.p (.b _)) fun w' _ => by simp [eqGuard, Go.binOp, Op.stringOp, strCm, e3]
    all_goals exact h.elim
  · exact h.elim

end
end Hk
