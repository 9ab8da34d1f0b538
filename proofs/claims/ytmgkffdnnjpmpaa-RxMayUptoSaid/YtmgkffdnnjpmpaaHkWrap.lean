/- From a pure function's contract to a law's calls. -/
import Derived.Test.YtmgkffdnnjpmpaaHkDrv
import Derived.ChangeSame
namespace Hk
open Go Go.ChangeShapes Go.WideShapes
set_option linter.unusedVariables false

/-- At most new blocks. -/
def Kept (w w' : World) : Prop := (∀ (c : Nat) (o : Obj), w.heap[c]? = some o → w'.heap[c]? = some o) ∧ w.heap.size ≤ w'.heap.size ∧ w'.os = w.os ∧ w'.output = w.output

def noInj : Inj := ⟨fun _ => none, fun _ => False⟩

theorem noInj_M (c : Nat) : ¬ noInj.M c := by
  rintro (⟨b, o, s, h⟩ | h)
  · cases h
  · exact h

/-- Arguments as pure values. -/
inductive Args (w : World) : List PV → List Value → Prop
  | nil : Args w [] []
  | cons {x : PV} {v : Value} {xs : List PV} {vs : List Value} (h : RP w (fun c => noInj.M c) x v) (hs : Args w xs vs) : Args w (x :: xs) (v :: vs)

theorem Args.get {w : World} {xs : List PV} {vs : List Value} (h : Args w xs vs) : vs.length = xs.length ∧ ∀ (i : Nat) x, xs[i]? = some x → RP w noInj.M x (vs.getD i undef) := by
  induction h with
  | nil => exact ⟨rfl, by simp⟩
  | cons h hs ih =>
    refine ⟨by simp [ih.1], fun i x hx => ?_⟩
    cases i with
    | zero => simp at hx; subst hx; simpa using h
    | succ i => simp at hx; simpa using ih.2 i x hx

theorem PF.true {P : Program} {f : Nat} {args : List PV} (h : PF P f args (.b true)) {w : World} {vs : List Value} (ha : Args w args vs) :
    Calls P f vs.toArray w fun e w' => e = .returned (.bool true) ∧ Kept w w' := by
  obtain ⟨h1, h2⟩ := ha.get
  have hcall := h.2 w noInj vs.toArray (fun c hc => hc.elim) ⟨fun b => (by simp [nth, RB, noInj]), fun b b' c o s o' s' h => (by cases h), fun b c o s h => (by cases h)⟩
    ⟨by simp [h1], fun i x hx => by
      rw [List.getElem?_map] at hx
      obtain ⟨y, hy, rfl⟩ := Option.map_eq_some_iff.1 hx
      exact .p (by simpa using h2 i y hy)⟩
  refine hcall.mono ?_
  rintro e w' ⟨r, v, ι', H', rfl, ⟨rfl, rfl⟩, _, _, hra, _, hk, hs, _, hos, _⟩
  refine ⟨by rw [RA_b hra], fun c o hc => hk c o (fun ⟨b, o, s, hb⟩ => by cases hb) hc, hs, hos.1, hos.2⟩

theorem Kept.frame {w w' : World} (h : Kept w w') (may : MemPlace → Prop) : w.keptBut w' may := by
  refine ⟨h.2.2.1, h.2.2.2, fun i hi => ?_⟩
  have e := h.1 i _ (Array.getElem?_eq_getElem hi)
  rw [Array.getElem?_eq_getElem hi, e]
  cases w.heap[i] with
  | cells c t fr => exact ⟨rfl, rfl, rfl, fun _ _ => rfl⟩
  | map es cl => exact .inr ⟨rfl, rfl⟩
  | _ => rfl

theorem Kept.frozen {w w' : World} (h : Kept w w') (a : Addr) (ha : a.block < w.heap.size) : w'.frozen? a = w.frozen? a := by
  have e := h.1 a.block _ (Array.getElem?_eq_getElem ha)
  simp only [World.frozen?, e, Array.getElem?_eq_getElem ha]

section
variable {H : Type} {enc : TypeId × Value → H} {P : Program}

/-- The post-condition of a call that leaves what was there. -/
theorem post_kept {f : Func} {s : ChangeSpec} {apart fresh handsOn again : Bool} {W W' : World} {args : Array Value} {v : Value} {ds gs : List (DataW H)} {before pa pv : List MemPlace}
    (hW : DataW.Whole enc P f.params.toList s.vars apart W args.toList ds gs before)
    (hres : ∀ (b : Nat) (sp : Nat → Bool) (hd : Bool), DataW.TrodAll enc P W' b sp hd f.resultTypes.toList (v.resultList f.resultTypes.size) (s.fn H (ds ++ gs)).results [])
    (hargs : ∀ sp : Nat → Bool, (∀ p ∈ before, sp p.block = true) → DataW.TrodAll enc P W' 0 sp true f.params.toList args.toList (s.fn H (ds ++ gs)).args pa)
    (hvars : ∀ sp : Nat → Bool, (∀ p ∈ before, sp p.block = true) → DataW.TrodVars enc P W' sp s.vars (s.fn H (ds ++ gs)).vars pv)
    (hps : before = pa ++ pv) (hk : Kept W W')
    (hok : ∀ (j : Nat) (t : TypeId) (r : Value), f.resultTypes[j]? = some t → (v.resultList f.resultTypes.size)[j]? = some r → Value.okWide P W' .any 0 t r) :
    s.post enc P f apart fresh handsOn again W args v W' := by
  have hlt := hW.lt
  have hold : ∀ p ∈ before, (fun b => decide (b < W.heap.size)) p.block = true := fun p hp => by simpa using hlt p hp
  refine ⟨ds, gs, before, [], pa, pv, hW, hres _ _ _, hargs _ hold, hvars _ hold, World.keptBut_mono (fun p hp => ⟨hp, ?_⟩) (hk.frame (· ∈ before)), fun _ => ?_⟩
  · rw [hps, List.mem_append] at hp; exact .inr hp
  · obtain ⟨_, _, _, _, _, hz, hn⟩ := hW
    refine ⟨hok, _, _, ([] ++ pa) ++ pv, ⟨[] ++ pa, pv, trodAll_append (hargs _ (fun _ _ => rfl)) (hres _ _ _), hvars _ (fun _ _ => rfl), rfl, ?_, ?_⟩, ?_⟩
    · intro b off hp
      have hp' : MemPlace.cell b off ∈ before := by rw [hps]; simpa using hp
      rw [hk.frozen _ (hlt _ hp')]
      exact hz b off hp'
    · intro ha
      have h0 := hn ha
      rw [hps] at h0
      simpa using h0
    · intro p hp _
      rw [hps]
      simpa using hp

end

theorem RP.str' {w : World} {M : Nat → Prop} (a : ByteArray) : RP w M (.str a.data.toList) (.string a) := .str a.data.toList
theorem RP.u32' {w : World} {M : Nat → Prop} {n : Int} (h : (Lit.int .u32 n).wf = true) : RP w M (u32 (BitVec.ofInt 32 n)) (.int .u32 n) := by
  have e : ((BitVec.ofInt 32 n).toNat : Int) = n := by
    simp [Lit.wf, IntKind.min, IntKind.max, IntKind.signed, IntKind.bits] at h
    rw [BitVec.toNat_ofInt]
    omega
  unfold u32
  rw [e]
  exact .int .u32 n

end Hk
