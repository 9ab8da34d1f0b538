/- Hk: any operation. -/
import Derived.Test.YtmgkffdnnjpmpaaHkCopy
import Derived.Test.YtmgkffdnnjpmpaaHkApp
import Derived.Test.YtmgkffdnnjpmpaaHkCall2
namespace Hk
open Go
set_option linter.unusedVariables false
set_option linter.unusedSimpArgs false

section
variable {cx : Cx} {ι : Inj} {st : St} {a : Act} {w : World}

/-- What is known of functions, holds. -/
def Knows (cx : Cx) : Prop := ∀ f args H mv Post, cx.E.F f args H mv Post → Fn cx.P f args H mv Post

theorem vro_vals {ro : RO} (h : valsOnly ro = true) {E : En} {q : Bool} {d : Option Nat} {k : St → Prop} (hv : vro E q ro d st k) : vval ro st fun v => k (st.put d v) := by
  cases ro <;> first | exact hv | (simp [valsOnly] at h)

theorem vals_sound (hr : Rel cx ι st a w) {o : Oper} {ro : RO} (hc : cop cx.P o = some ro) (hd : ∀ t, o.dst = some t → t < cx.n) {q : Bool} {k : St → Prop}
    (h : vval ro st fun v => k (st.put o.dst v)) {Q : Exit → Act → World → Prop} : o.wp cx.P a w (After cx q w k) Q := by
  obtain ⟨av, v, hk, hra, hrun⟩ := vval_sound hr.tm hr.mem.hr hc h
  exact wp_value (hrun w (Ext.refl w)) ⟨⟨ι, _, hr.put hd hra, hk⟩, fun _ => Ext.refl w⟩

theorem RAL.of_evL (tm : ∀ s, RA w ι (lk st.tmps s) (a.tmps.getD s undef)) {l : Array Operand} {l' : List Opd} (h : cOpds l.toList = some l') : RAL w ι (evL st l') (l.map a.eval) := by
  obtain ⟨h1, h2⟩ := evL_sound tm h
  have e1 : (l.toList.map a.eval).toArray = l.map a.eval := by apply Array.ext'; simp
  rw [e1] at h2
  exact ⟨by simp [h1], h2⟩

theorem RAL.append {x y : List AV} {vs us : Array Value} (h1 : RAL w ι x vs) (h2 : RAL w ι y us) : RAL w ι (x ++ y) (vs ++ us) := by
  refine ⟨by simp [h1.1, h2.1], fun i z hz => ?_⟩
  rw [List.getElem?_append] at hz
  by_cases hi : i < x.length
  · rw [if_pos hi] at hz
    have := h1.2 i z hz
    have hlt : i < vs.size := by rw [h1.1]; exact hi
    simpa [Array.getElem?_append, hlt] using this
  · rw [if_neg hi] at hz
    have := h2.2 _ z hz
    have hlt : ¬ i < vs.size := by rw [h1.1]; exact hi
    rw [← h1.1] at this
    simpa [Array.getElem?_append, hlt] using this

theorem RAL.ofP {x : List PV} {vs : Array Value} (h1 : vs.size = x.length) (h2 : ∀ (i : Nat) y, x[i]? = some y → RP w ι.M y (vs.getD i undef)) : RAL w ι (x.map .p) vs := by
  refine ⟨by simp [h1], fun i z hz => ?_⟩
  rw [List.getElem?_map] at hz
  obtain ⟨y, hy, rfl⟩ := Option.map_eq_some_iff.1 hz
  exact .p (h2 i y hy)

theorem Kc.after {k : St → Prop} {a' : Act} {w' : World} (h : Kc cx k a' w') : After cx false w k a' w' := ⟨h, fun h => by cases h⟩

theorem vro_sound (hF : Knows cx) (hr : Rel cx ι st a w) {o : Oper} {ro : RO} (hc : cop cx.P o = some ro) (hd : ∀ t, o.dst = some t → t < cx.n) {q : Bool} {k : St → Prop}
    (h : vro cx.E q ro o.dst st k) {Q : Exit → Act → World → Prop} : o.wp cx.P a w (After cx q w k) Q := by
  cases hv : valsOnly ro with
  | true => exact vals_sound hr hc hd (vro_vals hv h)
  | false =>
    have hc0 := hc
    unfold cop at hc
    split at hc
    case h_6 e ho =>
      obtain ⟨z, hz, rfl⟩ := Option.map_eq_some_iff.1 hc
      exact alloc_sound hr ho hz hd h
    case h_7 e x ho =>
      split at hc
      · rename_i x' s hx hs
        cases hc; exact box_sound hr ho hx hd h
      · cases hc
    case h_9 t len parts ho =>
      split at hc
      · rename_i e hu
        split at hc
        · rename_i s l hs hp
          split at hc
          · rename_i hcond
            cases hc
            exact bslice_sound hr ho hu hs hp hcond.1 hcond.2.1 hcond.2.2.1 hcond.2.2.2 hd h
          · cases hc
        · cases hc
      · cases hc
    case h_11 t x v ho =>
      split at hc
      · rename_i x' v' s hx hvv hs
        cases hc
        cases q with
        | true => exact h.elim
        | false => exact Oper.wp_mono (fun _ _ => Kc.after) (storeAt_sound hr ho hx hvv hs hd h)
      · cases hc
    case h_18 s d x ho =>
      split at hc
      · cases hc; cases hv
      · cases hc; cases hv
      · split at hc
        · cases hc; cases hv
        · cases hc
      · rename_i e x' hs ht hx
        split at hc
        · rename_i he
          cases hc; exact bytesOf_sound hr ho hs ht he hx hd h
        · cases hc
      · cases hc
    case h_21 t l c ho =>
      split at hc
      · rename_i e l' c' hu hl hcc
        split at hc
        · rename_i z s b hz hs hb
          split at hc
          · rename_i hcond
            cases hc
            exact mksl_sound hr ho hu hl hcc hz hs hb hcond.1 hcond.2.1 hd h
          · cases hc
        · cases hc
      · cases hc
    case h_23 c ho =>
      split at hc
      · rename_i f hcal
        obtain ⟨l, hl, rfl⟩ := Option.map_eq_some_iff.1 hc
        have hcal' : c.callee = .value (.func f) := hcal
        refine vcall_sound hF hr (vs := c.args.map a.eval) ?_ (RAL.of_evL hr.tm hl) hd h
        simp [execOp, ho, resolve, hcal', Deferred.ofValue, invoke, Act.eval]
      · rename_i x hx0 hcal
        split at hc
        · rename_i x' l hx hl
          cases hc
          have hxv := ev_sound hr.tm hx
          have hal := RAL.of_evL hr.tm hl
          have h : vcallv cx.E q (ev st x') (evL st l) o.dst st k := h
          have hcal' : c.callee = .value x := hcal
          generalize ev st x' = af at h hxv
          unfold vcallv at h
          split at h
          · rename_i f fi ca
            have hp := RA_p hxv
            generalize hfv : a.eval x = fv at hp
            cases hp
            rename_i fa cav h1 h2 h3 h4
            refine vcall_sound hF hr (vs := fa ++ c.args.map a.eval ++ cav) ?_ (((RAL.ofP h1 h2).append hal).append (RAL.ofP h3 h4)) hd h
            simp [execOp, ho, resolve, hcal', hfv, Deferred.ofValue, invoke]
          · rename_i f fi ca
            generalize hfv : a.eval x = fv at hxv
            cases hxv
            rename_i fa cav h1 h2 h3 h4
            refine vcall_sound hF hr (vs := fa ++ c.args.map a.eval ++ cav) ?_ ((RAL.append ⟨h1, h2⟩ hal).append ⟨h3, h4⟩) hd h
            simp [execOp, ho, resolve, hcal', hfv, Deferred.ofValue, invoke]
          · exact h.elim
        · cases hc
      · split at hc
        · split at hc
          · cases hc; cases hv
          · cases hc; cases hv
          · cases hc
        · cases hc
      · rename_i hcal
        split at hc
        · rename_i s x sT xT hargs htys
          have hargs' : c.args = #[s, x] := by apply Array.ext'; simpa using hargs
          have htys' : c.argTypes = #[sT, xT] := by apply Array.ext'; simpa using htys
          split at hc
          · rename_i e e' s' x' hu hu' hs hx
            split at hc
            · rename_i z n b hz hn hb
              split at hc
              · rename_i hcond
                cases hc
                cases q with
                | true => exact h.elim
                | false => exact Oper.wp_mono (fun _ _ => Kc.after) (app_sound hr ho hcal hargs' htys' hu (.inl ⟨_, hu'⟩) hn hb hz hcond.1 hcond.2.2 hcond.2.1 hs hx hd h)
              · cases hc
            · cases hc
          · rename_i e s' x' hu hu' hs hx
            split at hc
            · rename_i z n b hz hn hb
              split at hc
              · rename_i hcond
                cases hc
                cases q with
                | true => exact h.elim
                | false => exact Oper.wp_mono (fun _ _ => Kc.after) (app_sound hr ho hcal hargs' htys' hu (.inr hu') hn hb hz hcond.1 hcond.2.2 hcond.2.1 hs hx hd h)
              · cases hc
            · cases hc
          · cases hc
        · cases hc
      · rename_i hcal
        split at hc
        · rename_i s x sT xT hargs htys
          have hargs' : c.args = #[s, x] := by apply Array.ext'; simpa using hargs
          have htys' : c.argTypes = #[sT, xT] := by apply Array.ext'; simpa using htys
          split at hc
          · rename_i e s' x' hu hs hx
            obtain ⟨n, hn, rfl⟩ := Option.map_eq_some_iff.1 hc
            cases q with
            | true => exact h.elim
            | false => exact Oper.wp_mono (fun _ _ => Kc.after) (copy_sound hr ho hcal hargs' htys' hu hn hs hx hd h)
          · cases hc
        · cases hc
      · split at hc
        · split at hc
          · cases hc; cases hv
          · cases hc
        · cases hc
      · split at hc
        · split at hc
          · cases hc; cases hv
          · cases hc
        · cases hc
      · cases hc
    all_goals first
      | (obtain ⟨x', hx, rfl⟩ := Option.map_eq_some_iff.1 hc; cases hv)
      | skip
    all_goals exfalso
    all_goals revert hc
    all_goals repeat' split
    all_goals intro hc
    all_goals first
      | (cases hc; done)
      | (cases hc; cases hv; done)
      | (unfold cBin at hc; revert hc; repeat' split
         all_goals intro hc
         all_goals first | (cases hc; done) | (cases hc; cases hv; done))
      | (obtain ⟨x', hx, hc⟩ := Option.map_eq_some_iff.1 hc; subst hc; cases hv; done)
      | (obtain ⟨x', hx, hc⟩ := Option.bind_eq_some_iff.1 hc; first | (cases hc; done) | (cases hc; cases hv; done))
      | skip

end
end Hk
