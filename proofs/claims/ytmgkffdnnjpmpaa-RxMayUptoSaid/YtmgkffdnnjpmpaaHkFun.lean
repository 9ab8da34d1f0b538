/- Hk: functions. -/
import Derived.Test.YtmgkffdnnjpmpaaHkCtl
namespace Hk
open Go
set_option linter.unusedVariables false

def cres (P : Program) : List ResultVar → Option (List RRes)
  | [] => some []
  | .tmp t :: r => match cres P r with
    | some l => some (.tmp t :: l)
    | none => none
  | .cell t ty :: r => match szT P ty, aggT P ty, cres P r with
    | some s, some g, some l => some (.cell t s g :: l)
    | _, _, _ => none

def cfn (P : Program) (fn : Func) (L : List (List Nat)) : Option RFn :=
  if fn.name = "runtime.NumGoroutine" then none else match fn.body with
  | some c => match ccode P fn.ntmps c L, cres P fn.results.toList with
    | some (rc, []), some rs => some ⟨fn.params.size, fn.ntmps, rs, rc⟩
    | _, _ => none
  | none => none

def cfnAt (P : Program) (f : Nat) (L : List (List Nat)) : Option RFn :=
  match P.funcs[f]? with
  | some fn => cfn P fn L
  | none => none

section
variable {cx : Cx} {ι : Inj} {st : St} {a : Act} {w : World}

theorem vload_ptr {h : List Blk} {av : AV} {v : Value} {sz : Nat} {ag : Bool} {k : AV → Prop} (hv : RA w ι av v) (hl : vload h av sz ag k) : ∃ ad, v = .pointer (some ad) := by
  unfold vload at hl
  split at hl
  · cases hv; exact ⟨_, rfl⟩
  · cases hv; rename_i hv; cases hv; exact ⟨_, rfl⟩
  · exact hl.elim

def resStep (tmps : Array Value) : ResultVar → Sem Value
  | .tmp t => pure (tmps.getD t undef)
  | .cell a t => do loadVar t (← asAddr (tmps.getD a undef))

theorem vres_sound (hr : Rel cx ι st a w) : ∀ (l : List ResultVar) (rs : List RRes), cres cx.P l = some rs → ∀ {k : List AV → Prop}, vres st rs k →
    ∃ xs vs, k xs ∧ xs.length = vs.length ∧ (∀ (i : Nat) x, xs[i]? = some x → RA w ι x (vs.getD i undef)) ∧ (l.mapM (resStep a.tmps)).run cx.P w = .ok vs w
  | [], rs, hc, k, h => by
    cases hc
    exact ⟨[], [], h, rfl, by simp, by simp⟩
  | .tmp t :: r, rs, hc, k, h => by
    simp only [cres] at hc
    split at hc
    · rename_i l hl
      cases hc
      simp only [vres, vres1] at h
      have h := force_of (k := fun x => vres st l fun xs => k (x :: xs)) h
      obtain ⟨xs, vs, h1, h2, h3, h4⟩ := vres_sound hr r l hl h
      refine ⟨_, a.tmps.getD t undef :: vs, h1, by simp [h2], fun i x hi => ?_, ?_⟩
      · cases i with
        | zero => simp at hi; subst hi; simpa using hr.tm t
        | succ i => simp at hi; simpa using h3 i x hi
      · simp [List.mapM_cons, resStep, h4]
    · cases hc
  | .cell t ty :: r, rs, hc, k, h => by
    simp only [cres] at hc
    split at hc
    · rename_i s g l hs hg hl
      cases hc
      simp only [vres, vres1] at h
      obtain ⟨ad, had⟩ := vload_ptr (hr.tm t) h
      obtain ⟨av, v, hk, hra, hrun⟩ := vload_sound hr.mem.hr (hr.tm t) h hs hg
      obtain ⟨xs, vs, h1, h2, h3, h4⟩ := vres_sound hr r l hl hk
      have hrun := hrun w (Ext.refl w)
      rw [had] at hrun
      have hstep : (resStep a.tmps (.cell t ty)).run cx.P w = .ok v w := by
        simp only [resStep, had, asAddr]
        simpa [Instr.loadAt, Instr.sureAddr] using hrun
      refine ⟨_, v :: vs, h1, by simp [h2], fun i x hi => ?_, ?_⟩
      · cases i with
        | zero => simp at hi; subst hi; simpa using hra
        | succ i => simp at hi; simpa using h3 i x hi
      · simp only [List.mapM_cons, Sem.run_bind, hstep, Result.andThen_ok, h4]; rfl
    · cases hc

theorem results_run {fn : Func} {P : Program} {tmps : Array Value} {vs : List Value} (h : (fn.results.toList.mapM (resStep tmps)).run P w = .ok vs w) :
    (results fn tmps).run P w = .ok (if h : vs.length = 1 then vs[0] else .tuple vs.toArray) w := by
  have e : results fn tmps = (do let vs ← fn.results.mapM (resStep tmps); pure (if h : vs.size = 1 then vs[0] else .tuple vs)) := by
    unfold results
    congr 1
  rw [e, Array.mapM_eq_mapM_toList]
  simp only [Sem.run_bind]
  have : (List.toArray <$> fn.results.toList.mapM (resStep tmps)).run P w = .ok vs.toArray w := by
    rw [← bind_pure_comp]
    simp only [Sem.run_bind, h, Result.andThen_ok, Sem.run_pure]
  rw [this]
  simp only [Result.andThen_ok]
  by_cases h1 : vs.length = 1
  · simp [h1]
  · simp [h1]

theorem RA.resV {xs : List AV} {vs : List Value} (hl : xs.length = vs.length) (h : ∀ (i : Nat) x, xs[i]? = some x → RA w ι x (vs.getD i undef)) :
    RA w ι (Hk.resV xs) (if h : vs.length = 1 then vs[0] else .tuple vs.toArray) := by
  unfold Hk.resV
  split
  · rename_i x
    have h1 : vs.length = 1 := by simpa using hl.symm
    rw [dif_pos h1]
    have := h 0 x rfl
    simpa [h1] using this
  · rename_i hne
    have h1 : ¬ vs.length = 1 := by
      intro h1
      rw [← hl] at h1
      obtain ⟨x, hx⟩ := List.length_eq_one_iff.1 h1
      exact hne x hx
    rw [dif_neg h1]
    refine .tup (by simp [hl]) fun i x hi => ?_
    have := h i x hi
    simpa using this

end

theorem lk_params (args : List AV) (n s : Nat) : lk (params n args) s = if n ≤ s then (args[s - n]?).getD .undef else .undef := by
  induction args generalizing n with
  | nil => simp [params, lk]
  | cons x r ih =>
    simp only [params, lk]
    by_cases e : n = s
    · subst e; simp
    · rw [beqF e]
      simp only [cond_false, ih]
      by_cases h : n + 1 ≤ s
      · rw [if_pos h, if_pos (by omega)]
        have : s - n = (s - (n + 1)) + 1 := by omega
        rw [this]; simp
      · rw [if_neg h, if_neg (by omega)]

def fxOf (n : Nat) (mv : List Nat) (b : Nat) : Bool := Nat.blt b n && !memN mv b

/-- A function's contract, from its resolved code. -/
theorem fn_intro {P : Program} {f : Nat} {L : List (List Nat)} {rf : RFn} (hcomp : cfnAt P f L = some rf) (hm : P.follows .mixedOrders = true) {F : FC}
    (hF : ∀ f args H mv Post, F f args H mv Post → Fn P f args H mv Post) {args : List AV} {H : List Blk} {mv : List Nat} {Post : AV → List Blk → Prop}
    (hn : Nat.ble args.length rf.nt = true) (h : awp ⟨F, fxOf H.length mv, H.length⟩ rf.body (retK ⟨F, fxOf H.length mv, H.length⟩ rf.res Post) ⟨params 0 args, H⟩) : Fn P f args H mv Post := by
  unfold cfnAt at hcomp
  split at hcomp
  case h_2 => cases hcomp
  rename_i fn hfn
  unfold cfn at hcomp
  split at hcomp
  · cases hcomp
  · rename_i hname
    split at hcomp
    · rename_i c hbody
      split at hcomp
      · rename_i rc rs hcc hres
        cases hcomp
        refine ⟨⟨fn, hfn, hname, by rw [hbody]; rfl⟩, fun w ι vs hX hr hargs => ?_⟩
        simp only at h hn
        have hn := Nat.le_of_ble_eq_true hn
        have hsz : (vs ++ Array.replicate (fn.ntmps - vs.size) undef).size = fn.ntmps := by
          simp [hargs.1]; omega
        let cx : Cx := ⟨P, w, ι.I, fn.ntmps, ⟨F, fxOf H.length mv, H.length⟩, ι, fun b hb => by
          simp only [fxOf, Bool.and_eq_true, Nat.blt_eq] at hb; exact hb.1⟩
        have hrel : Rel cx ι ⟨params 0 args, H⟩ ⟨vs ++ Array.replicate (fn.ntmps - vs.size) undef, []⟩ w := by
          refine ⟨⟨hr, hX, rfl, fun c hc => .inl hc, fun _ _ _ => rfl, Nat.le_refl _, ⟨rfl, rfl⟩, fun _ _ => rfl, Nat.le_refl _⟩, fun s => ?_, hsz, rfl⟩
          simp only [lk_params, Nat.zero_le, if_true, Nat.sub_zero]
          cases hs : args[s]? with
          | none => exact .und _
          | some x =>
            have := hargs.2 s x hs
            have hlt : s < vs.size := by rw [hargs.1]; exact (List.getElem?_eq_some_iff.1 hs).1
            simpa [Array.getElem?_append, hlt] using this
        refine calls_of_wp hfn hbody (Go.wp_mono (awp_sound (cx := cx) hF hm c L rc [] hcc _ hrel h) ?_)
        have fin : ∀ (a' : Act) (w' : World), Kc cx (fun st => vres st rs fun xs => ∃ r H', Post r H' ∧ (Nat.ble cx.E.k H'.length = true ∧ fixOk cx.E.fx H' cx.E.k = true) ∧
            KLe st.heap (fun b => !liveB H' b) (fun b => liveB H' b) (resV xs) r ∧ HLe st.heap (fun b => !liveB H' b) (fun b => liveB H' b) st.heap H') a' w' →
            a'.defers = [] ∧ ∃ v, (results fn a'.tmps).run P w' = .ok v w' ∧ (∃ r v' ι' H', Ending.returned v = .returned v' ∧ Post r H' ∧ H.length ≤ H'.length ∧ HRel ι' H' w' ∧ RA w' ι' r v' ∧ ι'.X = ι.X ∧
              (∀ c (o : Obj), ¬ ι.I c → w.heap[c]? = some o → w'.heap[c]? = some o) ∧ w.heap.size ≤ w'.heap.size ∧ (∀ c, ι'.I c → ι.I c ∨ w.heap.size ≤ c) ∧
              (w'.os = w.os ∧ w'.output = w.output) ∧ ∀ b, b < H.length → memN mv b = false → ι' b = ι b) := by
          rintro a' w' ⟨ι1, st1, hr1, h1⟩
          obtain ⟨xs, us, ⟨r, H', hP, ⟨hk, hf⟩, hkle, hhle⟩, h2, h3, h4⟩ := vres_sound hr1 _ _ hres h1
          have hm' : Mem cx (ι1.cut H') H' w' := hr1.mem.cut hhle (by simpa using hk) hf
          refine ⟨hr1.df, _, results_run h4, r, _, ι1.cut H', H', rfl, hP, by simpa [cx] using hk, hm'.hr, ?_, hm'.xe, ?_, hm'.gr, hm'.ow, hm'.os, ?_⟩
          · exact KLe.sound hr1.mem.hr (cut_hfz hr1.mem.hr) cut_hkp (fun c => Inj.cut_M) (RA.resV h2 h3) hkle
          · intro c o hc ho
            rw [hm'.fr c hc (Array.getElem?_eq_some_iff.1 ho).1]; exact ho
          · intro b hb hmv
            refine hm'.fx b ?_
            show fxOf H.length mv b = true
            simp [fxOf, hb, hmv]
        intro e a' w' hq
        cases e with
        | normal => exact fin a' w' hq
        | exit id => obtain ⟨ι', st', _, h'⟩ := hq; exact h'.elim
        | ret => exact fin a' w' hq
        | goto l => exact hq.elim
        | panic c => exact hq.elim
        | outgrown => exact hq.elim
      · cases hcomp
    · cases hcomp

end Hk
