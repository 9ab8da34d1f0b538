/- Texts of this claim, put together: Fun, Drv, Go, Sh, Laid, Srt, RfSl, RfRx, RxTr, RxA, RxB, RxC, RxD, RxE, RxF, RxG, RfCl, Oct, Cl, Sl. -/
import Derived.Test.YteicokbnoonipaaGreatDoorM2
import Derived.Test.YteicokbnoonipaaGreatDoorProg
import Derived.Shelf.Sort.Plain
import Derived.Shelf.Slices.In.SortNone
import Derived.Ground.NamesProg
import Derived.Sort.Grow
import Derived.KernelRfl
import Derived.Lib.TrailingZeros
namespace Hk
open Go
set_option linter.unusedVariables false
set_option linter.unusedSimpArgs false
def cres (P : Program) : List ResultVar → Option (List RRes)
 | [] => some []
 | .tmp t :: r => match cres P r with
   | some l => some (.tmp t :: l)
   | none => none
 | .cell t ty :: r => match szT P ty, aggT P ty, cres P r with
   | some s, some g, some l => some (.cell t s g :: l)
   | _, _, _ => none
def cfn (P : Program) (fn : Func) (L : List (List Nat)) : Option RFn :=
 if fn.name = "runtime.NumGoroutine" then none else match fn.body with
 | some c => match ccode P true (fun t => Nat.blt t fn.ntmps) c L, cres P fn.results.toList with
   | some (rc, []), some rs => some ⟨fn.params.size, fn.ntmps, rs, rc⟩
   | _, _ => none
 | none => none
def cfnAt (P : Program) (f : Nat) (L : List (List Nat)) : Option RFn :=
 match P.funcs[f]? with
 | some fn => cfn P fn L
 | none => none
section
variable {cx : Cx} {ι : Inj} {st : St} {a : Act} {w : World}
theorem vload_ptr {h : List Blk} {av : AV} {v : Value} {sz : Nat} {ag : Bool} {k : AV → Prop} (hv : RA w ι av v) (hl : vload h av sz ag k) : ∃ ad, v = .pointer (some ad) := by
 unfold vload at hl
 split at hl
 ·cases hv; exact ⟨_, rfl⟩
 ·cases hv; rename_i hv; cases hv; exact ⟨_, rfl⟩
 ·exact hl.elim
def resStep (tmps : Array Value) : ResultVar → Sem Value
 | .tmp t => pure (tmps.getD t undef)
 | .cell a t => do loadVar t (← asAddr (tmps.getD a undef))
theorem vres_sound (hr : Rel cx ι st a w) : ∀ (l : List ResultVar) (rs : List RRes), cres cx.P l = some rs → ∀ {k : List AV → Prop}, vres st rs k →
 ∃ xs vs, k xs ∧ xs.length = vs.length ∧ (∀ (i : Nat) x, xs[i]? = some x → RA w ι x (vs.getD i undef)) ∧ (l.mapM (resStep a.tmps)).run cx.P w = .ok vs w
 | [], rs, hc, k, h => by
   cases hc
   exact ⟨[], [], h, rfl, by simp, by simp⟩
 | .tmp t :: r, rs, hc, k, h => by
   simp only [cres] at hc
   split at hc
   ·rename_i l hl
    cases hc
    simp only [vres, vres1] at h
    have h := force_of (k := fun x => vres st l fun xs => k (x :: xs)) h
    obtain ⟨xs, vs, h1, h2, h3, h4⟩ := vres_sound hr r l hl h
    refine ⟨_, a.tmps.getD t undef :: vs, h1, by simp [h2], fun i x hi => ?_, ?_⟩
    ·cases i with
     | zero => simp at hi; subst hi; simpa using hr.tm t
     | succ i => simp at hi; simpa using h3 i x hi
    ·simp [List.mapM_cons, resStep, h4]
   ·cases hc
 | .cell t ty :: r, rs, hc, k, h => by
   simp only [cres] at hc
   split at hc
   ·rename_i s g l hs hg hl
    cases hc
    simp only [vres, vres1] at h
    obtain ⟨ad, had⟩ := vload_ptr (hr.tm t) h
    obtain ⟨av, v, hk, hra, hrun⟩ := vload_sound hr.mem.hr (hr.tm t) h hs hg
    obtain ⟨xs, vs, h1, h2, h3, h4⟩ := vres_sound hr r l hl hk
    have hrun := hrun w (Ext.refl w)
    rw [had] at hrun
    have hstep : (resStep a.tmps (.cell t ty)).run cx.P w = .ok v w := by
     simp only [resStep, had, asAddr]
     simpa [Instr.loadAt, Instr.sureAddr] using hrun
    refine ⟨_, v :: vs, h1, by simp [h2], fun i x hi => ?_, ?_⟩
    ·cases i with
     | zero => simp at hi; subst hi; simpa using hra
     | succ i => simp at hi; simpa using h3 i x hi
    ·simp only [List.mapM_cons, Sem.run_bind, hstep, Result.andThen_ok, h4]; rfl
   ·cases hc
theorem results_run {fn : Func} {P : Program} {tmps : Array Value} {vs : List Value} (h : (fn.results.toList.mapM (resStep tmps)).run P w = .ok vs w) :
 (results fn tmps).run P w = .ok (if h : vs.length = 1 then vs[0] else .tuple vs.toArray) w := by
 have e : results fn tmps = (do let vs ← fn.results.mapM (resStep tmps); pure (if h : vs.size = 1 then vs[0] else .tuple vs)) := by
  unfold results
  congr 1
 rw [e, Array.mapM_eq_mapM_toList]
 simp only [Sem.run_bind]
 have : (List.toArray <$> fn.results.toList.mapM (resStep tmps)).run P w = .ok vs.toArray w := by
  rw [← bind_pure_comp]
  simp only [Sem.run_bind, h, Result.andThen_ok, Sem.run_pure]
 rw [this]
 simp only [Result.andThen_ok]
 by_cases h1 : vs.length = 1
 ·simp [h1]
 ·simp [h1]
theorem RA.resV {xs : List AV} {vs : List Value} (hl : xs.length = vs.length) (h : ∀ (i : Nat) x, xs[i]? = some x → RA w ι x (vs.getD i undef)) :
 RA w ι (Hk.resV xs) (if h : vs.length = 1 then vs[0] else .tuple vs.toArray) := by
 unfold Hk.resV
 split
 ·rename_i x
  have h1 : vs.length = 1 := by simpa using hl.symm
  rw [dif_pos h1]
  have := h 0 x rfl
  simpa [h1] using this
 ·rename_i hne
  have h1 : ¬ vs.length = 1 := by
   intro h1
   rw [← hl] at h1
   obtain ⟨x, hx⟩ := List.length_eq_one_iff.1 h1
   exact hne x hx
  rw [dif_neg h1]
  refine .tup (by simp [hl]) fun i x hi => ?_
  have := h i x hi
  simpa using this
end
theorem lk_params (args : List AV) (n s : Nat) : lk (params n args) s = if n ≤ s then (args[s - n]?).getD .undef else .undef := by
 induction args generalizing n with
 | nil => simp [params, lk]
 | cons x r ih =>
   simp only [params, lk]
   by_cases e : n = s
   ·subst e; simp
   ·rw [beqF e]
    simp only [cond_false, ih]
    by_cases h : n + 1 ≤ s
    ·rw [if_pos h, if_pos (by omega)]
     have : s - n = (s - (n + 1)) + 1 := by omega
     rw [this]; simp
    ·rw [if_neg h, if_neg (by omega)]
def fxOf (n : Nat) (mv : List Nat) (b : Nat) : Bool := Nat.blt b n && !memN mv b
theorem leaves_marks {cx : Cx} {fn : Func} {tmps : Array Value} {R : Ending → World → Prop} : ∀ (D : List Nat) {ι : Inj} {h : List Blk} {w : World}, HRel ι h w → (∀ d ∈ D, ι.X d ∧ w.heap[d]? = some (.deferred (some []))) → D.Nodup →
 (∀ w', HRel ι h w' → Later ι.M w w' ι.M → (∀ (c : Nat) (o : Obj), c ∉ D → w.heap[c]? = some o → w'.heap[c]? = some o) → w'.heap.size = w.heap.size → w'.os = w.os ∧ w'.output = w.output →
  ∃ v, (results fn tmps).run cx.P w' = .ok v w' ∧ R (.returned v) w') → LeavesInM Fence.wide 0 cx.P fn tmps R (D.map markOf) .returning w
 | [], ι, h, w, hr, _, _, hk => hk w hr (Later.refl _ _) (fun _ _ _ h => h) rfl ⟨rfl, rfl⟩
 | d :: D, ι, h, w, hr, hd, hn, hk => by
   obtain ⟨h1, h2⟩ := hd d (by simp)
   obtain ⟨n1, n2⟩ := List.nodup_cons.1 hn
   refine ⟨by simp, .inl ⟨d, _, rfl, run_takeDeferred h2, ?_⟩⟩
   obtain ⟨g1, g2⟩ := hr.foreign (l := d) (o := .deferred none) h1
   refine leaves_marks D (ι := ι) (h := h) (w := setW w d (.deferred none)) g1 (fun e he => ?_) n2 (fun w' k1 k2 k3 k4 k5 => hk w' k1 ?_ (fun c o hc ho => ?_) (by rw [k4]; simp [setW]) k5)
   ·have hne : e ≠ d := fun x => n1 (x ▸ he)
    rw [setW_ne _ _ hne]; exact hd e (by simp [he])
   ·exact ⟨fun c o hc ho => k2.keep c o hc (g2.keep c o hc ho), fun c hc => .inl hc, by rw [k4]; simp [setW]⟩
   ·refine k3 c o (fun h => hc (by simp [h])) ?_
    rw [setW_ne _ _ (fun e => hc (by simp [e]))]; exact ho
theorem fn_intro {P : Program} {f : Nat} {L : List (List Nat)} {rf : RFn} (hcomp : cfnAt P f L = some rf) (hm : P.follows .mixedOrders = true) {F : FC}
 (hF : ∀ f args H mv Post, F f args H mv Post → Fn P f args H mv Post) {args : List AV} {H : List Blk} {mv : List Nat} {Post : AV → List Blk → Prop}
 {G : Nat → List PV → Bool → List (List PV) → Prop} (hG : ∀ g caps en ys, G g caps en ys → Gives P g caps en ys)
 (hn : Nat.ble args.length rf.nt = true) (h : awp ⟨F, fxOf H.length mv, H.length, G, false⟩ rf.body (retK ⟨F, fxOf H.length mv, H.length, G, false⟩ rf.res Post) ⟨params 0 args, H⟩) : Fn P f args H mv Post := by
 unfold cfnAt at hcomp
 split at hcomp
 case h_2 => cases hcomp
 rename_i fn hfn
 unfold cfn at hcomp
 split at hcomp
 ·cases hcomp
 ·rename_i hname
  split at hcomp
  ·rename_i c hbody
   split at hcomp
   ·rename_i rc rs hcc hres
    cases hcomp
    refine ⟨⟨fn, hfn, hname, by rw [hbody]; rfl⟩, fun w ι vs hnG hX hr hargs => ?_⟩
    simp only at h hn
    have hn := Nat.le_of_ble_eq_true hn
    have hsz : (vs ++ Array.replicate (fn.ntmps - vs.size) undef).size = fn.ntmps := by
     simp [hargs.1]; omega
    let ι0 : Inj := ⟨ι.m, ι.X, fun _ => False, [], ι.G⟩
    have hr0 := hr.shrink (ι' := ι0) rfl (fun h => h) (fun _ h => h)
    let cx : Cx := { P := P, w0 := w, own := ι.I, n := fn.ntmps, okb := fun t => Nat.blt t fn.ntmps, E := ⟨F, fxOf H.length mv, H.length, G, false⟩, ι0 := ι0, J := fun _ _ _ _ => False, yl := 0, dlo := w.heap.size, nod := false, a0 := fun _ => undef, fk := fun b hb => (by simp only [fxOf, Bool.and_eq_true, Nat.blt_eq] at hb; exact hb.1), okn := fun t ht => (by simpa using ht), js := fun _ _ _ _ _ _ h => h.elim, je := fun h => (by cases h) }
    have hrel : Rel cx ι0 ⟨params 0 args, H⟩ ⟨vs ++ Array.replicate (fn.ntmps - vs.size) undef, []⟩ w := by
     refine ⟨⟨hr0.1, hX, fun _ h => h.elim, fun _ h => h, fun _ h => h.elim, rfl, fun c hc => .inl hc, fun _ _ _ _ => rfl, Nat.le_refl _, ⟨rfl, rfl⟩, fun _ _ => rfl, Nat.le_refl _, fun d hd => by (cases hd), List.nodup_nil, fun l r e => ?_, fun hg => absurd hg hnG, fun _ => rfl⟩, fun s => ?_, ⟨hsz, fun s hs => ?_⟩, rfl⟩
     ·have := hr0.1.blk 0
      rw [e] at this
      exact absurd this.2 hnG
     ·simp only [lk_params, Nat.zero_le, if_true, Nat.sub_zero]
      cases hs : args[s]? with
      | none => exact .und _
      | some x =>
        have := hargs.2 s x hs
        have hlt : s < vs.size := by rw [hargs.1]; exact (List.getElem?_eq_some_iff.1 hs).1
        refine RA.shrink hr0.2 rfl ?_
        simpa [Array.getElem?_append, hlt] using this
     ·have hs' : ¬ s < fn.ntmps := fun hlt => by
       have hs : Nat.blt s fn.ntmps = false := hs
       rw [show Nat.blt s fn.ntmps = true from by simpa only [Nat.blt_eq] using hlt] at hs
       cases hs
      have : (vs ++ Array.replicate (fn.ntmps - vs.size) undef)[s]? = none := Array.getElem?_eq_none (by omega)
      simp [this, cx]
    have hKn : Knows cx := ⟨hF, hG, fun h => absurd h hnG⟩
    refine callsIn_wide.1 (callsIn_of_wp_marks hfn hbody trivial (Go.wpIn_mono (awp_sound P hm c true _ L rc [] hcc cx Fence.wide rfl (fun _ => rfl) hKn (.inl rfl) (fun _ => ⟨rfl, hnG, Nat.le_refl _, rfl⟩) _ hrel h) ?_) rfl)
    have fin : ∀ (a' : Act) (w' : World), Kc cx (fun st => vres st rs fun xs => ∃ r H', Post r H' ∧ (Nat.ble cx.E.k H'.length = true ∧ fixOk cx.E.fx H' cx.E.k = true) ∧
     KLe st.heap (fun b => !liveB H' b) (fun b => liveB H' b) (resV xs) r ∧ HLe st.heap (fun b => !liveB H' b) (fun b => liveB H' b) st.heap H') a' w' →
     LeavesInM Fence.wide 0 P fn a'.tmps (fun e w' => ∃ r v ι' H', e = Ending.returned v ∧ Post r H' ∧ H.length ≤ H'.length ∧ HRel ι' H' w' ∧ RA w' ι' r v ∧ (ι'.X = ι.X ∧ ¬ ι'.G) ∧
      (∀ c (o : Obj), ¬ ι.I c → w.heap[c]? = some o → w'.heap[c]? = some o) ∧ w.heap.size ≤ w'.heap.size ∧ (∀ c, ι'.I c → ι.I c ∨ w.heap.size ≤ c) ∧
      (w'.os = w.os ∧ w'.output = w.output) ∧ ∀ b, b < H.length → memN mv b = false → ι' b = ι b) a'.defers .returning w' := by
     rintro a' w' ⟨ι1, st1, hr1, h1⟩
     rw [hr1.df]
     refine leaves_marks (cx := cx) ι1.D hr1.mem.hr (fun d hd => ⟨(hr1.mem.dm d hd).1, (hr1.mem.dm d hd).2.2.2⟩) hr1.mem.dn (fun w2 g1 g2 g3 g4 g5 => ?_)
     have hm2 : Mem cx { ι1 with D := [] } st1.heap w2 := by
      have hG1 : ¬ ι1.G := by rw [hr1.mem.ge]; exact hnG
      refine ⟨(g1.shrink (ι' := { ι1 with D := [] }) rfl (fun h => h) (fun _ h => h)).1, fun c hc => by rw [g4]; exact hr1.mem.xl c hc, hr1.mem.xs, hr1.mem.xe, hr1.mem.se, hr1.mem.ge, hr1.mem.ow, fun c k1 k2 k3 => ?_, by rw [g4]; exact hr1.mem.gr, ⟨g5.1.trans hr1.mem.os.1, g5.2.trans hr1.mem.os.2⟩, hr1.mem.fx, hr1.mem.kl, fun d hd => by (cases hd), List.nodup_nil, fun l r e => ?_, fun hg => absurd hg hG1, fun _ => rfl⟩
      ·have h5 := hr1.mem.fr c k1 k2 k3
       have h6 : cx.w0.heap[c]? = some cx.w0.heap[c] := Array.getElem?_eq_getElem k3
       rw [h6] at h5 ⊢
       refine g3 c _ (fun hd => ?_) h5
       have := (hr1.mem.dm c hd).2.2.1
       have : w.heap.size ≤ c := this
       have : c < w.heap.size := k3
       omega
      ·have := g1.blk 0
       rw [e] at this
       exact absurd this.2 hG1
     have hr2 : Rel cx { ι1 with D := [] } st1 ⟨a'.tmps, []⟩ w2 := ⟨hm2, fun s => RA.later (ι := ι1) (ι' := { ι1 with D := [] }) g2 (fun _ _ h => h) (hr1.tm s), hr1.sz, rfl⟩
     obtain ⟨xs, us, ⟨r, H', hP, ⟨hk, hf⟩, hkle, hhle⟩, h2, h3, h4⟩ := vres_sound hr2 _ _ hres h1
     have hm' : Mem cx (Inj.cut { ι1 with D := [] } H') H' w2 := hr2.mem.cut hhle (by simpa using hk) hf
     have hra := KLe.sound hr2.mem.hr (cut_hfz hr2.mem.hr) cut_hkp (fun c => Inj.cut_M) (RA.resV h2 h3) hkle
     have hnG' : ¬ (Inj.cut { ι1 with D := [] } H').G := by rw [hm'.ge]; exact hnG
     let ι2 : Inj := ⟨(Inj.cut { ι1 with D := [] } H').m, ι.X, fun _ => False, [], ι.G⟩
     have hsh := hm'.hr.shrink (ι' := ι2) rfl (fun h => absurd h hnG') (fun c hc => hm'.xe c hc)
     refine ⟨_, results_run h4, r, _, ι2, H', rfl, hP, by simpa [cx] using hk, hsh.1, RA.shrink hsh.2 rfl hra, ⟨rfl, hnG⟩, ?_, hm'.gr, hm'.ow, hm'.os, ?_⟩
     ·intro c o hc ho
      rw [hm'.fr c hc (fun h => h) (Array.getElem?_eq_some_iff.1 ho).1]; exact ho
     ·intro b hb hmv
      refine hm'.fx b ?_
      show fxOf H.length mv b = true
      simp [fxOf, hb, hmv]
    intro e a' w' hq
    cases e with
    | normal => exact fin a' w' hq
    | exit id => obtain ⟨ι', st', _, h'⟩ := hq; exact h'.elim
    | ret => exact fin a' w' hq
    | goto l => exact hq.elim
    | panic c => exact hq.elim
    | outgrown => exact hq.elim
   ·cases hcomp
  ·cases hcomp
def cfnIt (P : Program) (f : Nat) (L : List (List Nat)) : Option RFn :=
 match P.funcs[f]? with
 | some fn => if fn.name = "runtime.NumGoroutine" then none else match fn.body with
   | some c => match ccode P false (fun t => Nat.blt t fn.ntmps) c L, fn.results.toList with
     | some (rc, []), [] => some ⟨fn.params.size, fn.ntmps, [], rc⟩
     | _, _ => none
   | none => none
 | none => none
def itK : Ex → St → Prop
 | .exit _, _ => False
 | _, st => match st.heap with
   | .gh _ (some []) :: _ => True
   | .gh _ none :: _ => True
   | _ => False
theorem itK_of {st : St} (h : itK .ret st) : ∃ l left, nth .dead st.heap 0 = .gh l left ∧ (left = some [] ∨ left = none) := by
 obtain ⟨t, hp⟩ := st
 unfold itK at h
 simp only at h
 split at h
 ·exact ⟨_, _, rfl, .inl rfl⟩
 ·exact ⟨_, _, rfl, .inr rfl⟩
 ·exact h.elim
def itSt (l : Nat) (caps : List PV) (ys : List (List PV)) : St := ⟨params 0 (.p (.lit (.func (.yield l) #[] #[])) :: caps.map .p), [.gh l (some ys)]⟩
theorem it_intro {P : Program} {f : Nat} {L : List (List Nat)} {rf : RFn} (hcomp : cfnIt P f L = some rf) (hm : P.follows .mixedOrders = true) {F : FC}
 (hF : ∀ f args H mv Post, F f args H mv Post → Fn P f args H mv Post) {G : Nat → List PV → Bool → List (List PV) → Prop} (hG : ∀ g caps en ys, G g caps en ys → Gives P g caps en ys)
 {caps : List PV} {en : Bool} {ys : List (List PV)} (hn : Nat.ble (caps.length + 1) rf.nt = true)
 (h : ∀ l, awp ⟨F, fun b => Nat.beq b 0, 1, G, en⟩ rf.body itK (itSt l caps ys)) : Gives P f caps en ys := by
 unfold cfnIt at hcomp
 split at hcomp
 case h_2 => cases hcomp
 rename_i fn hfn
 split at hcomp
 ·cases hcomp
 ·rename_i hname
  split at hcomp
  ·rename_i c hbody
   split at hcomp
   ·rename_i rc hcc hres
    cases hcomp
    refine ⟨⟨fn, hfn, hname, by rw [hbody]; rfl⟩, fun l w X S J vs hSX hX hJs hJe hY hgl hJ hvs => ?_⟩
    have h := h l
    simp only at h hn
    have hn := Nat.le_of_ble_eq_true hn
    let args : Array Value := #[.func (.yield l) #[] #[]] ++ vs
    have hal : args.size = caps.length + 1 := by simp [args, hvs.1]; omega
    have hsz : (args ++ Array.replicate (fn.ntmps - args.size) undef).size = fn.ntmps := by
     simp only [Array.size_append, Array.size_replicate]; omega
    let ι0 : Inj := ⟨fun _ => none, X, S, [], True⟩
    have hI0 : ∀ c, ¬ ι0.I c := fun c ⟨b, o, s, hb⟩ => by cases hb
    have hL0 : Later X w w ι0.M := ⟨fun _ _ _ h => h, fun c hc => hc.elim (fun h => absurd h (hI0 c)) .inl, Nat.le_refl _⟩
    have hfk : ∀ b, Nat.beq b 0 = true → b < 1 := fun b hb => by have : b = 0 := by simpa using hb
                                                                 omega
    let cx : Cx := { P := P, w0 := w, own := fun _ => False, n := fn.ntmps, okb := fun t => Nat.blt t fn.ntmps, E := ⟨F, fun b => Nat.beq b 0, 1, G, en⟩, ι0 := ι0, J := J, yl := l, dlo := w.heap.size, nod := true, a0 := fun _ => undef, fk := hfk, okn := fun t ht => (by simpa using ht), js := hJs, je := hJe }
    have hr0 : HRel ι0 [.gh l (some ys)] w := by
     refine ⟨hgl.later hL0, fun b => ?_, fun b b' c o s o' s' hb => (by cases hb), fun b c o s hb => (by cases hb)⟩
     cases b with
     | zero => exact ⟨rfl, trivial⟩
     | succ b =>
       show RB w ι0 none (nth .dead [] b)
       cases b <;> exact rfl
    have hJ0 : J (some ys) w ι0.I S := by
     have e : ι0.I = fun _ => False := funext fun c => propext ⟨fun h => hI0 c h, fun h => h.elim⟩
     rw [e]; exact hJ
    have hrel : Rel cx ι0 (itSt l caps ys) ⟨args ++ Array.replicate (fn.ntmps - args.size) undef, []⟩ w := by
     refine ⟨⟨hr0, hX, hSX, fun _ h => h, fun _ h => .inl h, rfl, fun c hc => absurd hc (hI0 c), fun _ _ _ _ => rfl, Nat.le_refl _, ⟨rfl, rfl⟩, fun _ _ => rfl, Nat.le_refl _, fun d hd => (by cases hd), List.nodup_nil, fun l' r e => ?_, fun _ _ h => h, fun _ => rfl⟩, fun s => ?_, ⟨hsz, fun s hs => ?_⟩, rfl⟩
     ·have e : Blk.gh l (some ys) = .gh l' r := e
      cases e
      exact ⟨rfl, hJ0⟩
     ·simp only [itSt, lk_params, Nat.zero_le, if_true, Nat.sub_zero]
      cases s with
      | zero =>
        have : (args ++ Array.replicate (fn.ntmps - args.size) undef).getD 0 undef = .func (.yield l) #[] #[] := by
         simp [args, Array.getElem?_append]
        rw [this]
        exact .p (.lit _ rfl)
      | succ s =>
        simp only [List.getElem?_cons_succ, List.getElem?_map]
        cases hs : caps[s]? with
        | none => exact .und _
        | some x =>
          have h5 := hvs.2 s x hs
          have hlt : s < vs.size := by rw [hvs.1]; exact (List.getElem?_eq_some_iff.1 hs).1
          have : (args ++ Array.replicate (fn.ntmps - args.size) undef).getD (s + 1) undef = vs.getD s undef := by
           have h6 : s + 1 < args.size := by rw [hal, ← hvs.1]; omega
           simp only [Array.getD_eq_getD_getElem?, Array.getElem?_append, h6, if_true]
           simp [args, Array.getElem?_append]
          rw [this]
          exact .p (h5.later hL0)
     ·have hs' : ¬ s < fn.ntmps := fun hlt => by
       have hs : Nat.blt s fn.ntmps = false := hs
       rw [show Nat.blt s fn.ntmps = true from by simpa only [Nat.blt_eq] using hlt] at hs
       cases hs
      have : (args ++ Array.replicate (fn.ntmps - args.size) undef)[s]? = none := Array.getElem?_eq_none (by omega)
      simp [this, cx]
    have hKn : Knows cx := ⟨hF, hG, fun _ => hY⟩
    refine callsIn_wide.1 (callsIn_of_wp_marks hfn hbody trivial (Go.wpIn_mono (awp_sound P hm c false _ L rc [] hcc cx Fence.wide rfl (fun _ => rfl) hKn (.inl rfl) (fun h => by cases h) _ hrel h) ?_) rfl)
    have fin : ∀ (a' : Act) (w' : World), Kc cx (fun st => itK .ret st) a' w' → LeavesInM Fence.wide 0 P fn a'.tmps (fun e w' => (∃ v, e = .returned v) ∧ ∃ S', Chg S w w' S' ∧ (J (some []) w' (fun _ => False) S' ∨ J none w' (fun _ => False) S')) a'.defers .returning w' := by
     rintro a' w' ⟨ι1, st1, hr1, h1⟩
     obtain ⟨l', left, e, hleft⟩ := itK_of h1
     have hl := (hr1.mem.jt _ _ e).1
     have hl : l' = l := hl
     subst hl
     have hJ1 : J left w' ι1.I ι1.S := (hr1.mem.jt _ _ e).2
     have hD : ι1.D = [] := hr1.mem.dz rfl
     have hG1 : ι1.G := by rw [hr1.mem.ge]; trivial
     rw [hr1.df, hD]
     have hJ2 : J left w' (fun _ => False) ι1.S := hJs _ _ _ _ _ _ hJ1 (fun _ _ _ h => h) (fun _ h => h.elim) (fun _ h => h.elim) (Nat.le_refl _) ⟨rfl, rfl⟩
     refine ⟨.tuple #[], ?_, ⟨_, rfl⟩, ι1.S, ⟨hr1.mem.su hG1, hr1.mem.se, fun c hc => hr1.mem.xl c (hr1.mem.xs c hc), fun c o hc ho => ?_, hr1.mem.gr, hr1.mem.os⟩, ?_⟩
     ·have := results_run (w := w') (fn := fn) (P := P) (tmps := a'.tmps) (vs := []) (by rw [hres]; rfl)
      simpa using this
     ·rw [hr1.mem.fr c (fun h => h) hc (Array.getElem?_eq_some_iff.1 ho).1]; exact ho
     ·rcases hleft with rfl | rfl
      ·exact .inl hJ2
      ·exact .inr hJ2
    intro e a' w' hq
    cases e with
    | normal => exact fin a' w' hq
    | exit id => obtain ⟨ι', st', _, h'⟩ := hq; exact h'.elim
    | ret => exact fin a' w' hq
    | goto l => exact hq.elim
    | panic c => exact hq.elim
    | outgrown => exact hq.elim
   ·cases hcomp
  ·cases hcomp
end Hk
namespace Hk
open Go
set_option linter.unusedVariables false
set_option linter.unusedSimpArgs false
theorem KLe.pe {h : List Blk} {fz kp : Nat → Bool} {x y : PV} (e : x = y) : KLe h fz kp (.p x) (.p y) := e ▸ .p (.refl _)
theorem BLe.pe {h : List Blk} {fz kp : Nat → Bool} {wd : Nat} {x y : List (List PV)} (e : x = y) : BLe h fz kp (.pr wd x) (.pr wd y) := e ▸ .pr (.refl _)
theorem BLe.mpe {h : List Blk} {fz kp : Nat → Bool} {ag : Bool} {ks : List CK} {x y : List (PV × PV)} (e : x = y) : BLe h fz kp (.mp ag ks x) (.mp ag ks y) := e ▸ .mp
theorem BLe.axe {h : List Blk} {fz kp : Nat → Bool} {n : Nat} {a a' : List PV} {c c' : List AV} (e : a = a') (hc : KLeL h fz kp c c') : BLe h fz kp (.ax n a c) (.ax n a' c') := e ▸ .ax (.refl _) hc
theorem BLe.ghe {h : List Blk} {fz kp : Nat → Bool} {l : Nat} {x y : List (List PV)} (e : x = y) : BLe h fz kp (.gh l (some x)) (.gh l (some y)) := e ▸ .gh
theorem KLeL.ps {h : List Blk} {fz kp : Nat → Bool} : ∀ l : List PV, KLeL h fz kp (l.map .p) (l.map .p)
 | [] => .nil
 | x :: r => .cons (.p (.refl x)) (KLeL.ps r)
theorem allP_ps {l : List AV} {ps : List PV} (h : allP l = some ps) : l = ps.map .p := allP_eq h
def PF (P : Program) (f : Nat) (args : List PV) (r : PV) : Prop := Fn P f (args.map .p) [] [] (fun x H => x = .p r ∧ H = [])
theorem vcall_pf {P : Program} {fx : Nat → Bool} {kk : Nat} {en : Bool} {q : Bool} {f : Nat} {args : List AV} {ps : List PV} {r : PV} {d : Option Nat} {st : St} {k : St → Prop}
 (h : PF P f ps r) {ps' : List PV} (hp : allP args = some ps') (he : ps' = ps) (hk : k (st.put d (.p r))) : vcall ⟨Fn P, fx, kk, Gives P, en⟩ q f args d st k := by
 subst he
 have ha := allP_ps hp
 subst ha
 refine .mk ?_
 unfold vcall0
 refine ⟨[], [], ps'.map .p, [], _, [], false, h, ⟨by cases q <;> rfl, rfl, rfl, rfl, rfl, rfl, rfl, rfl, rfl, rfl⟩, rfl, ?_, ?_⟩
 ·rw [renL_ps]; exact KLeL.ps _
 ·rintro r' H' ⟨rfl, rfl⟩ _
  refine ⟨fun h => (by cases h), ?_⟩
  simpa [dropAll, killAll, nthIds, backH, renH, AV.ren] using hk
theorem vcall_flat {P : Program} {fx : Nat → Bool} {kk : Nat} {en : Bool} {q : Bool} {f : Nat} {args : List AV} {ps : List PV} {r : PV} {d : Option Nat} {st : St} {k : St → Prop}
 (h : PF P f ps r) (hf : flatP r = true) (hp : KLeL st.heap (fun _ => true) (memN []) args (ps.map .p)) (hk : k (st.put d (.p r))) : vcall ⟨Fn P, fx, kk, Gives P, en⟩ q f args d st k := by
 refine .mk ?_
 unfold vcall0
 refine ⟨[], [], ps.map .p, [], _, [], true, h, ⟨by cases q <;> rfl, rfl, rfl, rfl, rfl, rfl, rfl, rfl, rfl, rfl⟩, rfl, ?_, ?_⟩
 ·rw [renL_ps]; exact hp
 ·rintro r' H' ⟨rfl, rfl⟩ _
  refine ⟨fun _ => ⟨hf, rfl⟩, ?_⟩
  simpa [dropAll, killAll, nthIds, backH, renH, AV.ren] using hk
theorem setNth_nth {α : Type} (d : α) : ∀ (l : List α) (n : Nat), setNth l n (nth d l n) = l
 | [], _ => rfl
 | _ :: _, 0 => rfl
 | x :: r, n + 1 => by simp [setNth, nth, setNth_nth d r n]
theorem backH_same (h : List Blk) : ∀ ids : List Nat, backH h ids (getIds h ids) = h
 | [] => by simp [backH, getIds]
 | i :: r => by simp [backH, getIds, setNth_nth, backH_same h r]
def RF (P : Program) (f : Nat) (args : List AV) (H : List Blk) (r : PV) : Prop := Fn P f args H [] (fun x H' => x = .p r ∧ H' = H)
theorem vcall_rd {P : Program} {fx : Nat → Bool} {kk : Nat} {en : Bool} {f : Nat} {args args' : List AV} {H : List Blk} {r : PV} {d : Option Nat} {st : St} {k : St → Prop} (ids : List Nat)
 (h : RF P f args' H r) (hb : (Nat.beq ids.length H.length && (distinctN ids && (disjN ids [] && liveIds st.heap ids))) = true) (hH : renH ids st.heap.length H = getIds st.heap ids)
 (hK : KLeL st.heap (fun b => false || memN [] b) (memN ids) args (AV.renL ids st.heap.length args')) (hk : k (st.put d (.p r))) : vcall ⟨Fn P, fx, kk, Gives P, en⟩ false f args d st k := by
 simp only [Bool.and_eq_true] at hb
 refine .mk ?_
 unfold vcall0
 refine ⟨ids, H, args', [], _, [], false, h, ⟨rfl, rfl, rfl, rfl, rfl, rfl, Nat.eq_of_beq_eq_true hb.1, hb.2.1, hb.2.2.1, hb.2.2.2⟩, hH, hK, ?_⟩
 rintro r' H' ⟨rfl, rfl⟩ _
 refine ⟨fun h => (by cases h), ?_⟩
 simpa [dropAll, killAll, nthIds, AV.ren, hH, backH_same] using hk
theorem bk_nt {k : Bool → Prop} (h : k false) : bk (!true) k := bk_false h
theorem bk_nf {k : Bool → Prop} (h : k true) : bk (!false) k := bk_true h
theorem bk_is {k : Bool → Prop} {b c : Bool} (e : b = c) (h : k c) : bk b k := ⟨e ▸ h⟩
theorem neqF {a b : Int} (h : a = b) : intCm .neq a b = false := by subst h; simp [intCm]
theorem neqT {a b : Int} (h : a ≠ b) : intCm .neq a b = true := by simp [intCm, h]
theorem eqlT {a b : Int} (h : a = b) : intCm .eql a b = true := by subst h; simp [intCm]
theorem eqlF {a b : Int} (h : a ≠ b) : intCm .eql a b = false := by simp [intCm, h]
theorem lssT {a b : Int} (h : a < b) : intCm .lss a b = true := by simp [intCm, h]
theorem lssF {a b : Int} (h : b ≤ a) : intCm .lss a b = false := by simp [intCm, h]
theorem leqT {a b : Int} (h : a ≤ b) : intCm .leq a b = true := by simp [intCm, h]
theorem leqF {a b : Int} (h : b < a) : intCm .leq a b = false := by simp [intCm, h]
theorem gtrT {a b : Int} (h : b < a) : intCm .gtr a b = true := by simp [intCm, h]
theorem gtrF {a b : Int} (h : a ≤ b) : intCm .gtr a b = false := by simp [intCm, h]
theorem geqT {a b : Int} (h : b ≤ a) : intCm .geq a b = true := by simp [intCm, h]
theorem geqF {a b : Int} (h : a < b) : intCm .geq a b = false := by simp [intCm, h]
theorem bk_eql {k : Bool → Prop} {a b : Int} (h1 : a = b → k true) (h2 : a ≠ b → k false) : bk (intCm .eql a b) k :=
 bk_split (fun h => h1 (by simpa [intCm] using h)) (fun h => h2 (by simpa [intCm] using h))
theorem bk_neq {k : Bool → Prop} {a b : Int} (h1 : a ≠ b → k true) (h2 : a = b → k false) : bk (intCm .neq a b) k :=
 bk_split (fun h => h1 (by simpa [intCm] using h)) (fun h => h2 (by simpa [intCm] using h))
theorem bk_lss {k : Bool → Prop} {a b : Int} (h1 : a < b → k true) (h2 : b ≤ a → k false) : bk (intCm .lss a b) k :=
 bk_split (fun h => h1 (by simpa [intCm] using h)) (fun h => h2 (by simpa [intCm] using h))
theorem bk_leq {k : Bool → Prop} {a b : Int} (h1 : a ≤ b → k true) (h2 : b < a → k false) : bk (intCm .leq a b) k :=
 bk_split (fun h => h1 (by simpa [intCm] using h)) (fun h => h2 (by simpa [intCm] using h))
theorem bk_gtr {k : Bool → Prop} {a b : Int} (h1 : b < a → k true) (h2 : a ≤ b → k false) : bk (intCm .gtr a b) k :=
 bk_split (fun h => h1 (by simpa [intCm] using h)) (fun h => h2 (by simpa [intCm] using h))
theorem bk_geq {k : Bool → Prop} {a b : Int} (h1 : b ≤ a → k true) (h2 : a < b → k false) : bk (intCm .geq a b) k :=
 bk_split (fun h => h1 (by simpa [intCm] using h)) (fun h => h2 (by simpa [intCm] using h))
theorem ex_get {α : Type} {l : List α} {i : Nat} {x : α} {k : α → Prop} (h : l[i]? = some x) (hk : k x) : ∃ x, l[i]? = some x ∧ k x := ⟨x, h, hk⟩
theorem rows_all {l : List (List PV)} {n : Nat} (h : l.all (fun r => Nat.beq r.length n) = true) : ∀ r ∈ l, r.length = n := fun r hr => Nat.eq_of_beq_eq_true (List.all_eq_true.1 h r hr)
theorem ex_st {X : List AV} {y : PV} {k : PV → Prop} (h : X = [.p y]) (hk : k y) : ∃ y, X = [.p y] ∧ k y := ⟨y, h, hk⟩
theorem ex_cs {α : Type} {X cs : List α} {n : Nat} {k : List α → Prop} (h : X = cs) (hl : cs.length = n) (hk : k cs) : ∃ cs, X = cs ∧ cs.length = n ∧ k cs := ⟨cs, h, hl, hk⟩
theorem vcall_new {P : Program} {fx : Nat → Bool} {kk : Nat} {en : Bool} {q : Bool} {f : Nat} {args : List AV} {ps : List PV} {Post : AV → List Blk → Prop} {d : Option Nat} {st : St} {k : St → Prop}
 (h : Fn P f (ps.map .p) [] [] Post) {ps' : List PV} (hp : allP args = some ps') (he : ps' = ps)
 (hk : ∀ r H', Post r H' → k ((⟨st.tmps, st.heap ++ renH [] st.heap.length H'⟩ : St).put d (AV.ren [] st.heap.length r))) : vcall ⟨Fn P, fx, kk, Gives P, en⟩ q f args d st k := by
 subst he
 have ha := allP_ps hp
 subst ha
 refine .mk ?_
 unfold vcall0
 refine ⟨[], [], ps'.map .p, [], _, [], false, h, ⟨by cases q <;> rfl, rfl, rfl, rfl, rfl, rfl, rfl, rfl, rfl, rfl⟩, rfl, ?_, ?_⟩
 ·rw [renL_ps]; exact KLeL.ps _
 ·intro r' H' hP _
  refine ⟨fun h => (by cases h), ?_⟩
  have := hk r' H' hP
  simpa [dropAll, killAll, nthIds, backH] using this
theorem vcall_own {P : Program} {fx : Nat → Bool} {kk : Nat} {en : Bool} {f : Nat} {args args' : List AV} {H : List Blk} {Post : AV → List Blk → Prop} {d : Option Nat} {st : St} {k : St → Prop} (ids : List Nat)
 (h : Fn P f args' H [] Post) (hb : (Nat.beq ids.length H.length && (distinctN ids && (disjN ids [] && liveIds st.heap ids))) = true) (hH : renH ids st.heap.length H = getIds st.heap ids)
 (hK : KLeL st.heap (fun b => false || memN [] b) (memN ids) args (AV.renL ids st.heap.length args'))
 (hk : ∀ r H', Post r H' → k ((⟨st.tmps, backH st.heap ids (renH ids st.heap.length H')⟩ : St).put d (AV.ren ids st.heap.length r))) : vcall ⟨Fn P, fx, kk, Gives P, en⟩ false f args d st k := by
 simp only [Bool.and_eq_true] at hb
 refine .mk ?_
 unfold vcall0
 refine ⟨ids, H, args', [], _, [], false, h, ⟨rfl, rfl, rfl, rfl, rfl, rfl, Nat.eq_of_beq_eq_true hb.1, hb.2.1, hb.2.2.1, hb.2.2.2⟩, hH, hK, ?_⟩
 intro r' H' hP _
 refine ⟨fun h => (by cases h), ?_⟩
 have := hk r' H' hP
 simpa [dropAll, killAll, nthIds] using this
theorem vcall_mv {P : Program} {fx : Nat → Bool} {kk : Nat} {en : Bool} {f : Nat} {args args' : List AV} {H : List Blk} {mv : List Nat} {Post : AV → List Blk → Prop} {d : Option Nat} {st : St} {k : St → Prop} (ids : List Nat)
 (h : Fn P f args' H mv Post) (hb : (Nat.beq ids.length H.length && (distinctN ids && (disjN ids [] && (liveIds st.heap ids && (allFree fx (nthIds ids mv) && boundedN H.length mv))))) = true)
 (hH : renH ids st.heap.length H = getIds st.heap ids)
 (hK : KLeL st.heap (fun b => false || memN [] b) (memN ids) args (AV.renL ids st.heap.length args'))
 (hk : ∀ r H', Post r H' → forceSt ⟨(killAll (nthIds ids mv) st).tmps, backH (killAll (nthIds ids mv) st).heap ids (renH ids st.heap.length H')⟩ fun st' => forceA (AV.ren ids st.heap.length r) fun r => k (st'.put d r)) : vcall ⟨Fn P, fx, kk, Gives P, en⟩ false f args d st k := by
 simp only [Bool.and_eq_true] at hb
 refine .mk ?_
 unfold vcall0
 refine ⟨ids, H, args', mv, _, [], false, h, ⟨rfl, rfl, hb.2.2.2.2.1, rfl, hb.2.2.2.2.2, rfl, Nat.eq_of_beq_eq_true hb.1, hb.2.1, hb.2.2.1, hb.2.2.2.1⟩, hH, hK, ?_⟩
 intro r' H' hP _
 refine ⟨fun h => (by cases h), ?_⟩
 have := hk r' H' hP
 rw [forceSt_eq, forceA_eq] at this
 simpa [dropAll] using this
theorem vcall_ow {P : Program} {fx : Nat → Bool} {kk : Nat} {en : Bool} {f : Nat} {args args' : List AV} {H : List Blk} {Post : AV → List Blk → Prop} {d : Option Nat} {st : St} {k : St → Prop} (ids fr : List Nat)
 (h : Fn P f args' H [] Post) (hb : (Nat.beq ids.length H.length && (distinctN ids && (disjN ids fr && (liveIds st.heap ids && (allFree fx fr && boundedN st.heap.length fr))))) = true)
 (hH : renH ids st.heap.length H = getIds st.heap ids)
 (hK : KLeL st.heap (fun b => false || memN fr b) (memN ids) args (AV.renL ids st.heap.length args'))
 (hk : ∀ r H', Post r H' → forceSt ⟨(dropAll fr st).tmps, backH (dropAll fr st).heap ids (renH ids st.heap.length H')⟩ fun st' => forceA (AV.ren ids st.heap.length r) fun r => k (st'.put d r)) : vcall ⟨Fn P, fx, kk, Gives P, en⟩ false f args d st k := by
 simp only [Bool.and_eq_true] at hb
 refine .mk ?_
 unfold vcall0
 refine ⟨ids, H, args', [], _, fr, false, h, ⟨rfl, rfl, rfl, hb.2.2.2.2.1, rfl, hb.2.2.2.2.2, Nat.eq_of_beq_eq_true hb.1, hb.2.1, hb.2.2.1, hb.2.2.2.1⟩, hH, hK, ?_⟩
 intro r' H' hP _
 refine ⟨fun h => (by cases h), ?_⟩
 have := hk r' H' hP
 rw [forceSt_eq, forceA_eq] at this
 simpa [killAll, nthIds] using this
theorem vcall_frz {P : Program} {fx : Nat → Bool} {kk : Nat} {en : Bool} {q : Bool} {f : Nat} {args : List AV} {ps : List PV} {r : PV} {d : Option Nat} {st : St} {k : St → Prop} (fr : List Nat)
 (h : PF P f ps r) (hb : (allFree fx fr && boundedN st.heap.length fr && disjN [] fr) = true) (hp : KLeL st.heap (fun b => false || memN fr b) (memN []) args (ps.map .p))
 (hk : k ((dropAll fr st).put d (.p r))) : vcall ⟨Fn P, fx, kk, Gives P, en⟩ q f args d st k := by
 simp only [Bool.and_eq_true] at hb
 refine .mk ?_
 unfold vcall0
 refine ⟨[], [], ps.map .p, [], _, fr, false, h, ⟨by cases q <;> rfl, rfl, rfl, hb.1.1, rfl, hb.1.2, rfl, rfl, hb.2, rfl⟩, rfl, ?_, ?_⟩
 ·rw [renL_ps]; exact hp
 ·rintro r' H' ⟨rfl, rfl⟩ _
  refine ⟨fun h => (by cases h), ?_⟩
  simpa [killAll, nthIds, backH, renH, AV.ren] using hk
theorem vcall_flat0 {P : Program} {fx : Nat → Bool} {kk : Nat} {en : Bool} {q : Bool} {f : Nat} {args : List AV} {ps : List PV} {r : PV} {d : Option Nat} {st : St} {k : St → Prop}
 (h : PF P f ps r) (hp : KLeL st.heap (fun b => false || memN [] b) (memN []) args (ps.map .p)) (hk : k (st.put d (.p r))) : vcall ⟨Fn P, fx, kk, Gives P, en⟩ q f args d st k :=
 vcall_frz [] h rfl hp hk
theorem pf_intro {P : Program} {f : Nat} {L : List (List Nat)} {rf : RFn} (hcomp : cfnAt P f L = some rf) (hm : P.follows .mixedOrders = true) {args : List PV} {r : PV}
 (hn : Nat.ble args.length rf.nt = true) (h : awp ⟨Fn P, fun _ => false, 0, Gives P, false⟩ rf.body (retK ⟨Fn P, fun _ => false, 0, Gives P, false⟩ rf.res (fun x H => x = .p r ∧ H = [])) ⟨params 0 (args.map .p), []⟩) : PF P f args r := by
 have e : fxOf 0 [] = fun _ => false := by funext b; simp [fxOf]
 refine fn_intro hcomp hm (F := Fn P) (fun _ _ _ _ _ h => h) (G := Gives P) (fun _ _ _ _ h => h) (by simpa using hn) ?_
 simp only [List.length_nil, e]
 exact h
theorem ret_pf {E : En} {h : List Blk} {xs : List AV} {r : PV} {x : PV} (hk : E.k = 0) (hx : resV xs = .p x) (e : x = r) :
 ∃ r' H', (r' = .p r ∧ H' = []) ∧ (Nat.ble E.k (List.length H') = true ∧ fixOk E.fx H' E.k = true) ∧
  KLe h (fun b => !liveB H' b) (fun b => liveB H' b) (resV xs) r' ∧ HLe h (fun b => !liveB H' b) (fun b => liveB H' b) h H' := by
 subst e
 exact ⟨_, _, ⟨rfl, rfl⟩, by rw [hk]; exact ⟨rfl, rfl⟩, by rw [hx]; exact .p (.refl _), .nil _⟩
theorem f_intro {P : Program} {f : Nat} {L : List (List Nat)} {rf : RFn} (hcomp : cfnAt P f L = some rf) (hm : P.follows .mixedOrders = true) {args : List AV} {H : List Blk} {mv : List Nat} {Post : AV → List Blk → Prop}
 (hn : Nat.ble args.length rf.nt = true) (h : awp ⟨Fn P, fxOf H.length mv, H.length, Gives P, false⟩ rf.body (retK ⟨Fn P, fxOf H.length mv, H.length, Gives P, false⟩ rf.res Post) ⟨params 0 args, H⟩) : Fn P f args H mv Post :=
 fn_intro hcomp hm (F := Fn P) (fun _ _ _ _ _ h => h) (G := Gives P) (fun _ _ _ _ h => h) hn h
theorem g_intro {P : Program} {f : Nat} {L : List (List Nat)} {rf : RFn} (hcomp : cfnIt P f L = some rf) (hm : P.follows .mixedOrders = true) {caps : List PV} {en : Bool} {ys : List (List PV)}
 (hn : Nat.ble (caps.length + 1) rf.nt = true) (h : ∀ l, awp ⟨Fn P, fun b => Nat.beq b 0, 1, Gives P, en⟩ rf.body itK (itSt l caps ys)) : Gives P f caps en ys :=
 it_intro hcomp hm (F := Fn P) (fun _ _ _ _ _ h => h) (G := Gives P) (fun _ _ _ _ h => h) hn h
theorem rg_list {E : En} {live : List Nat} {ps : List Nat} {asg a : RC} {K : Ex → St → Prop} {st : St} {g : Nat} {caps : List PV} {β : Type} (L : List β) (row : β → List PV) (hG : E.G g caps false (L.map row))
 (hlen : ∀ b, (row b).length = ps.length) (ms : List MatAt) (mk : Nat → St) (inv : Nat → Prop) (hi : inv 0) (h0 : StLe E ((trim live st).mat ms) (mk 0))
 (hr : ∀ k b t, L[k]? = some b → t = (L.drop (k + 1)).map row → k + 1 ≤ L.length → inv k → awp E asg (onlyN fun st => awp E a (roundK live K fun st => ∃ x, (inv x ∧ t = (L.drop x).map row ∧ x ≤ L.length) ∧ StLe E (trim live st) (mk x)) st) ⟨zipP ps (row b) (mk k).tmps, (mk k).heap⟩)
 (he : inv L.length → K .normal (mk L.length)) :
 ∃ (en : Bool) (ys : List (List PV)) (ms : List MatAt) (α : Type) (mk : α → St) (ok : List (List PV) → α → Prop),
  E.G g caps en ys ∧ (en = true → ∀ x, ¬ ok [] x) ∧ (∀ y ∈ ys, y.length = ps.length) ∧
  (∃ x, ok ys x ∧ StLe E ((trim live st).mat ms) (mk x)) ∧
  (∀ y r x, ok (y :: r) x → awp E asg (onlyN fun st => awp E a (roundK live K fun st => ∃ x, ok r x ∧ StLe E (trim live st) (mk x)) st) ⟨zipP ps y (mk x).tmps, (mk x).heap⟩) ∧
  ∀ x, ok [] x → K .normal (mk x) := by
 refine ⟨false, L.map row, ms, Nat, mk, fun r k => inv k ∧ r = (L.drop k).map row ∧ k ≤ L.length, hG, fun h => (by cases h), fun y hy => ?_, ⟨0, ⟨hi, rfl, Nat.zero_le _⟩, h0⟩, fun y r k hk => ?_, fun k hk => ?_⟩
 ·obtain ⟨b, _, rfl⟩ := List.mem_map.1 hy; exact hlen b
 ·obtain ⟨h1, h2, h3⟩ := hk
  cases hd : L.drop k with
  | nil => rw [hd] at h2; cases h2
  | cons b t =>
    rw [hd] at h2
    simp only [List.map_cons, List.cons.injEq] at h2
    obtain ⟨rfl, rfl⟩ := h2
    have hb : L[k]? = some b := by
     have : (L.drop k)[0]? = some b := by rw [hd]; rfl
     simpa using this
    have hlt := (List.getElem?_eq_some_iff.1 hb).1
    have ht : t = L.drop (k + 1) := by
     have : L.drop (k + 1) = (L.drop k).drop 1 := by rw [List.drop_drop]
     rw [this, hd]; rfl
    exact hr k b _ hb (by rw [← ht]) hlt h1
 ·obtain ⟨h1, h2, h3⟩ := hk
  have hl : k = L.length := by
   have := congrArg List.length h2
   simp at this; omega
  subst hl
  exact he h1
def cmP : BinOp → Int → Int → Prop
 | .eql, a, b => a = b
 | .neq, a, b => a ≠ b
 | .lss, a, b => a < b
 | .leq, a, b => a ≤ b
 | .gtr, a, b => b < a
 | .geq, a, b => b ≤ a
 | _, _, _ => False
theorem cm_iff {op : BinOp} {a b : Int} : intCm op a b = true ↔ cmP op a b := by
 cases op <;> simp [intCm, cmP]
theorem bkT {op : BinOp} {a b : Int} {k : Bool → Prop} (h : cmP op a b) (hk : k true) : bk (intCm op a b) k := ⟨by rw [cm_iff.2 h]; exact hk⟩
theorem bkF {op : BinOp} {a b : Int} {k : Bool → Prop} (h : ¬ cmP op a b) (hk : k false) : bk (intCm op a b) k :=
 ⟨by cases hc : intCm op a b with
     | false => exact hk
     | true => exact absurd (cm_iff.1 hc) h⟩
theorem bkS {op : BinOp} {a b : Int} {k : Bool → Prop} (h1 : cmP op a b → k true) (h2 : ¬ cmP op a b → k false) : bk (intCm op a b) k := by
 by_cases h : cmP op a b
 ·exact bkT h (h1 h)
 ·exact bkF h (h2 h)
abbrev u32 (w : BitVec 32) : PV := .int .u32 (w.toNat : Int)
abbrev u8 (w : BitVec 8) : PV := .int .u8 (w.toNat : Int)
abbrev u64 (w : BitVec 64) : PV := .int .u64 (w.toNat : Int)
abbrev i64 (n : Int) : PV := .int .i64 n
theorem wrap_u (k : IntKind) (n : Int) (hs : k.signed = false) : k.wrap n = n % 2 ^ k.bits := by
 unfold IntKind.wrap
 simp [hs]
theorem wrap_u32 (n : Int) : IntKind.u32.wrap n = n % 4294967296 := wrap_u .u32 n rfl
theorem wrap_u8 (n : Int) : IntKind.u8.wrap n = n % 256 := wrap_u .u8 n rfl
theorem wrap_u64 (n : Int) : IntKind.u64.wrap n = n % 18446744073709551616 := wrap_u .u64 n rfl
theorem wrap_i64 {n : Int} (h0 : -9223372036854775808 ≤ n) (h1 : n < 9223372036854775808) : IntKind.i64.wrap n = n := by
 unfold IntKind.wrap IntKind.signed IntKind.bits
 simp
 omega
theorem add64 {a b : Int} (h0 : -9223372036854775808 ≤ a + b) (h1 : a + b < 9223372036854775808) : intAr .add .i64 a b = a + b := wrap_i64 h0 h1
theorem sub64 {a b : Int} (h0 : -9223372036854775808 ≤ a - b) (h1 : a - b < 9223372036854775808) : intAr .sub .i64 a b = a - b := wrap_i64 h0 h1
theorem mul64 {a b : Int} (h0 : -9223372036854775808 ≤ a * b) (h1 : a * b < 9223372036854775808) : intAr .mul .i64 a b = a * b := wrap_i64 h0 h1
section
variable (a b : BitVec 32)
theorem ofInt32 : BitVec.ofInt 32 (a.toNat : Int) = a := by simp
theorem u32_xor : intAr .xor .u32 (a.toNat : Int) (b.toNat : Int) = ((a ^^^ b).toNat : Int) := by
 show IntKind.u32.wrap ((BitVec.ofInt 32 _ ^^^ BitVec.ofInt 32 _).toNat : Int) = _
 rw [ofInt32, ofInt32, wrap_u32]
 have := (a ^^^ b).isLt
 omega
theorem u32_and : intAr .and .u32 (a.toNat : Int) (b.toNat : Int) = ((a &&& b).toNat : Int) := by
 show IntKind.u32.wrap ((BitVec.ofInt 32 _ &&& BitVec.ofInt 32 _).toNat : Int) = _
 rw [ofInt32, ofInt32, wrap_u32]
 have := (a &&& b).isLt
 omega
theorem u32_or : intAr .or .u32 (a.toNat : Int) (b.toNat : Int) = ((a ||| b).toNat : Int) := by
 show IntKind.u32.wrap ((BitVec.ofInt 32 _ ||| BitVec.ofInt 32 _).toNat : Int) = _
 rw [ofInt32, ofInt32, wrap_u32]
 have := (a ||| b).isLt
 omega
theorem u32_sub : intAr .sub .u32 (a.toNat : Int) (b.toNat : Int) = ((a - b).toNat : Int) := by
 show IntKind.u32.wrap ((a.toNat : Int) - (b.toNat : Int)) = _
 rw [wrap_u32, BitVec.toNat_sub]
 have := a.isLt
 have := b.isLt
 omega
theorem u32_neg : intAr .sub .u32 0 (a.toNat : Int) = ((-a).toNat : Int) := by
 show IntKind.u32.wrap (0 - (a.toNat : Int)) = _
 rw [wrap_u32, BitVec.toNat_neg]
 have := a.isLt
 omega
theorem u32_not : intAr .xor .u32 (if IntKind.u32.signed = true then -1 else IntKind.u32.max) (a.toNat : Int) = ((~~~a).toNat : Int) := by
 have e : (if IntKind.u32.signed = true then -1 else IntKind.u32.max) = ((4294967295#32).toNat : Int) := by decide
 rw [e, u32_xor]
 congr 1
theorem u32_shr (n : Int) (hn : n.toNat ≤ 32) : intAr .shr .u32 (a.toNat : Int) n = ((a >>> n.toNat).toNat : Int) := by
 show (a.toNat : Int).fdiv (2 ^ (min (n.toNat) 32)) = _
 rw [Nat.min_eq_left hn, BitVec.toNat_ushiftRight, Nat.shiftRight_eq_div_pow, Int.fdiv_eq_ediv_of_nonneg _ (Int.le_of_lt (Int.pow_pos (by decide)))]
 norm_cast
theorem u32_shl (n : Int) (hn : n.toNat ≤ 32) : intAr .shl .u32 (a.toNat : Int) n = ((a <<< n.toNat).toNat : Int) := by
 show IntKind.u32.wrap ((a.toNat : Int) * 2 ^ (min (n.toNat) 32)) = _
 rw [Nat.min_eq_left hn, wrap_u32, BitVec.toNat_shiftLeft, Nat.shiftLeft_eq]
 simp
end
theorem u8_conv32 (w : BitVec 32) : IntKind.u8.wrap (w.toNat : Int) = ((w.setWidth 8).toNat : Int) := by
 rw [wrap_u8, BitVec.toNat_setWidth]; omega
theorem u32_conv8 (w : BitVec 8) : IntKind.u32.wrap (w.toNat : Int) = ((w.setWidth 32).toNat : Int) := by
 rw [wrap_u32, BitVec.toNat_setWidth]
 have := w.isLt
 omega
theorem u32_ofNat (n : Nat) : IntKind.u32.wrap (n : Int) = ((BitVec.ofNat 32 n).toNat : Int) := by
 rw [wrap_u32, BitVec.toNat_ofNat]; omega
theorem u8_xor (a b : BitVec 8) : intAr .xor .u8 (a.toNat : Int) (b.toNat : Int) = ((a ^^^ b).toNat : Int) := by
 show IntKind.u8.wrap ((BitVec.ofInt 8 _ ^^^ BitVec.ofInt 8 _).toNat : Int) = _
 have e : ∀ c : BitVec 8, BitVec.ofInt 8 (c.toNat : Int) = c := fun c => by simp
 rw [e, e, wrap_u8]
 have := (a ^^^ b).isLt
 omega
theorem and1_64 {n : Int} (h0 : 0 ≤ n) (h1 : n < 9223372036854775808) : intAr .and .i64 n 1 = n % 2 := by
 show IntKind.i64.wrap ((BitVec.ofInt 64 n &&& BitVec.ofInt 64 1).toNat : Int) = _
 rw [BitVec.toNat_and]
 have e1 : (BitVec.ofInt 64 n).toNat = n.toNat := by rw [BitVec.toNat_ofInt]; omega
 have e2 : (BitVec.ofInt 64 1).toNat = 1 := rfl
 rw [e1, e2, Nat.and_one_is_mod, wrap_i64 (by omega) (by omega)]
 omega
theorem shr1_64 {n : Int} : intAr .shr .i64 n 1 = n / 2 := by
 show n.fdiv (2 ^ (min (Int.toNat 1) 64)) = _
 exact Int.fdiv_eq_ediv_of_nonneg _ (by decide)
def upto {α : Type} (n k : Nat) (f : Nat → α) (z : α) : List α := (List.range n).map fun j => if j < k then f j else z
theorem upto_len {α : Type} (n k : Nat) (f : Nat → α) (z : α) : (upto n k f z).length = n := by simp [upto]
theorem upto_get {α : Type} {n k : Nat} {f : Nat → α} {z : α} {j : Nat} (h : j < n) : (upto n k f z)[j]? = some (if j < k then f j else z) := by
 simp [upto, h]
theorem upto_zero {α : Type} (n : Nat) (f : Nat → α) (z : α) : upto n 0 f z = List.replicate n z := by
 apply List.ext_getElem?
 intro i
 by_cases h : i < n
 ·rw [upto_get h]; simp [h]
 ·rw [List.getElem?_eq_none (by rw [upto_len]; omega), List.getElem?_eq_none (by simp; omega)]
theorem upto_full {α : Type} (n : Nat) (f : Nat → α) (z : α) : upto n n f z = (List.range n).map f := by
 apply List.map_congr_left
 intro j hj
 simp at hj
 simp [hj]
theorem upto_set {α : Type} {n k : Nat} {f : Nat → α} {z : α} (h : k < n) : (upto n k f z).take k ++ [f k] ++ (upto n k f z).drop (k + 1) = upto n (k + 1) f z := by
 apply List.ext_getElem?
 intro i
 have hl : ((upto n k f z).take k ++ [f k]).length = k + 1 := by simp [upto_len]; omega
 by_cases hi : i < n
 ·rw [upto_get hi]
  by_cases h1 : i < k
  ·rw [List.getElem?_append_left (by omega), List.getElem?_append_left (by simp [upto_len]; omega), List.getElem?_take_of_lt h1, upto_get hi, if_pos h1, if_pos (by omega)]
  ·by_cases h2 : i = k
   ·subst h2
    have e : ((upto n i f z).take i).length = i := by simp [upto_len]; omega
    rw [List.getElem?_append_left (by omega), List.getElem?_append_right (by omega), e, Nat.sub_self, if_pos (by omega)]; rfl
   ·rw [List.getElem?_append_right (by omega), hl, List.getElem?_drop]
    have : k + 1 + (i - (k + 1)) = i := by omega
    rw [this, upto_get hi, if_neg h1, if_neg (by omega)]
 ·have e : ((upto n k f z).drop (k + 1)).length = n - (k + 1) := by simp [upto_len]
  have e1 : ((upto n k f z).take k ++ [f k] ++ (upto n k f z).drop (k + 1)).length = n := by rw [List.length_append, hl, e]; omega
  rw [List.getElem?_eq_none (by rw [e1]; omega), List.getElem?_eq_none (by rw [upto_len]; omega)]
theorem lss_t {a b : Int} (h : intCm .lss a b = true) : a < b := by simpa [intCm] using h
theorem lss_f {a b : Int} (h : intCm .lss a b = false) : b ≤ a := by simpa [intCm] using h
theorem leq_t {a b : Int} (h : intCm .leq a b = true) : a ≤ b := by simpa [intCm] using h
theorem leq_f {a b : Int} (h : intCm .leq a b = false) : b < a := by simpa [intCm] using h
theorem gtr_t {a b : Int} (h : intCm .gtr a b = true) : b < a := by simpa [intCm] using h
theorem gtr_f {a b : Int} (h : intCm .gtr a b = false) : a ≤ b := by simpa [intCm] using h
theorem geq_t {a b : Int} (h : intCm .geq a b = true) : b ≤ a := by simpa [intCm] using h
theorem geq_f {a b : Int} (h : intCm .geq a b = false) : a < b := by simpa [intCm] using h
theorem eql_t {a b : Int} (h : intCm .eql a b = true) : a = b := by simpa [intCm] using h
theorem eql_f {a b : Int} (h : intCm .eql a b = false) : a ≠ b := by simpa [intCm] using h
theorem neq_t {a b : Int} (h : intCm .neq a b = true) : a ≠ b := by simpa [intCm] using h
theorem neq_f {a b : Int} (h : intCm .neq a b = false) : a = b := by simpa [intCm] using h
structure Hid (p : Prop) : Prop where
 of : p
theorem once {T G : Prop} (f : Hid T → G) (h : T) : G := f ⟨h⟩
end Hk
namespace Hk
set_option linter.unusedVariables false
set_option linter.unusedSimpArgs false
theorem hkG {p q : Prop} (h : q) (e : Hid q → p := by refine fun h => ?_; ((conv=>whnf)<;>repeat((first|refine And.intro (by first|omega|exact rfl|exact trivial|exact Nat.le_of_ble_eq_true rfl|exact rows_all rfl|(simp only [List.length_cons,List.length_nil];omega)) ?_|refine And.intro ?_ trivial|with_reducible refine bk_true ?_|with_reducible refine bk_false ?_|refine ex_get rfl ?_|refine ex_cs rfl rfl ?_|refine ex_st rfl ?_|refine Or.inr (And.intro (by omega) ?_)|refine Or.inl (And.intro (by omega) ?_)|with_reducible refine bk_nt ?_|with_reducible refine bk_nf ?_|refine joinK.here ?_)<;>conv=>whnf)); exact h.of) : p := e ⟨h⟩
theorem hkH {p q : Prop} (h : q) (e : Hid q → p := by refine fun h => ?_; ((conv=>whnf)<;>repeat((first|refine And.intro (by first|omega|exact rfl|exact trivial|exact Nat.le_of_ble_eq_true rfl|exact rows_all rfl|(simp only [List.length_cons,List.length_nil];omega)) ?_|refine And.intro ?_ trivial|with_reducible refine bk_true ?_|with_reducible refine bk_false ?_|refine ex_get rfl ?_|refine ex_cs rfl rfl ?_|refine ex_st rfl ?_|refine Or.inr (And.intro (by omega) ?_)|refine Or.inl (And.intro (by omega) ?_)|with_reducible refine bk_nt ?_|with_reducible refine bk_nf ?_)<;>conv=>whnf)); exact h.of) : p := e ⟨h⟩
theorem hkD {p q : Prop} (h : q) (e : Hid q → p := by refine fun h => ?_; (repeat((first|(with_reducible refine bkT ?_ ?_;focus ((simp only [cmP])<;>omega))|(with_reducible refine bkF ?_ ?_;focus ((simp only [cmP])<;>omega)));((conv=>whnf)<;>repeat((first|refine And.intro (by first|omega|exact rfl|exact trivial|exact Nat.le_of_ble_eq_true rfl|exact rows_all rfl|(simp only [List.length_cons,List.length_nil];omega)) ?_|refine And.intro ?_ trivial|with_reducible refine bk_true ?_|with_reducible refine bk_false ?_|refine ex_get rfl ?_|refine ex_cs rfl rfl ?_|refine ex_st rfl ?_|refine Or.inr (And.intro (by omega) ?_)|refine Or.inl (And.intro (by omega) ?_)|with_reducible refine bk_nt ?_|with_reducible refine bk_nf ?_|refine joinK.here ?_)<;>conv=>whnf)))); exact h.of) : p := e ⟨h⟩
theorem hkC {p q : Prop} (h : q) (e : Hid q → p := by refine fun h => ?_; ((repeat'((first|refine bk_true ?_|refine bk_false ?_)<;>((conv=>whnf)<;>repeat((first|refine And.intro (by first|omega|exact rfl|exact trivial|exact Nat.le_of_ble_eq_true rfl|exact rows_all rfl|(simp only [List.length_cons,List.length_nil];omega)) ?_|refine And.intro ?_ trivial|with_reducible refine bk_true ?_|with_reducible refine bk_false ?_|refine ex_get rfl ?_|refine ex_cs rfl rfl ?_|refine ex_st rfl ?_|refine Or.inr (And.intro (by omega) ?_)|refine Or.inl (And.intro (by omega) ?_)|with_reducible refine bk_nt ?_|with_reducible refine bk_nf ?_|refine joinK.here ?_)<;>conv=>whnf))))); exact h.of) : p := e ⟨h⟩
theorem hkL {p : Prop} (h : p := by ((refine ⟨⟨rfl,rfl⟩,?_,?_⟩<;>((repeat'(first|exact TLe.nil|exact HLe.nil _|refine TLe.cons ?_ ?_|refine HLe.cons ?_ ?_|exact KLe.ptr rfl|exact KLe.sl rfl (.inl rfl)|exact KLe.csl rfl|exact KLe.mpr rfl|refine KLe.pe ?_|refine KLe.tup ?_|refine KLe.agg ?_|refine BLe.pe ?_|refine BLe.mpe ?_|refine BLe.ghe ?_|refine BLe.axe ?_ ?_|refine BLe.mx ?_|exact KLeL.nil|refine KLe.fn ?_ ?_|refine KLeL.cons ?_ ?_|exact KLe.und _|exact BLe.dead _))<;>(try with_reducible rfl)))<;>(first|rfl|((refine congrArg (PV.int IntKind.i64) ?_)<;>(first|rfl|omega|(rw [add64 (by omega) (by omega)];omega)|(rw [sub64 (by omega) (by omega)];omega)))|skip))) : p := h
theorem hkE {p : Prop} (h : p := by (refine ⟨_,_,⟨rfl,rfl⟩,⟨rfl,rfl⟩,?_,?_⟩<;>((repeat'(first|exact TLe.nil|exact HLe.nil _|refine TLe.cons ?_ ?_|refine HLe.cons ?_ ?_|exact KLe.ptr rfl|exact KLe.sl rfl (.inl rfl)|exact KLe.csl rfl|exact KLe.mpr rfl|refine KLe.pe ?_|refine KLe.tup ?_|refine KLe.agg ?_|refine BLe.pe ?_|refine BLe.mpe ?_|refine BLe.ghe ?_|refine BLe.axe ?_ ?_|refine BLe.mx ?_|exact KLeL.nil|refine KLe.fn ?_ ?_|refine KLeL.cons ?_ ?_|exact KLe.und _|exact BLe.dead _))<;>(try with_reducible rfl)))) : p := h
theorem hkN {p : Prop} (h : p := by ((refine congrArg (PV.int IntKind.i64) ?_)<;>(first|rfl|omega|(rw [add64 (by omega) (by omega)];omega)|(rw [sub64 (by omega) (by omega)];omega)))) : p := h
end Hk
namespace Hk
instance {n : Nat} : OfNat Opd n := ⟨.t n⟩
abbrev I (n : Int) : Opd := .c (.int .i64 n)
abbrev B (n : Int) : Opd := .c (.int .u8 n)
abbrev TT : Opd := .c (.b true)
abbrev FF : Opd := .c (.b false)
abbrev D (d : Nat) (o : RO) : It := ⟨none, some d, o⟩
abbrev N (o : RO) : It := ⟨none, none, o⟩
abbrev Y (g d : Nat) (o : RO) : It := ⟨some (g, true), some d, o⟩
abbrev Z (g d : Nat) (o : RO) : It := ⟨some (g, false), some d, o⟩
abbrev YN (g : Nat) (o : RO) : It := ⟨some (g, true), none, o⟩
abbrev ZN (g : Nat) (o : RO) : It := ⟨some (g, false), none, o⟩
end Hk
namespace Go.Proofs
open Go.Shelf
def Tryz.laysSort_ren : Go.Shelf.Ren := ⟨fun | 189 => 96 | 125 => 161 | 257 => 160 | 128 => 210 | 129 => 211 | 294 => 201 | 295 => 202 | 296 => 203 | 297 => 204 | 298 => 205 | 299 => 206 | 216 => 207 | 300 => 208 | 301 => 209 | 328 => 246 | 329 => 247 | 330 => 248 | 331 => 249 | 332 => 250 | 215 => 251 | 343 => 261 | n => n, fun | 28 => 26 | 3 => 3 | 46 => 219 | 0 => 0 | 51 => 267 | 53 => 29 | 4 => 4 | 183 => 261 | 182 => 260 | 131 => 170 | 5 => 5 | 9 => 9 | 218 => 299 | 222 => 290 | 228 => 315 | 229 => 316 | n => n, fun | n => n⟩
theorem Tryz.laysSort : Go.Proofs.Lays.n189 Tryz.prog Tryz.laysSort_ren := {
 mixed := by kernel_rfl
 f125 := Tryz.func161.trans (congrArg some (by kernel_rfl))
 f128 := Tryz.func210.trans (congrArg some (by kernel_rfl))
 f129 := Tryz.func211.trans (congrArg some (by kernel_rfl))
 f189 := Tryz.func96.trans (congrArg some (by kernel_rfl))
 f215 := Tryz.func251.trans (congrArg some (by kernel_rfl))
 f216 := Tryz.func207.trans (congrArg some (by kernel_rfl))
 f257 := Tryz.func160.trans (congrArg some (by kernel_rfl))
 f294 := Tryz.func201.trans (congrArg some (by kernel_rfl))
 f295 := Tryz.func202.trans (congrArg some (by kernel_rfl))
 f296 := Tryz.func203.trans (congrArg some (by kernel_rfl))
 f297 := Tryz.func204.trans (congrArg some (by kernel_rfl))
 f298 := Tryz.func205.trans (congrArg some (by kernel_rfl))
 f299 := Tryz.func206.trans (congrArg some (by kernel_rfl))
 f300 := Tryz.func208.trans (congrArg some (by kernel_rfl))
 f301 := Tryz.func209.trans (congrArg some (by kernel_rfl))
 f328 := Tryz.func246.trans (congrArg some (by kernel_rfl))
 f329 := Tryz.func247.trans (congrArg some (by kernel_rfl))
 f330 := Tryz.func248.trans (congrArg some (by kernel_rfl))
 f331 := Tryz.func249.trans (congrArg some (by kernel_rfl))
 f332 := Tryz.func250.trans (congrArg some (by kernel_rfl))
 f343 := Tryz.func261.trans (congrArg some (by kernel_rfl))
 t0 := Tryz.underlying0
 a0 := Tryz.isAgg0
 z0 := Tryz.sizeOf0
 v0 := Tryz.zeroValue0
 t3 := Tryz.underlying3
 a3 := Tryz.isAgg3
 z3 := Tryz.sizeOf3
 v3 := Tryz.zeroValue3
 t4 := Tryz.underlying4
 a4 := Tryz.isAgg4
 z4 := Tryz.sizeOf4
 v4 := Tryz.zeroValue4
 t5 := Tryz.underlying5
 a5 := Tryz.isAgg5
 z5 := Tryz.sizeOf5
 v5 := Tryz.zeroValue5
 t9 := Tryz.underlying9
 a9 := Tryz.isAgg9
 z9 := Tryz.sizeOf9
 v9 := Tryz.zeroValue9
 t28 := Tryz.underlying26
 a28 := Tryz.isAgg26
 z28 := Tryz.sizeOf26
 v28 := Tryz.zeroValue26
 t46 := Tryz.underlying219
 a46 := Tryz.isAgg219
 z46 := Tryz.sizeOf219
 v46 := Tryz.zeroValue219
 t51 := Tryz.underlying267
 a51 := Tryz.isAgg267
 z51 := Tryz.sizeOf267
 v51 := Tryz.zeroValue267
 t53 := Tryz.underlying29
 a53 := Tryz.isAgg29
 z53 := Tryz.sizeOf29
 v53 := Tryz.zeroValue29
 t131 := Tryz.underlying170
 a131 := Tryz.isAgg170
 z131 := Tryz.sizeOf170
 v131 := Tryz.zeroValue170
 t182 := Tryz.underlying260
 a182 := Tryz.isAgg260
 z182 := Tryz.sizeOf260
 v182 := Tryz.zeroValue260
 t183 := Tryz.underlying261
 a183 := Tryz.isAgg261
 z183 := Tryz.sizeOf261
 v183 := Tryz.zeroValue261
 t218 := Tryz.underlying299
 a218 := Tryz.isAgg299
 z218 := Tryz.sizeOf299
 v218 := Tryz.zeroValue299
 t222 := Tryz.underlying290
 a222 := Tryz.isAgg290
 z222 := Tryz.sizeOf290
 v222 := Tryz.zeroValue290
 t228 := Tryz.underlying315
 a228 := Tryz.isAgg315
 z228 := Tryz.sizeOf315
 v228 := Tryz.zeroValue315
 t229 := Tryz.underlying316
 a229 := Tryz.isAgg316
 z229 := Tryz.sizeOf316
 v229 := Tryz.zeroValue316 }
end Go.Proofs
namespace Hk
open Go Go.Proofs Go.Sort
set_option linter.unusedVariables false
set_option linter.unusedSimpArgs false
set_option maxRecDepth 100000
def rowI (z : Int) : List PV := [i64 z]
def sortI (l : List Int) : List Int := l.mergeSort fun x y => decide (x ≤ y)
theorem putCells_size {α : Type} [Inhabited α] (enc : α → Value) (off : Nat) (d : Array α) (c : Array Value) : (putCells enc off d c).size = c.size := by simp [putCells]
theorem sort_fn (zs : List Int) (hsz : zs.length < 4611686018427387904) :
 Fn Tryz.prog 96 [.sl 0 1 0 zs.length none] [.pr 1 (zs.map rowI)] [] (fun r H => r = .tup [] ∧ H = [.pr 1 ((sortI zs).map rowI)]) := by
 refine ⟨⟨_, rfl, by decide, rfl⟩, fun w ι vs hG hX hr hargs => ?_⟩
 have hv := hargs.2 0 _ rfl
 have hvs : vs = #[vs.getD 0 undef] := by
  apply Array.ext
  ·rw [hargs.1]; rfl
  ·intro i h1 h2
   simp at h2
   subst h2
   simp [h1]
 generalize vs.getD 0 undef = v at hv hvs
 subst hvs
 have none_case : ∀ oa, zs = [] → v = .slice oa 0 0 → Calls Tryz.prog 96 #[v] w fun e w' => ∃ r v ι' H', e = .returned v ∧ (r = .tup [] ∧ H' = [.pr 1 ((sortI zs).map rowI)]) ∧ [Blk.pr 1 (zs.map rowI)].length ≤ H'.length ∧ HRel ι' H' w' ∧ RA w' ι' r v ∧ (ι'.X = ι.X ∧ ¬ ι'.G) ∧
  (∀ c (o : Obj), ¬ ι.I c → w.heap[c]? = some o → w'.heap[c]? = some o) ∧ w.heap.size ≤ w'.heap.size ∧ (∀ c, ι'.I c → ι.I c ∨ w.heap.size ≤ c) ∧
  (w'.os = w.os ∧ w'.output = w.output) ∧ ∀ b, b < [Blk.pr 1 (zs.map rowI)].length → memN [] b = false → ι' b = ι b := by
  rintro oa rfl rfl
  refine (Any.slices_Sort_int_none Tryz.laysSort oa 0 w).mono ?_
  rintro e w' ⟨rfl, rfl⟩
  refine ⟨.tup [], _, ι, _, rfl, ⟨rfl, rfl⟩, Nat.le_refl _, ?_, .tup rfl (fun i x h => by simp at h), ⟨rfl, hG⟩, fun _ _ _ h => h, Nat.le_refl _, fun _ h => .inl h, ⟨rfl, rfl⟩, fun _ _ _ => rfl⟩
  have : sortI [] = [] := by simp [sortI]
  rw [this]; exact hr
 generalize hn : (zs.length : Nat) = n at hv
 cases hv with
 | slz hcap => exact none_case _ (List.eq_nil_of_length_eq_zero hn) rfl
 | sl hb hl hcap hs =>
   rename_i c o s cc
   subst hn
   have h0 := hr.blk 0
   have hnth : nth Blk.dead [Blk.pr 1 (zs.map rowI)] 0 = .pr 1 (zs.map rowI) := rfl
   rw [hnth, hb] at h0
   rcases h0 with ⟨h0, _⟩ | ⟨c', o', s', cs, ty, fz, he, h1, hth, h2, h3, h4, h5⟩
   ·cases h0
   cases he
   simp only [Nat.zero_mul, Nat.add_zero, Nat.mul_one, List.length_map] at *
   have hlt : c < w.heap.size := (Array.getElem?_eq_some_iff.1 h1).1
   have hcell : ∀ (j : Nat) (z : Int), zs[j]? = some z → cs[o + j]? = some (.int .i64 z) := fun j z hz => by
    obtain ⟨_, v, hv, hp⟩ := h5 j (rowI z) 0 (i64 z) (by rw [List.getElem?_map, hz]; rfl) rfl
    rw [Nat.add_zero] at hv
    rw [hv, plain_val hp rfl]; rfl
   have hH : Holds (Value.int .i64) w c o zs.toArray := by
    intro j hj
    have hj' : j < zs.length := by simpa using hj
    have hz : zs[j]? = some zs[j] := List.getElem?_eq_getElem hj'
    refine ⟨?_, ?_⟩
    ·rw [cell_of h1, hcell j _ hz]
     simp [hj']
    ·have := hth (o + j) (by omega)
     simp only [World.frozen?, h1]
     simpa using this
   refine (Any.slices_Sort_int Tryz.laysSort c o cc zs w hH hlt hsz).mono ?_
   rintro e w' ⟨rfl, n, os, rfl⟩
   have hsl : (sortI zs).length = zs.length := by simp [sortI]
   let W' := grow (putRow (Value.int .i64) (Sort.ahead w n) c o (sortI zs).toArray) os
   have hnew : W'.heap[c]? = some (.cells (putCells (Value.int .i64) o (sortI zs).toArray cs) ty fz) := by
    show (grow _ _).heap[c]? = _
    rw [heap_grow_old _ _ (by simpa [putRow, mapBlock, Sort.ahead] using hlt)]
    simp [putRow, mapBlock, Sort.ahead, Array.getElem?_modify, h1, onCells]
   have hold : ∀ (d : Nat) (x : Obj), d ≠ c → w.heap[d]? = some x → W'.heap[d]? = some x := fun d x hd hx => by
    have hdl := (Array.getElem?_eq_some_iff.1 hx).1
    show (grow _ _).heap[d]? = _
    rw [heap_grow_old _ _ (by simpa [putRow, mapBlock, Sort.ahead] using hdl)]
    simp [putRow, mapBlock, Sort.ahead, Array.getElem?_modify, hx, Ne.symm hd]
   have hgrow : w.heap.size ≤ W'.heap.size := by
    show _ ≤ (grow _ _).heap.size
    simp [grow, putRow, mapBlock, Sort.ahead]
   have hIc : ι.I c := ⟨0, o, _, hb⟩
   have hL : Later ι.M w W' ι.M := ⟨fun d x hd hx => hold d x (fun e => hd (by subst e; exact .inl hIc)) hx, fun d hd => .inl hd, hgrow⟩
   refine ⟨.tup [], _, ι, _, rfl, ⟨rfl, rfl⟩, Nat.le_refl _, ⟨hr.gl.later hL, fun b => ?_, hr.inj, hr.dis⟩, .tup rfl (fun i x h => by simp at h), ⟨rfl, hG⟩, fun d x hd hx => hold d x (fun e => hd (e ▸ hIc)) hx, hgrow, fun _ h => .inl h, ⟨rfl, rfl⟩, fun _ _ _ => rfl⟩
   cases b with
   | zero =>
     show RB W' ι (ι 0) (.pr 1 ((sortI zs).map rowI))
     rw [hb]
     refine .inr ⟨c, o, _, _, ty, fz, rfl, hnew, by rw [putCells_size]; exact hth, by rw [putCells_size]; exact h2, by simp [hsl]; omega, fun i row hi => ?_, fun i row j x hi hx => ?_⟩
     ·rw [List.getElem?_map] at hi
      obtain ⟨z, _, rfl⟩ := Option.map_eq_some_iff.1 hi
      rfl
     ·rw [List.getElem?_map] at hi
      obtain ⟨z, hz, rfl⟩ := Option.map_eq_some_iff.1 hi
      have hil := (List.getElem?_eq_some_iff.1 hz).1
      cases j with
      | succ j => simp [rowI] at hx
      | zero =>
        simp only [rowI, List.getElem?_cons_zero, Option.some.injEq] at hx
        subst hx
        refine ⟨rfl, .int .i64 z, ?_, .int _ _⟩
        have : o + i < cs.size := by omega
        simp only [putCells, Nat.mul_one, Nat.add_zero]
        rw [Array.getElem?_mapIdx]
        have e : (sortI zs)[i] = z := (List.getElem?_eq_some_iff.1 hz).2
        have e2 : (sortI zs).toArray[i]! = z := by rw [getElem!_pos _ i (by simpa using hil)]; simpa using e
        have c1 : o ≤ o + i ∧ o + i < o + (sortI zs).toArray.size := ⟨by omega, by simp; omega⟩
        have c2 : o + i - o = i := by omega
        simp [this, hil, e, e2, c1, c2]
   | succ b =>
     have := hr.blk (b + 1)
     have e : nth Blk.dead [Blk.pr 1 (zs.map rowI)] (b + 1) = .dead := by cases b <;> rfl
     have e2 : nth Blk.dead [Blk.pr 1 ((sortI zs).map rowI)] (b + 1) = .dead := by cases b <;> rfl
     rw [e] at this
     rw [e2]; exact this
end Hk
namespace Hk
open Go Go.Proofs
set_option maxRecDepth 100000
def rf159 : RFn := ⟨2, 19, [.tmp 4], .seq (.ops [D 4 (.mov (I 0))])
(.seq (.seq (.ops [D 6 (.mov 0),
D 7 (.len 6),
D 8 (.mov (I 0))])
(.block 0 (.loop [0, 1, 7, 8] (.seq (.ops [D 9 (.bin .lss 8 7)])
(.seq (.cond 9 (.skip) (.exit 0))
(.seq (.block 1 (.seq (.ops [D 10 (.mov 8),
D 5 (.mov 10)])
(.seq (.ops [D 11 (.mov 1),
D 12 (.mov 0),
D 13 (.mov 5),
D 14 (.idxS 12 13 1),
D 15 (.load 14 1 false),
D 16 (.callv 11 [15])])
(.cond 16 (.seq (.ops [D 17 (.mov 5),
D 4 (.mov 17)])
(.ret)) (.skip)))))
(.ops [D 18 (.bin .add 8 (I 1)),
D 8 (.mov 18)])))))))
(.seq (.ops [D 4 (.mov (I (-1)))])
(.ret)))⟩
theorem rf159_eq : cfnAt Tryz.prog 159 [[0, 1, 7, 8]] = some rf159 := by kernel_rfl
def rf146 : RFn := ⟨2, 9, [.tmp 4], .seq (.ops [D 4 (.mov FF)])
(.seq (.ops [D 5 (.mov 0),
D 6 (.mov 1),
D 7 (.call 159 [5, 6]),
D 8 (.bin .geq 7 (I 0)),
D 4 (.mov 8)])
(.ret))⟩
theorem rf146_eq : cfnAt Tryz.prog 146 [] = some rf146 := by kernel_rfl
def rf94 : RFn := ⟨1, 8, [.tmp 2], .seq (.ops [D 2 (.mov (.c (.isl 0 [] (some 0))))])
(.seq (.seq (.ops [D 3 (.mov 0),
D 4 (.snil false 3)])
(.cond 4 (.seq (.ops [D 2 (.mov (.c (.isl 0 [] (some 0))))])
(.ret)) (.skip)))
(.seq (.ops [D 5 (.bslice 1 []),
D 6 (.mov 0),
D 7 (.app 5 6 1 8),
D 2 (.mov 7)])
(.ret)))⟩
theorem rf94_eq : cfnAt Tryz.prog 94 [] = some rf94 := by kernel_rfl
def rf93 : RFn := ⟨2, 42, [.tmp 4], .seq (.ops [D 4 (.mov (.c (.isl 0 [] (some 0))))])
(.seq (.ops [D 8 (.mov 0),
D 9 (.mov 1),
D 10 (.call 159 [8, 9]),
D 5 (.mov 10)])
(.seq (.seq (.ops [D 11 (.mov 5),
D 12 (.bin .eql 11 (I (-1)))])
(.cond 12 (.seq (.ops [D 13 (.mov 0),
D 4 (.mov 13)])
(.ret)) (.skip)))
(.seq (.seq (.ops [D 14 (.mov 5),
D 15 (.bin .add 14 (I 1)),
D 6 (.mov 15)])
(.block 0 (.loop [0, 1, 5, 6] (.seq (.seq (.ops [D 16 (.mov 6),
D 17 (.mov 0),
D 18 (.len 17),
D 19 (.bin .lss 16 18)])
(.cond 19 (.skip) (.exit 0)))
(.seq (.block 1 (.seq (.ops [D 22 (.mov 0),
D 23 (.mov 6),
D 24 (.idxS 22 23 1),
D 25 (.load 24 1 false),
D 7 (.mov 25)])
(.seq (.ops [D 26 (.mov 1),
D 27 (.mov 7),
D 28 (.callv 26 [27]),
D 29 (.un .not 28)])
(.cond 29 (.seq (.ops [D 30 (.mov 0),
D 31 (.mov 5),
D 32 (.mov 7),
D 33 (.idxS 30 31 1),
N (.store 33 32 1)])
(.ops [D 34 (.mov 5),
D 35 (.bin .add 34 (I 1)),
D 5 (.mov 35)])) (.skip)))))
(.ops [D 20 (.mov 6),
D 21 (.bin .add 20 (I 1)),
D 6 (.mov 21)]))))))
(.seq (.ops [D 36 (.mov 0),
D 37 (.mov 5),
D 38 (.slcS 36 (some 37) none none 1),
N (.clr 38 [(.int .i64 0)] 1)])
(.seq (.ops [D 39 (.mov 0),
D 40 (.mov 5),
D 41 (.slcS 39 none (some 40) none 1),
D 4 (.mov 41)])
(.ret))))))⟩
theorem rf93_eq : cfnAt Tryz.prog 93 [[0, 1, 5, 6]] = some rf93 := by kernel_rfl
def rf176 : RFn := ⟨1, 61, [.tmp 2], .seq (.ops [D 2 (.mov (.c (.isl 0 [] (some 0))))])
(.seq (.seq (.ops [D 6 (.mov 0),
D 7 (.len 6),
D 8 (.bin .lss 7 (I 2))])
(.cond 8 (.seq (.ops [D 9 (.mov 0),
D 2 (.mov 9)])
(.ret)) (.skip)))
(.seq (.seq (.ops [D 3 (.mov (I 1))])
(.block 0 (.loop [0, 3] (.seq (.seq (.ops [D 10 (.mov 3),
D 11 (.mov 0),
D 12 (.len 11),
D 13 (.bin .lss 10 12)])
(.cond 13 (.skip) (.exit 0)))
(.seq (.block 1 (.seq (.draw (.take (D 16 (.mov 0))<|
.take (D 17 (.mov 3))<|
.take (D 18 (.idxS 16 17 1))<|
.take (D 19 (.load 18 1 false))<|
.take (D 20 (.mov 0))<|
.take (D 21 (.mov 3))<|
.take (D 22 (.bin .sub 21 (I 1)))<|
.take (D 23 (.idxS 20 22 1))<|
.take (D 24 (.load 23 1 false))<|
.take (D 25 (.bin .eql 19 24))<|
.done))
(.cond 25 (.seq (.ops [D 26 (.mov 0),
D 27 (.mov 3),
D 28 (.slcS 26 (some 27) none none 1),
D 4 (.mov 28)])
(.seq (.seq (.ops [D 5 (.mov (I 1))])
(.block 2 (.loop [0, 3, 4, 5] (.seq (.seq (.ops [D 29 (.mov 5),
D 30 (.mov 4),
D 31 (.len 30),
D 32 (.bin .lss 29 31)])
(.cond 32 (.skip) (.exit 2)))
(.seq (.block 3 (.seq (.draw (.take (D 35 (.mov 4))<|
.take (D 36 (.mov 5))<|
.take (D 37 (.idxS 35 36 1))<|
.take (D 38 (.load 37 1 false))<|
.take (D 39 (.mov 4))<|
.take (D 40 (.mov 5))<|
.take (D 41 (.bin .sub 40 (I 1)))<|
.take (D 42 (.idxS 39 41 1))<|
.take (D 43 (.load 42 1 false))<|
.take (D 44 (.bin .neq 38 43))<|
.done))
(.cond 44 (.seq (.ops [D 45 (.mov 0),
D 46 (.mov 3),
D 47 (.mov 4),
D 48 (.mov 5),
D 49 (.idxS 47 48 1),
D 50 (.load 49 1 false),
D 51 (.idxS 45 46 1),
N (.store 51 50 1)])
(.ops [D 52 (.mov 3),
D 53 (.bin .add 52 (I 1)),
D 3 (.mov 53)])) (.skip))))
(.ops [D 33 (.mov 5),
D 34 (.bin .add 33 (I 1)),
D 5 (.mov 34)]))))))
(.seq (.ops [D 54 (.mov 0),
D 55 (.mov 3),
D 56 (.slcS 54 (some 55) none none 1),
N (.clr 56 [(.int .i64 0)] 1)])
(.seq (.ops [D 57 (.mov 0),
D 58 (.mov 3),
D 59 (.slcS 57 none (some 58) none 1),
D 2 (.mov 59)])
(.ret))))) (.skip))))
(.ops [D 14 (.mov 3),
D 15 (.bin .add 14 (I 1)),
D 3 (.mov 15)]))))))
(.seq (.ops [D 60 (.mov 0),
D 2 (.mov 60)])
(.ret))))⟩
theorem rf176_eq : cfnAt Tryz.prog 176 [[0, 3], [0, 3, 4, 5]] = some rf176 := by kernel_rfl
def rf129 : RFn := ⟨2, 26, [.tmp 4], .seq (.ops [D 4 (.mov FF)])
(.seq (.seq (.ops [D 6 (.mov 0),
D 7 (.len 6),
D 8 (.mov 1),
D 9 (.len 8),
D 10 (.bin .neq 7 9)])
(.cond 10 (.seq (.ops [D 4 (.mov FF)])
(.ret)) (.skip)))
(.seq (.seq (.ops [D 11 (.mov 0),
D 12 (.len 11),
D 13 (.mov (I 0))])
(.block 0 (.loop [0, 1, 12, 13] (.seq (.ops [D 14 (.bin .lss 13 12)])
(.seq (.cond 14 (.skip) (.exit 0))
(.seq (.block 1 (.seq (.ops [D 15 (.mov 13),
D 5 (.mov 15)])
(.seq (.draw (.take (D 16 (.mov 0))<|
.take (D 17 (.mov 5))<|
.take (D 18 (.idxS 16 17 1))<|
.take (D 19 (.load 18 1 false))<|
.take (D 20 (.mov 1))<|
.take (D 21 (.mov 5))<|
.take (D 22 (.idxS 20 21 1))<|
.take (D 23 (.load 22 1 false))<|
.take (D 24 (.bin .neq 19 23))<|
.done))
(.cond 24 (.seq (.ops [D 4 (.mov FF)])
(.ret)) (.skip)))))
(.ops [D 25 (.bin .add 13 (I 1)),
D 13 (.mov 25)])))))))
(.seq (.ops [D 4 (.mov TT)])
(.ret))))⟩
theorem rf129_eq : cfnAt Tryz.prog 129 [[0, 1, 12, 13]] = some rf129 := by kernel_rfl
end Hk
namespace Hk
open Go Go.Proofs
set_option maxRecDepth 100000
def rf114 : RFn := ⟨1, 18, [.tmp 2], .seq (.ops [D 1 (.box false 0 8),
D 2 (.mov FF)])
(.seq (.ops [D 4 (.load 1 8 true),
D 5 (.call 169 [4]),
D 3 (.alloc false [(.int .i64 0), (.int .i64 0)]),
N (.store 3 5 2)])
(.seq (.ops [D 6 (.fadr 3 0),
D 7 (.load 6 1 false),
D 8 (.bin .leq 7 (I 300)),
D 9 (.mov 8),
Y 9 10 (.fadr 3 1),
Y 9 11 (.load 10 1 false),
Y 9 12 (.bin .leq 11 (I 30)),
D 13 (.pick 9 12 FF),
D 14 (.mov 13),
Y 14 15 (.load 1 8 true),
Y 14 16 (.call 170 [15]),
D 17 (.pick 14 16 FF),
D 2 (.mov 17)])
(.ret)))⟩
theorem rf114_eq : cfnAt Tryz.prog 114 [] = some rf114 := by kernel_rfl
def rf169 : RFn := ⟨1, 10, [.cell 2 2 true], .seq (.ops [D 1 (.box false 0 8),
D 2 (.alloc false [(.int .i64 0), (.int .i64 0)])])
(.seq (.ops [D 3 (.alloc false [(.int .i64 0), (.int .i64 0)])])
(.seq (.ops [D 5 (.mkfn 224 [3] []),
D 4 (.mov 5)])
(.seq (.ops [D 6 (.mov 4),
D 7 (.load 1 8 true),
D 8 (.callv 6 [7, (I 1)])])
(.seq (.ops [D 9 (.load 3 2 true),
N (.store 2 9 2)])
(.ret)))))⟩
theorem rf169_eq : cfnAt Tryz.prog 169 [] = some rf169 := by kernel_rfl
def rf224 : RFn := ⟨3, 39, [], .seq (.ops [D 4 (.box false 1 8)])
(.seq (.ops [D 7 (.mov 0),
D 8 (.nilchk 7),
D 9 (.fadr 8 0),
D 10 (.load 9 1 false),
D 11 (.bin .add 10 (I 1)),
D 12 (.nilchk 7),
D 13 (.fadr 12 0),
N (.store 13 11 1)])
(.seq (.ops [D 14 (.mov 0),
D 15 (.mov 0),
D 16 (.nilchk 15),
D 17 (.fadr 16 1),
D 18 (.load 17 1 false),
D 19 (.mov 2),
D 20 (.mm true 18 19),
D 21 (.nilchk 14),
D 22 (.fadr 21 1),
N (.store 22 20 1)])
(.seq (.ops [D 23 (.fadr 4 5),
D 24 (.load 23 1 false),
D 25 (.len 24),
D 26 (.mov (I 0))])
(.block 0 (.loop [0, 2, 4, 25, 26] (.seq (.ops [D 27 (.bin .lss 26 25)])
(.seq (.cond 27 (.skip) (.exit 0))
(.seq (.block 1 (.seq (.ops [D 28 (.mov 26),
D 6 (.mov 28)])
(.ops [D 29 (.mov 0),
D 30 (.fadr 4 5),
D 31 (.load 30 1 false),
D 32 (.mov 6),
D 33 (.idxS 31 32 8),
D 34 (.load 33 8 true),
D 35 (.mov 2),
D 36 (.bin .add 35 (I 1)),
D 37 (.call 224 [29, 34, 36])])))
(.ops [D 38 (.bin .add 26 (I 1)),
D 26 (.mov 38)])))))))))⟩
theorem rf224_eq : cfnAt Tryz.prog 224 [[0, 2, 4, 25, 26]] = some rf224 := by kernel_rfl
def rf170 : RFn := ⟨1, 11, [.tmp 2], .seq (.ops [D 1 (.box false 0 8),
D 2 (.mov FF)])
(.seq (.ops [D 3 (.load 1 8 true),
D 4 (.call 225 [3]),
D 5 (.mov 4),
Y 5 6 (.fadr 1 5),
Y 5 7 (.load 6 1 false),
Y 5 8 (.call 112 [7, (.c (.fn 226 [] []))]),
Y 5 9 (.un .not 8),
D 10 (.pick 5 9 FF),
D 2 (.mov 10)])
(.ret))⟩
theorem rf170_eq : cfnAt Tryz.prog 170 [] = some rf170 := by kernel_rfl
def rf226 : RFn := ⟨1, 6, [.tmp 2], .seq (.ops [D 1 (.box false 0 8),
D 2 (.mov FF)])
(.seq (.ops [D 3 (.load 1 8 true),
D 4 (.call 170 [3]),
D 5 (.un .not 4),
D 2 (.mov 5)])
(.ret))⟩
theorem rf226_eq : cfnAt Tryz.prog 226 [] = some rf226 := by kernel_rfl
def rf225 : RFn := ⟨1, 71, [.tmp 2], .seq (.ops [D 1 (.box false 0 8),
D 2 (.mov FF)])
(.seq (.ops [D 4 (.load 1 8 true),
D 5 (.call 257 [4]),
D 3 (.alloc false [(.int .i64 0), (.int .i64 0), (.int .i64 0), (.int .i64 0), (.int .u64 0), (.int .u64 0), (.int .u64 0), (.int .u64 0)]),
N (.store 3 5 8)])
(.seq (.seq (.ops [D 6 (.fadr 1 0),
D 7 (.load 6 1 false)])
(.block 0 (.seq (.ops [D 9 (.bin .eql 7 (I 0)),
D 8 (.mov 9)])
(.cond 8 (.seq (.ops [D 10 (.load 3 8 true),
D 11 (.build [(.int .i64 0), (.int .i64 0), (.int .i64 0), (.int .i64 0), (.int .u64 0), (.int .u64 0), (.int .u64 0), (.int .u64 0)] []),
D 12 (.cmpa false [(.int .i64), (.int .i64), (.int .i64), (.int .i64), (.int .u64), (.int .u64), (.int .u64), (.int .u64)] 10 11),
D 2 (.mov 12)])
(.ret)) (.seq (.ops [D 14 (.bin .eql 7 (I 1)),
D 13 (.mov 14)])
(.cond 13 (.seq (.ops [D 15 (.load 3 8 true),
D 16 (.fadr 1 1),
D 17 (.load 16 4 true),
D 18 (.build [(.int .i64 0), (.int .i64 0), (.int .i64 0), (.int .i64 0), (.int .u64 0), (.int .u64 0), (.int .u64 0), (.int .u64 0)] [(0, 1, (I 1)), (4, 4, 17)]),
D 19 (.cmpa false [(.int .i64), (.int .i64), (.int .i64), (.int .i64), (.int .u64), (.int .u64), (.int .u64), (.int .u64)] 15 18),
D 2 (.mov 19)])
(.ret)) (.seq (.seq (.ops [D 21 (.bin .eql 7 (I 2)),
D 20 (.mov 21)])
(.cond 20 (.skip) (.ops [D 22 (.bin .eql 7 (I 3)),
D 20 (.mov 22)])))
(.cond 20 (.seq (.ops [D 23 (.load 3 8 true),
D 24 (.fadr 1 0),
D 25 (.load 24 1 false),
D 26 (.fadr 1 5),
D 27 (.load 26 1 false),
D 28 (.len 27),
D 29 (.build [(.int .i64 0), (.int .i64 0), (.int .i64 0), (.int .i64 0), (.int .u64 0), (.int .u64 0), (.int .u64 0), (.int .u64 0)] [(0, 1, 25), (3, 1, 28)]),
D 30 (.cmpa false [(.int .i64), (.int .i64), (.int .i64), (.int .i64), (.int .u64), (.int .u64), (.int .u64), (.int .u64)] 23 29),
D 31 (.mov 30),
Y 31 32 (.fadr 1 5),
Y 31 33 (.load 32 1 false),
Y 31 34 (.len 33),
Y 31 35 (.bin .gtr 34 (I 1)),
D 36 (.pick 31 35 FF),
D 2 (.mov 36)])
(.ret)) (.seq (.ops [D 38 (.bin .eql 7 (I 4)),
D 37 (.mov 38)])
(.cond 37 (.seq (.seq (.ops [D 39 (.load 3 8 true),
D 40 (.fadr 1 6),
D 41 (.load 40 1 false),
D 42 (.fadr 1 7),
D 43 (.load 42 1 false),
D 44 (.build [(.int .i64 0), (.int .i64 0), (.int .i64 0), (.int .i64 0), (.int .u64 0), (.int .u64 0), (.int .u64 0), (.int .u64 0)] [(0, 1, (I 4)), (3, 1, (I 1)), (1, 1, 41), (2, 1, 43)]),
D 45 (.cmpa true [(.int .i64), (.int .i64), (.int .i64), (.int .i64), (.int .u64), (.int .u64), (.int .u64), (.int .u64)] 39 44),
D 46 (.mov 45),
Z 46 47 (.fadr 1 6),
Z 46 48 (.load 47 1 false),
Z 46 49 (.bin .lss 48 (I 0)),
D 50 (.pick 46 TT 49),
D 51 (.mov 50),
Z 51 52 (.fadr 1 6),
Z 51 53 (.load 52 1 false),
Z 51 54 (.bin .gtr 53 (I 64)),
D 55 (.pick 51 TT 54)])
(.cond 55 (.seq (.ops [D 2 (.mov FF)])
(.ret)) (.skip)))
(.seq (.ops [D 56 (.fadr 1 7),
D 57 (.load 56 1 false),
D 58 (.bin .eql 57 (I (-1))),
D 59 (.mov 58),
Z 59 60 (.fadr 1 7),
Z 59 61 (.load 60 1 false),
Z 59 62 (.fadr 1 6),
Z 59 63 (.load 62 1 false),
Z 59 64 (.bin .geq 61 63),
Z 59 65 (.mov 64),
Y 65 66 (.fadr 1 7),
Y 65 67 (.load 66 1 false),
Y 65 68 (.bin .leq 67 (I 64)),
Z 59 69 (.pick 65 68 FF),
D 70 (.pick 59 TT 69),
D 2 (.mov 70)])
(.ret))) (.skip)))))))))))
(.seq (.ops [D 2 (.mov FF)])
(.ret))))⟩
theorem rf225_eq : cfnAt Tryz.prog 225 [] = some rf225 := by kernel_rfl
def rf257 : RFn := ⟨1, 15, [.cell 2 8 true], .seq (.ops [D 1 (.box false 0 8),
D 2 (.alloc false [(.int .i64 0), (.int .i64 0), (.int .i64 0), (.int .i64 0), (.int .u64 0), (.int .u64 0), (.int .u64 0), (.int .u64 0)])])
(.seq (.ops [D 3 (.fadr 1 0),
D 4 (.load 3 1 false),
D 5 (.fadr 1 6),
D 6 (.load 5 1 false),
D 7 (.fadr 1 7),
D 8 (.load 7 1 false),
D 9 (.fadr 1 5),
D 10 (.load 9 1 false),
D 11 (.len 10),
D 12 (.fadr 1 1),
D 13 (.load 12 4 true),
D 14 (.build [(.int .i64 0), (.int .i64 0), (.int .i64 0), (.int .i64 0), (.int .u64 0), (.int .u64 0), (.int .u64 0), (.int .u64 0)] [(0, 1, 4), (1, 1, 6), (2, 1, 8), (3, 1, 11), (4, 4, 13)]),
N (.store 2 14 8)])
(.ret))⟩
theorem rf257_eq : cfnAt Tryz.prog 257 [] = some rf257 := by kernel_rfl
def rf264 : RFn := ⟨1, 60, [.cell 2 10 true], .seq (.ops [D 1 (.box false 0 8),
D 2 (.alloc false ([(.b false), (.b false)] ++ List.replicate 8 (.int .u64 0)))])
(.seq (.ops [D 7 (.build [(.lit .nilFunc), (.lit .nilFunc), (.lit .nilFunc), (.lit .nilFunc)] [(2, 1, (.c (.fn 265 [] []))), (3, 1, (.c (.fn 266 [] [])))]),
D 3 (.alloc true [(.lit .nilFunc), (.lit .nilFunc), (.lit .nilFunc), (.lit .nilFunc)]),
N (.store 3 7 4)])
(.seq (.seq (.ops [D 8 (.fadr 1 0),
D 9 (.load 8 1 false)])
(.block 0 (.seq (.ops [D 11 (.bin .eql 9 (I 1)),
D 10 (.mov 11)])
(.cond 10 (.seq (.draw (.take (D 12 (.fadr 1 1))<|
.take (D 13 (.load 12 4 true))<|
.take (D 14 (.build [(.int .u64 0), (.int .u64 0), (.int .u64 0), (.int .u64 0)] []))<|
.take (D 15 (.cmpa false [(.int .u64), (.int .u64), (.int .u64), (.int .u64)] 13 14))<|
.take (D 16 (.fadr 1 1))<|
.take (D 17 (.load 16 4 true))<|
.take (D 18 (.fadr 1 1))<|
.take (D 19 (.load 18 4 true))<|
.take (D 20 (.build ([(.b false), (.b false)] ++ List.replicate 8 (.int .u64 0)) [(0, 1, 15), (2, 4, 17), (6, 4, 19)]))<|
.alt (N (.store 2 20 10)) true (.done)
(.noalt)))
(.ret)) (.seq (.seq (.ops [D 22 (.bin .eql 9 (I 2)),
D 21 (.mov 22)])
(.cond 21 (.skip) (.ops [D 23 (.bin .eql 9 (I 3)),
D 21 (.mov 23)])))
(.cond 21 (.seq (.ops [D 24 (.fadr 1 5),
D 25 (.load 24 1 false),
D 26 (.idxS 25 (I 0) 8),
D 27 (.load 26 8 true),
D 28 (.call 264 [27]),
D 4 (.alloc false ([(.b false), (.b false)] ++ List.replicate 8 (.int .u64 0))),
N (.store 4 28 10)])
(.seq (.seq (.ops [D 29 (.fadr 1 5),
D 30 (.load 29 1 false),
D 31 (.slcS 30 (some (I 1)) none none 8),
D 32 (.len 31),
D 33 (.mov (I 0))])
(.block 1 (.loop [1, 2, 3, 4, 31, 32, 33] (.seq (.ops [D 34 (.bin .lss 33 32)])
(.seq (.cond 34 (.skip) (.exit 1))
(.seq (.block 2 (.seq (.ops [D 35 (.idxS 31 33 8),
D 36 (.load 35 8 true),
D 6 (.alloc false [(.int .i64 0), (.int .u64 0), (.int .u64 0), (.int .u64 0), (.int .u64 0), (.isl 0 [] (some 0)), (.int .i64 0), (.int .i64 0)]),
N (.store 6 36 8)])
(.draw (.take (D 37 (.fadr 1 0))<|
.take (D 38 (.load 37 1 false))<|
.take (D 39 (.idxA 3 38 4 1))<|
.take (D 40 (.load 39 1 false))<|
.take (D 41 (.load 4 10 true))<|
.take (D 42 (.load 6 8 true))<|
.alt (D 43 (.call 264 [42])) false (.alt (D 44 (.callv 40 [41, 43])) true (.alt (N (.store 4 44 10)) true (.done)
(.noalt))
(.noalt))
(.noalt)))))
(.ops [D 45 (.bin .add 33 (I 1)),
D 33 (.mov 45)])))))))
(.seq (.ops [D 46 (.load 4 10 true),
N (.store 2 46 10)])
(.ret)))) (.seq (.ops [D 48 (.bin .eql 9 (I 4)),
D 47 (.mov 48)])
(.cond 47 (.seq (.draw (.take (D 49 (.fadr 1 5))<|
.take (D 50 (.load 49 1 false))<|
.take (D 51 (.idxS 50 (I 0) 8))<|
.take (D 52 (.load 51 8 true))<|
.take (D 54 (.fadr 1 6))<|
.take (D 55 (.load 54 1 false))<|
.take (D 56 (.fadr 1 7))<|
.take (D 57 (.load 56 1 false))<|
.alt (D 53 (.call 264 [52])) false (.alt (D 58 (.call 267 [53, 55, 57])) true (.alt (N (.store 2 58 10)) true (.done)
(.noalt))
(.noalt))
(.noalt)))
(.ret)) (.skip)))))))))
(.seq (.ops [D 59 (.build ([(.b false), (.b false)] ++ List.replicate 8 (.int .u64 0)) [(1, 1, TT)]),
N (.store 2 59 10)])
(.ret))))⟩
theorem rf264_eq : cfnAt Tryz.prog 264 [[1, 2, 3, 4, 31, 32, 33]] = some rf264 := by kernel_rfl
def rf265 : RFn := ⟨2, 41, [.cell 4 10 true], .seq (.ops [D 2 (.box false 0 10),
D 3 (.box false 1 10),
D 4 (.alloc false ([(.b false), (.b false)] ++ List.replicate 8 (.int .u64 0)))])
(.seq (.seq (.ops [D 6 (.fadr 2 0),
D 7 (.load 6 1 false),
D 8 (.mov 7),
Z 8 9 (.fadr 3 0),
Z 8 10 (.load 9 1 false),
D 11 (.pick 8 TT 10)])
(.cond 11 (.seq (.ops [D 12 (.build ([(.b false), (.b false)] ++ List.replicate 8 (.int .u64 0)) [(0, 1, TT)]),
N (.store 4 12 10)])
(.ret)) (.skip)))
(.seq (.ops [D 13 (.fadr 2 1),
D 14 (.load 13 1 false),
D 15 (.mov 14),
Y 15 16 (.fadr 3 1),
Y 15 17 (.load 16 1 false),
D 18 (.pick 15 17 FF),
D 19 (.fadr 2 2),
D 20 (.load 19 4 true),
D 21 (.fadr 3 6),
D 22 (.load 21 4 true),
D 23 (.build ([(.b false), (.b false)] ++ List.replicate 8 (.int .u64 0)) [(1, 1, 18), (2, 4, 20), (6, 4, 22)]),
D 5 (.alloc false ([(.b false), (.b false)] ++ List.replicate 8 (.int .u64 0))),
N (.store 5 23 10)])
(.seq (.seq (.ops [D 24 (.fadr 2 1),
D 25 (.load 24 1 false)])
(.cond 25 (.ops [D 26 (.fadr 5 2),
D 27 (.load 26 4 true),
D 28 (.fadr 3 2),
D 29 (.load 28 4 true),
D 30 (.call 222 [27, 29]),
D 31 (.fadr 5 2),
N (.store 31 30 4)]) (.skip)))
(.seq (.seq (.ops [D 32 (.fadr 3 1),
D 33 (.load 32 1 false)])
(.cond 33 (.ops [D 34 (.fadr 5 6),
D 35 (.load 34 4 true),
D 36 (.fadr 2 6),
D 37 (.load 36 4 true),
D 38 (.call 222 [35, 37]),
D 39 (.fadr 5 6),
N (.store 39 38 4)]) (.skip)))
(.seq (.ops [D 40 (.load 5 10 true),
N (.store 4 40 10)])
(.ret))))))⟩
theorem rf265_eq : cfnAt Tryz.prog 265 [] = some rf265 := by kernel_rfl
def rf266 : RFn := ⟨2, 28, [.cell 4 10 true], .seq (.ops [D 2 (.box false 0 10),
D 3 (.box false 1 10),
D 4 (.alloc false ([(.b false), (.b false)] ++ List.replicate 8 (.int .u64 0)))])
(.seq (.draw (.take (D 5 (.fadr 2 0))<|
.take (D 6 (.load 5 1 false))<|
.take (D 7 (.mov 6))<|
.take (Y 7 8 (.fadr 3 0))<|
.take (Y 7 9 (.load 8 1 false))<|
.take (D 10 (.pick 7 9 FF))<|
.take (D 11 (.fadr 2 1))<|
.take (D 12 (.load 11 1 false))<|
.take (D 13 (.mov 12))<|
.take (Z 13 14 (.fadr 3 1))<|
.take (Z 13 15 (.load 14 1 false))<|
.take (D 16 (.pick 13 TT 15))<|
.take (D 17 (.fadr 2 2))<|
.take (D 18 (.load 17 4 true))<|
.take (D 19 (.fadr 3 2))<|
.take (D 20 (.load 19 4 true))<|
.take (D 22 (.fadr 2 6))<|
.take (D 23 (.load 22 4 true))<|
.take (D 24 (.fadr 3 6))<|
.take (D 25 (.load 24 4 true))<|
.alt (D 21 (.call 222 [18, 20])) false (.alt (D 26 (.call 222 [23, 25])) false (.take (D 27 (.build ([(.b false), (.b false)] ++ List.replicate 8 (.int .u64 0)) [(0, 1, 10), (1, 1, 16), (2, 4, 21), (6, 4, 26)]))<|
.alt (N (.store 4 27 10)) true (.done)
(.noalt))
(.noalt))
(.noalt)))
(.ret))⟩
theorem rf266_eq : cfnAt Tryz.prog 266 [] = some rf266 := by kernel_rfl
def rf267 : RFn := ⟨3, 25, [.cell 6 10 true], .seq (.ops [D 3 (.box false 0 10),
D 6 (.alloc false ([(.b false), (.b false)] ++ List.replicate 8 (.int .u64 0)))])
(.seq (.seq (.ops [D 7 (.mov 2),
D 8 (.bin .eql 7 (I 0))])
(.cond 8 (.seq (.ops [D 9 (.build ([(.b false), (.b false)] ++ List.replicate 8 (.int .u64 0)) [(1, 1, TT)]),
N (.store 6 9 10)])
(.ret)) (.skip)))
(.seq (.seq (.ops [D 10 (.fadr 3 0),
D 11 (.load 10 1 false)])
(.cond 11 (.seq (.ops [D 12 (.mov 1),
D 13 (.bin .gtr 12 (I 0)),
D 14 (.mov 1),
D 15 (.bin .eql 14 (I 0)),
D 16 (.build ([(.b false), (.b false)] ++ List.replicate 8 (.int .u64 0)) [(0, 1, 13), (1, 1, 15)]),
N (.store 6 16 10)])
(.ret)) (.skip)))
(.seq (.ops [D 17 (.fadr 3 1),
D 18 (.load 17 1 false),
D 19 (.mov 18),
Z 19 20 (.mov 1),
Z 19 21 (.bin .eql 20 (I 0)),
D 22 (.pick 19 TT 21),
D 23 (.fadr 3 1),
N (.store 23 22 1)])
(.seq (.ops [D 24 (.load 3 10 true),
N (.store 6 24 10)])
(.ret)))))⟩
theorem rf267_eq : cfnAt Tryz.prog 267 [] = some rf267 := by kernel_rfl
def rf263 : RFn := ⟨1, 10, [.cell 2 10 true, .tmp 3], .seq (.ops [D 1 (.box false 0 8),
D 2 (.alloc false ([(.b false), (.b false)] ++ List.replicate 8 (.int .u64 0))),
D 3 (.mov FF)])
(.seq (.seq (.ops [D 4 (.load 1 8 true),
D 5 (.call 114 [4]),
D 6 (.un .not 5)])
(.cond 6 (.seq (.ops [D 7 (.build ([(.b false), (.b false)] ++ List.replicate 8 (.int .u64 0)) []),
N (.store 2 7 10),
D 3 (.mov FF)])
(.ret)) (.skip)))
(.seq (.ops [D 8 (.load 1 8 true),
D 9 (.call 264 [8]),
N (.store 2 9 10),
D 3 (.mov TT)])
(.ret)))⟩
theorem rf263_eq : cfnAt Tryz.prog 263 [] = some rf263 := by kernel_rfl
def rf258 : RFn := ⟨1, 12, [.tmp 2], .seq (.ops [D 1 (.box false 0 8),
D 2 (.mov FF)])
(.seq (.ops [D 6 (.load 1 8 true),
D 7 (.call 263 [6]),
D 5 (.mov 7),
D 8 (.ext 5 0),
D 9 (.ext 5 1),
D 3 (.alloc false ([(.b false), (.b false)] ++ List.replicate 8 (.int .u64 0))),
N (.store 3 8 10),
D 4 (.mov 9)])
(.seq (.ops [D 10 (.fadr 3 1),
D 11 (.load 10 1 false),
D 2 (.mov 11)])
(.ret)))⟩
theorem rf258_eq : cfnAt Tryz.prog 258 [] = some rf258 := by kernel_rfl
def rf168 : RFn := ⟨2, 19, [.tmp 4], .seq (.ops [D 4 (.mov (I 0))])
(.seq (.seq (.ops [D 6 (.mov 0),
D 7 (.len 6),
D 8 (.mov (I 0))])
(.block 0 (.loop [0, 1, 7, 8] (.seq (.ops [D 9 (.bin .lss 8 7)])
(.seq (.cond 9 (.skip) (.exit 0))
(.seq (.block 1 (.seq (.ops [D 10 (.mov 8),
D 5 (.mov 10)])
(.seq (.ops [D 11 (.mov 1),
D 12 (.mov 0),
D 13 (.mov 5),
D 14 (.idxS 12 13 8),
D 15 (.load 14 8 true),
D 16 (.callv 11 [15])])
(.cond 16 (.seq (.ops [D 17 (.mov 5),
D 4 (.mov 17)])
(.ret)) (.skip)))))
(.ops [D 18 (.bin .add 8 (I 1)),
D 8 (.mov 18)])))))))
(.seq (.ops [D 4 (.mov (I (-1)))])
(.ret)))⟩
theorem rf168_eq : cfnAt Tryz.prog 168 [[0, 1, 7, 8]] = some rf168 := by kernel_rfl
def rf112 : RFn := ⟨2, 9, [.tmp 4], .seq (.ops [D 4 (.mov FF)])
(.seq (.ops [D 5 (.mov 0),
D 6 (.mov 1),
D 7 (.call 168 [5, 6]),
D 8 (.bin .geq 7 (I 0)),
D 4 (.mov 8)])
(.ret))⟩
theorem rf112_eq : cfnAt Tryz.prog 112 [] = some rf112 := by kernel_rfl
def rf222 : RFn := ⟨2, 8, [.cell 4 4 true], .seq (.ops [D 2 (.box true 0 4),
D 3 (.box true 1 4),
D 4 (.alloc true [(.int .u64 0), (.int .u64 0), (.int .u64 0), (.int .u64 0)])])
(.seq (.ops [D 5 (.load 2 4 true),
D 6 (.load 3 4 true),
D 7 (.call 255 [5, 6, (.c (.fn 256 [] []))]),
N (.store 4 7 4)])
(.ret))⟩
theorem rf222_eq : cfnAt Tryz.prog 222 [] = some rf222 := by kernel_rfl
def rf255 : RFn := ⟨3, 23, [.cell 6 4 true], .seq (.ops [D 3 (.box true 0 4),
D 4 (.box true 1 4),
D 6 (.alloc true [(.int .u64 0), (.int .u64 0), (.int .u64 0), (.int .u64 0)])])
(.seq (.seq (.ops [D 8 (.mov (I 0))])
(.block 0 (.loop [2, 3, 4, 6, 8] (.seq (.ops [D 9 (.bin .lss 8 (I 4))])
(.seq (.cond 9 (.skip) (.exit 0))
(.seq (.block 1 (.seq (.ops [D 10 (.mov 8),
D 7 (.mov 10)])
(.draw (.take (D 11 (.mov 7))<|
.take (D 12 (.mov 2))<|
.take (D 13 (.mov 7))<|
.take (D 14 (.idxA 3 13 4 1))<|
.take (D 15 (.load 14 1 false))<|
.take (D 16 (.mov 7))<|
.take (D 17 (.idxA 4 16 4 1))<|
.take (D 18 (.load 17 1 false))<|
.alt (D 19 (.callv 12 [15, 18])) true (.take (D 20 (.idxA 3 11 4 1))<|
.alt (N (.store 20 19 1)) true (.done)
(.noalt))
(.noalt)))))
(.ops [D 21 (.bin .add 8 (I 1)),
D 8 (.mov 21)])))))))
(.seq (.ops [D 22 (.load 3 4 true),
N (.store 6 22 4)])
(.ret)))⟩
theorem rf255_eq : cfnAt Tryz.prog 255 [[2, 3, 4, 6, 8]] = some rf255 := by kernel_rfl
def rf256 : RFn := ⟨2, 8, [.tmp 4], .seq (.ops [D 4 (.mov (.c (.int .u64 0)))])
(.seq (.ops [D 5 (.mov 0),
D 6 (.mov 1),
D 7 (.bin .or 5 6),
D 4 (.mov 7)])
(.ret))⟩
theorem rf256_eq : cfnAt Tryz.prog 256 [] = some rf256 := by kernel_rfl
def rf223 : RFn := ⟨1, 23, [.cell 2 4 true], .seq (.ops [D 2 (.alloc true [(.int .u64 0), (.int .u64 0), (.int .u64 0), (.int .u64 0)])])
(.seq (.ops [D 3 (.alloc true [(.int .u64 0), (.int .u64 0), (.int .u64 0), (.int .u64 0)])])
(.seq (.seq (.ops [D 6 (.mov 0),
D 7 (.len 6),
D 8 (.mov (I 0))])
(.block 0 (.loop [2, 3, 6, 7, 8] (.seq (.ops [D 9 (.bin .lss 8 7)])
(.seq (.cond 9 (.skip) (.exit 0))
(.seq (.block 1 (.seq (.ops [D 10 (.idxS 6 8 1),
D 11 (.load 10 1 false),
D 5 (.mov 11)])
(.ops [D 12 (.mov 5),
D 13 (.bin .quo 12 (B 64)),
D 14 (.idxA 3 13 4 1),
D 15 (.load 14 1 false),
D 16 (.mov 5),
D 17 (.bin .rem 16 (B 64)),
D 18 (.bin .shl (.c (.int .u64 1)) 17),
D 19 (.bin .or 15 18),
D 20 (.idxA 3 13 4 1),
N (.store 20 19 1)])))
(.ops [D 21 (.bin .add 8 (I 1)),
D 8 (.mov 21)])))))))
(.seq (.ops [D 22 (.load 3 4 true),
N (.store 2 22 4)])
(.ret))))⟩
theorem rf223_eq : cfnAt Tryz.prog 223 [[2, 3, 6, 7, 8]] = some rf223 := by kernel_rfl
def rf229 : RFn := ⟨2, 8, [.cell 4 4 true], .seq (.ops [D 2 (.box true 0 4),
D 3 (.box true 1 4),
D 4 (.alloc true [(.int .u64 0), (.int .u64 0), (.int .u64 0), (.int .u64 0)])])
(.seq (.ops [D 5 (.load 2 4 true),
D 6 (.load 3 4 true),
D 7 (.call 255 [5, 6, (.c (.fn 259 [] []))]),
N (.store 4 7 4)])
(.ret))⟩
theorem rf229_eq : cfnAt Tryz.prog 229 [] = some rf229 := by kernel_rfl
def rf259 : RFn := ⟨2, 8, [.tmp 4], .seq (.ops [D 4 (.mov (.c (.int .u64 0)))])
(.seq (.ops [D 5 (.mov 0),
D 6 (.mov 1),
D 7 (.bin .and 5 6),
D 4 (.mov 7)])
(.ret))⟩
theorem rf259_eq : cfnAt Tryz.prog 259 [] = some rf259 := by kernel_rfl
def rf180 : RFn := ⟨2, 12, [.tmp 4], .seq (.ops [D 2 (.box true 0 4),
D 4 (.mov FF)])
(.seq (.draw (.take (D 5 (.load 2 4 true))<|
.take (D 6 (.mov 1))<|
.take (D 10 (.build [(.int .u64 0), (.int .u64 0), (.int .u64 0), (.int .u64 0)] []))<|
.alt (D 7 (.bslice 1 [6])) false (.alt (D 8 (.call 223 [7])) false (.alt (D 9 (.call 229 [5, 8])) false (.take (D 11 (.cmpa true [(.int .u64), (.int .u64), (.int .u64), (.int .u64)] 9 10))<|
.take (D 4 (.mov 11))<|
.done)
(.noalt))
(.noalt))
(.noalt)))
(.ret))⟩
theorem rf180_eq : cfnAt Tryz.prog 180 [] = some rf180 := by kernel_rfl
def rf74 : RFn := ⟨2, 17, [.cell 4 4 true], .seq (.ops [D 4 (.alloc true [(.int .u64 0), (.int .u64 0), (.int .u64 0), (.int .u64 0)])])
(.seq (.ops [D 5 (.alloc true (List.replicate 256 (.b false)))])
(.seq (.seq (.ops [D 7 (.mov 0),
D 6 (.mov 7)])
(.block 0 (.loop [1, 4, 5, 6] (.seq (.seq (.ops [D 8 (.mov 6),
D 9 (.mov 1),
D 10 (.bin .leq 8 9)])
(.cond 10 (.skip) (.exit 0)))
(.seq (.block 1 (.ops [D 13 (.mov 6),
D 14 (.idxA 5 13 256 1),
N (.store 14 TT 1)]))
(.ops [D 11 (.mov 6),
D 12 (.bin .add 11 (I 1)),
D 6 (.mov 12)]))))))
(.seq (.ops [D 15 (.load 5 256 true),
D 16 (.call 143 [15]),
N (.store 4 16 4)])
(.ret))))⟩
theorem rf74_eq : cfnAt Tryz.prog 74 [[1, 4, 5, 6]] = some rf74 := by kernel_rfl
def rf143 : RFn := ⟨1, 27, [.cell 2 4 true], .seq (.ops [D 1 (.box true 0 256),
D 2 (.alloc true [(.int .u64 0), (.int .u64 0), (.int .u64 0), (.int .u64 0)])])
(.seq (.ops [D 3 (.alloc true [(.int .u64 0), (.int .u64 0), (.int .u64 0), (.int .u64 0)])])
(.seq (.seq (.ops [D 4 (.mov (I 255))])
(.block 0 (.loop [1, 2, 3, 4] (.seq (.seq (.ops [D 5 (.mov 4),
D 6 (.bin .geq 5 (I 0))])
(.cond 6 (.skip) (.exit 0)))
(.seq (.block 1 (.seq (.ops [D 9 (.mov 4),
D 10 (.bin .quo 9 (I 64)),
D 11 (.mov 4),
D 12 (.bin .quo 11 (I 64)),
D 13 (.idxA 3 12 4 1),
D 14 (.load 13 1 false),
D 15 (.bin .mul 14 (.c (.int .u64 2))),
D 16 (.idxA 3 10 4 1),
N (.store 16 15 1)])
(.seq (.ops [D 17 (.mov 4),
D 18 (.idxA 1 17 256 1),
D 19 (.load 18 1 false)])
(.cond 19 (.ops [D 20 (.mov 4),
D 21 (.bin .quo 20 (I 64)),
D 22 (.idxA 3 21 4 1),
D 23 (.load 22 1 false),
D 24 (.bin .add 23 (.c (.int .u64 1))),
D 25 (.idxA 3 21 4 1),
N (.store 25 24 1)]) (.skip)))))
(.ops [D 7 (.mov 4),
D 8 (.bin .sub 7 (I 1)),
D 4 (.mov 8)]))))))
(.seq (.ops [D 26 (.load 3 4 true),
N (.store 2 26 4)])
(.ret))))⟩
theorem rf143_eq : cfnAt Tryz.prog 143 [[1, 2, 3, 4]] = some rf143 := by kernel_rfl
def rf84 : RFn := ⟨2, 22, [.tmp 4], .seq (.ops [D 2 (.box true 0 4),
D 4 (.mov FF)])
(.seq (.ops [D 7 (.mov 1),
D 8 (.bin .quo 7 (I 64)),
D 9 (.idxA 2 8 4 1),
D 10 (.load 9 1 false),
D 5 (.mov 10)])
(.seq (.seq (.ops [D 6 (.mov (I 0))])
(.block 0 (.loop [1, 5, 6] (.seq (.seq (.ops [D 11 (.mov 6),
D 12 (.mov 1),
D 13 (.bin .rem 12 (I 64)),
D 14 (.bin .lss 11 13)])
(.cond 14 (.skip) (.exit 0)))
(.seq (.block 1 (.ops [D 17 (.mov 5),
D 18 (.bin .quo 17 (.c (.int .u64 2))),
D 5 (.mov 18)]))
(.ops [D 15 (.mov 6),
D 16 (.bin .add 15 (I 1)),
D 6 (.mov 16)]))))))
(.seq (.ops [D 19 (.mov 5),
D 20 (.bin .rem 19 (.c (.int .u64 2))),
D 21 (.bin .eql 20 (.c (.int .u64 1))),
D 4 (.mov 21)])
(.ret))))⟩
theorem rf84_eq : cfnAt Tryz.prog 84 [[1, 5, 6]] = some rf84 := by kernel_rfl
def rf186 : RFn := ⟨1, 21, [.tmp 2], .seq (.ops [D 1 (.box false 0 8),
D 2 (.mov (I 0))])
(.seq (.ops [D 3 (.mov (I 1))])
(.seq (.seq (.ops [D 4 (.mov (I 0))])
(.block 0 (.loop [1, 3, 4] (.seq (.seq (.ops [D 5 (.mov 4),
D 6 (.fadr 1 5),
D 7 (.load 6 1 false),
D 8 (.len 7),
D 9 (.bin .lss 5 8)])
(.cond 9 (.skip) (.exit 0)))
(.seq (.block 1 (.ops [D 12 (.mov 3),
D 13 (.fadr 1 5),
D 14 (.load 13 1 false),
D 15 (.mov 4),
D 16 (.idxS 14 15 8),
D 17 (.load 16 8 true),
D 18 (.call 186 [17]),
D 19 (.bin .add 12 18),
D 3 (.mov 19)]))
(.ops [D 10 (.mov 4),
D 11 (.bin .add 10 (I 1)),
D 4 (.mov 11)]))))))
(.seq (.ops [D 20 (.mov 3),
D 2 (.mov 20)])
(.ret))))⟩
theorem rf186_eq : cfnAt Tryz.prog 186 [[1, 3, 4]] = some rf186 := by kernel_rfl
def rf188 : RFn := ⟨1, 25, [.tmp 2], .seq (.ops [D 1 (.box false 0 8),
D 2 (.mov (I 0))])
(.seq (.ops [D 3 (.mov (I 0))])
(.seq (.seq (.ops [D 4 (.mov (I 0))])
(.block 0 (.loop [1, 3, 4] (.seq (.seq (.ops [D 6 (.mov 4),
D 7 (.fadr 1 5),
D 8 (.load 7 1 false),
D 9 (.len 8),
D 10 (.bin .lss 6 9)])
(.cond 10 (.skip) (.exit 0)))
(.seq (.block 1 (.seq (.ops [D 13 (.fadr 1 5),
D 14 (.load 13 1 false),
D 15 (.mov 4),
D 16 (.idxS 14 15 8),
D 17 (.load 16 8 true),
D 18 (.call 188 [17]),
D 5 (.mov 18)])
(.seq (.ops [D 19 (.mov 5),
D 20 (.mov 3),
D 21 (.bin .gtr 19 20)])
(.cond 21 (.ops [D 22 (.mov 5),
D 3 (.mov 22)]) (.skip)))))
(.ops [D 11 (.mov 4),
D 12 (.bin .add 11 (I 1)),
D 4 (.mov 12)]))))))
(.seq (.ops [D 23 (.mov 3),
D 24 (.bin .add 23 (I 1)),
D 2 (.mov 24)])
(.ret))))⟩
theorem rf188_eq : cfnAt Tryz.prog 188 [[1, 3, 4]] = some rf188 := by kernel_rfl
def rf189 : RFn := ⟨1, 89, [.tmp 2], .seq (.ops [D 1 (.box false 0 8),
D 2 (.mov FF)])
(.seq (.seq (.ops [D 3 (.mov (I 0))])
(.block 0 (.loop [1, 3, 26, 27, 28, 29, 32, 33, 34, 35, 36, 37, 38, 39, 40, 41, 42, 43, 44, 63, 64, 65, 68, 69, 70, 73, 74, 75, 76, 77, 78, 79, 80, 81, 82, 83, 84, 85, 86, 87] (.seq (.seq (.ops [D 5 (.mov 3),
D 6 (.fadr 1 5),
D 7 (.load 6 1 false),
D 8 (.len 7),
D 9 (.bin .lss 5 8)])
(.cond 9 (.skip) (.exit 0)))
(.seq (.block 1 (.seq (.ops [D 12 (.fadr 1 5),
D 13 (.load 12 1 false),
D 14 (.mov 3),
D 15 (.idxS 13 14 8),
D 16 (.load 15 8 true),
D 17 (.call 189 [16]),
D 18 (.un .not 17)])
(.cond 18 (.seq (.ops [D 2 (.mov FF)])
(.ret)) (.skip))))
(.ops [D 10 (.mov 3),
D 11 (.bin .add 10 (I 1)),
D 3 (.mov 11)]))))))
(.seq (.ops [D 19 (.fadr 1 5),
D 20 (.load 19 1 false),
D 21 (.len 20),
D 4 (.mov 21)])
(.seq (.seq (.ops [D 22 (.fadr 1 0),
D 23 (.load 22 1 false),
D 24 (.bin .neq 23 (I 1)),
D 25 (.mov 24),
Y 25 26 (.fadr 1 1),
Y 25 27 (.load 26 4 true),
Y 25 28 (.build [(.int .u64 0), (.int .u64 0), (.int .u64 0), (.int .u64 0)] []),
Y 25 29 (.cmpa true [(.int .u64), (.int .u64), (.int .u64), (.int .u64)] 27 28),
D 30 (.pick 25 29 FF),
D 31 (.mov 30),
Z 31 32 (.fadr 1 0),
Z 31 33 (.load 32 1 false),
Z 31 34 (.bin .neq 33 (I 4)),
Z 31 35 (.mov 34),
Y 35 36 (.fadr 1 6),
Y 35 37 (.load 36 1 false),
Y 35 38 (.bin .neq 37 (I 0)),
Y 35 39 (.mov 38),
Z 39 40 (.fadr 1 7),
Z 39 41 (.load 40 1 false),
Z 39 42 (.bin .neq 41 (I 0)),
Y 35 43 (.pick 39 TT 42),
Z 31 44 (.pick 35 43 FF),
D 45 (.pick 31 TT 44)])
(.cond 45 (.seq (.ops [D 2 (.mov FF)])
(.ret)) (.skip)))
(.seq (.seq (.ops [D 46 (.fadr 1 0),
D 47 (.load 46 1 false)])
(.block 2 (.seq (.seq (.ops [D 49 (.bin .eql 47 (I 0)),
D 48 (.mov 49)])
(.cond 48 (.skip) (.ops [D 50 (.bin .eql 47 (I 1)),
D 48 (.mov 50)])))
(.cond 48 (.seq (.ops [D 51 (.mov 4),
D 52 (.bin .eql 51 (I 0)),
D 2 (.mov 52)])
(.ret)) (.seq (.seq (.ops [D 54 (.bin .eql 47 (I 2)),
D 53 (.mov 54)])
(.cond 53 (.skip) (.ops [D 55 (.bin .eql 47 (I 3)),
D 53 (.mov 55)])))
(.cond 53 (.seq (.ops [D 56 (.mov 4),
D 57 (.bin .geq 56 (I 2)),
D 2 (.mov 57)])
(.ret)) (.seq (.ops [D 59 (.bin .eql 47 (I 4)),
D 58 (.mov 59)])
(.cond 58 (.seq (.ops [D 60 (.mov 4),
D 61 (.bin .eql 60 (I 1)),
D 62 (.mov 61),
Y 62 63 (.fadr 1 6),
Y 62 64 (.load 63 1 false),
Y 62 65 (.bin .geq 64 (I 0)),
D 66 (.pick 62 65 FF),
D 67 (.mov 66),
Y 67 68 (.fadr 1 6),
Y 67 69 (.load 68 1 false),
Y 67 70 (.bin .leq 69 (I 64)),
D 71 (.pick 67 70 FF),
D 72 (.mov 71),
Y 72 73 (.fadr 1 7),
Y 72 74 (.load 73 1 false),
Y 72 75 (.bin .eql 74 (I (-1))),
Y 72 76 (.mov 75),
Z 76 77 (.fadr 1 7),
Z 76 78 (.load 77 1 false),
Z 76 79 (.fadr 1 6),
Z 76 80 (.load 79 1 false),
Z 76 81 (.bin .geq 78 80),
Z 76 82 (.mov 81),
Y 82 83 (.fadr 1 7),
Y 82 84 (.load 83 1 false),
Y 82 85 (.bin .leq 84 (I 64)),
Z 76 86 (.pick 82 85 FF),
Y 72 87 (.pick 76 TT 86),
D 88 (.pick 72 87 FF),
D 2 (.mov 88)])
(.ret)) (.skip)))))))))
(.seq (.ops [D 2 (.mov FF)])
(.ret))))))⟩
theorem rf189_eq : cfnAt Tryz.prog 189 [[1, 3, 26, 27, 28, 29, 32, 33, 34, 35, 36, 37, 38, 39, 40, 41, 42, 43, 44, 63, 64, 65, 68, 69, 70, 73, 74, 75, 76, 77, 78, 79, 80, 81, 82, 83, 84, 85, 86, 87]] = some rf189 := by kernel_rfl
def rf134 : RFn := ⟨1, 15, [.tmp 2], .seq (.ops [D 1 (.box false 0 8),
D 2 (.mov FF)])
(.seq (.ops [D 3 (.load 1 8 true),
D 4 (.call 186 [3]),
D 5 (.bin .leq 4 (I 300)),
D 6 (.mov 5),
Y 6 7 (.load 1 8 true),
Y 6 8 (.call 188 [7]),
Y 6 9 (.bin .leq 8 (I 30)),
D 10 (.pick 6 9 FF),
D 11 (.mov 10),
Y 11 12 (.load 1 8 true),
Y 11 13 (.call 189 [12]),
D 14 (.pick 11 13 FF),
D 2 (.mov 14)])
(.ret))⟩
theorem rf134_eq : cfnAt Tryz.prog 134 [] = some rf134 := by kernel_rfl
def rf231 : RFn := ⟨1, 51, [.tmp 2], .seq (.ops [D 1 (.box false 0 8),
D 2 (.mov (I 0))])
(.seq (.ops [D 3 (.mov (I 1))])
(.seq (.seq (.ops [D 4 (.mov (I 0))])
(.block 0 (.loop [1, 3, 4, 25, 26, 27, 30, 31, 32, 43, 44, 45] (.seq (.seq (.ops [D 5 (.mov 4),
D 6 (.fadr 1 5),
D 7 (.load 6 1 false),
D 8 (.len 7),
D 9 (.bin .lss 5 8)])
(.cond 9 (.skip) (.exit 0)))
(.seq (.block 1 (.ops [D 12 (.mov 3),
D 13 (.fadr 1 5),
D 14 (.load 13 1 false),
D 15 (.mov 4),
D 16 (.idxS 14 15 8),
D 17 (.load 16 8 true),
D 18 (.call 231 [17]),
D 19 (.bin .add 12 18),
D 20 (.mm false 19 (I 1000000)),
D 3 (.mov 20)]))
(.ops [D 10 (.mov 4),
D 11 (.bin .add 10 (I 1)),
D 4 (.mov 11)]))))))
(.seq (.seq (.ops [D 21 (.fadr 1 0),
D 22 (.load 21 1 false),
D 23 (.bin .eql 22 (I 4)),
D 24 (.mov 23),
Y 24 25 (.fadr 1 7),
Y 24 26 (.load 25 1 false),
Y 24 27 (.bin .gtr 26 (I 1)),
D 28 (.pick 24 27 FF),
D 29 (.mov 28),
Y 29 30 (.fadr 1 7),
Y 29 31 (.load 30 1 false),
Y 29 32 (.bin .leq 31 (I 64)),
D 33 (.pick 29 32 FF)])
(.cond 33 (.ops [D 34 (.mov 3),
D 35 (.fadr 1 7),
D 36 (.load 35 1 false),
D 37 (.bin .mul 34 36),
D 38 (.mm false 37 (I 1000000)),
D 3 (.mov 38)]) (.skip)))
(.seq (.seq (.ops [D 39 (.fadr 1 0),
D 40 (.load 39 1 false),
D 41 (.bin .eql 40 (I 4)),
D 42 (.mov 41),
Y 42 43 (.fadr 1 7),
Y 42 44 (.load 43 1 false),
Y 42 45 (.bin .lss 44 (I 0)),
D 46 (.pick 42 45 FF)])
(.cond 46 (.ops [D 47 (.mov 3),
D 48 (.bin .mul 47 (I 40)),
D 49 (.mm false 48 (I 1000000)),
D 3 (.mov 49)]) (.skip)))
(.seq (.ops [D 50 (.mov 3),
D 2 (.mov 50)])
(.ret))))))⟩
theorem rf231_eq : cfnAt Tryz.prog 231 [[1, 3, 4, 25, 26, 27, 30, 31, 32, 43, 44, 45]] = some rf231 := by kernel_rfl
def rf185 : RFn := ⟨1, 56, [.tmp 2], .seq (.ops [D 1 (.box false 0 8),
D 2 (.mov FF)])
(.seq (.seq (.ops [D 5 (.fadr 1 0),
D 6 (.load 5 1 false)])
(.block 0 (.seq (.ops [D 8 (.bin .eql 6 (I 0)),
D 7 (.mov 8)])
(.cond 7 (.seq (.ops [D 2 (.mov FF)])
(.ret)) (.seq (.ops [D 10 (.bin .eql 6 (I 1)),
D 9 (.mov 10)])
(.cond 9 (.seq (.ops [D 11 (.fadr 1 1),
D 12 (.load 11 4 true),
D 13 (.build [(.int .u64 0), (.int .u64 0), (.int .u64 0), (.int .u64 0)] []),
D 14 (.cmpa false [(.int .u64), (.int .u64), (.int .u64), (.int .u64)] 12 13),
D 2 (.mov 14)])
(.ret)) (.seq (.ops [D 16 (.bin .eql 6 (I 2)),
D 15 (.mov 16)])
(.cond 15 (.seq (.seq (.ops [D 3 (.mov (I 0))])
(.block 1 (.loop [1, 3] (.seq (.seq (.ops [D 17 (.mov 3),
D 18 (.fadr 1 5),
D 19 (.load 18 1 false),
D 20 (.len 19),
D 21 (.bin .lss 17 20)])
(.cond 21 (.skip) (.exit 1)))
(.seq (.block 2 (.seq (.ops [D 24 (.fadr 1 5),
D 25 (.load 24 1 false),
D 26 (.mov 3),
D 27 (.idxS 25 26 8),
D 28 (.load 27 8 true),
D 29 (.call 185 [28])])
(.cond 29 (.seq (.ops [D 2 (.mov TT)])
(.ret)) (.skip))))
(.ops [D 22 (.mov 3),
D 23 (.bin .add 22 (I 1)),
D 3 (.mov 23)]))))))
(.seq (.ops [D 2 (.mov FF)])
(.ret))) (.seq (.ops [D 31 (.bin .eql 6 (I 3)),
D 30 (.mov 31)])
(.cond 30 (.seq (.seq (.ops [D 4 (.mov (I 0))])
(.block 3 (.loop [1, 4] (.seq (.seq (.ops [D 32 (.mov 4),
D 33 (.fadr 1 5),
D 34 (.load 33 1 false),
D 35 (.len 34),
D 36 (.bin .lss 32 35)])
(.cond 36 (.skip) (.exit 3)))
(.seq (.block 4 (.seq (.ops [D 39 (.fadr 1 5),
D 40 (.load 39 1 false),
D 41 (.mov 4),
D 42 (.idxS 40 41 8),
D 43 (.load 42 8 true),
D 44 (.call 185 [43]),
D 45 (.un .not 44)])
(.cond 45 (.seq (.ops [D 2 (.mov FF)])
(.ret)) (.skip))))
(.ops [D 37 (.mov 4),
D 38 (.bin .add 37 (I 1)),
D 4 (.mov 38)]))))))
(.seq (.ops [D 2 (.mov TT)])
(.ret))) (.skip)))))))))))
(.seq (.ops [D 46 (.fadr 1 6),
D 47 (.load 46 1 false),
D 48 (.bin .gtr 47 (I 0)),
D 49 (.mov 48),
Y 49 50 (.fadr 1 5),
Y 49 51 (.load 50 1 false),
Y 49 52 (.idxS 51 (I 0) 8),
Y 49 53 (.load 52 8 true),
Y 49 54 (.call 185 [53]),
D 55 (.pick 49 54 FF),
D 2 (.mov 55)])
(.ret)))⟩
theorem rf185_eq : cfnAt Tryz.prog 185 [[1, 3], [1, 4]] = some rf185 := by kernel_rfl
end Hk
namespace Hk
open Go
set_option linter.unusedVariables false
set_option linter.unusedSimpArgs false
structure Set4 where
 a : BitVec 64
 b : BitVec 64
 c : BitVec 64
 d : BitVec 64
deriving DecidableEq
def Set4.nil : Set4 := ⟨0, 0, 0, 0⟩
def Set4.cells (s : Set4) : List PV := [u64 s.a, u64 s.b, u64 s.c, u64 s.d]
def Set4.word (s : Set4) : Nat → BitVec 64
 | 0 => s.a
 | 1 => s.b
 | 2 => s.c
 | _ => s.d
def Set4.has (s : Set4) (b : Nat) : Bool := (s.word (b / 64)).getLsbD (b % 64)
def Set4.or (s t : Set4) : Set4 := ⟨s.a ||| t.a, s.b ||| t.b, s.c ||| t.c, s.d ||| t.d⟩
theorem Set4.has_or (s t : Set4) (b : Nat) : (s.or t).has b = (s.has b || t.has b) := by
 unfold Set4.has
 have : ∀ i, (s.or t).word i = s.word i ||| t.word i := fun i => by
  match i with
  | 0 => rfl
  | 1 => rfl
  | 2 => rfl
  | _ + 3 => rfl
 rw [this, BitVec.getLsbD_or]
theorem Set4.has_nil (b : Nat) : Set4.nil.has b = false := by
 unfold Set4.has
 have : ∀ i, Set4.nil.word i = 0 := fun i => by
  match i with
  | 0 => rfl
  | 1 => rfl
  | 2 => rfl
  | _ + 3 => rfl
 rw [this]
 simp
inductive Tr where
 | mk (kind : Int) (set : Set4) (sub : List Tr) (lo hi : Int)
namespace Tr
mutual
def cells : Tr → List PV
 | .mk k s sub lo hi => [i64 k, u64 s.a, u64 s.b, u64 s.c, u64 s.d, .isl 8 (rowsL sub) none, i64 lo, i64 hi]
def rowsL : List Tr → List (List PV)
 | [] => []
 | t :: r => t.cells :: rowsL r
end
theorem rowsL_eq : ∀ l : List Tr, rowsL l = l.map cells
 | [] => rfl
 | t :: r => by rw [rowsL, rowsL_eq r]; rfl
def pv (t : Tr) : PV := .agg t.cells
mutual
theorem ind' {P : Tr → Prop} (h : ∀ k s sub lo hi, (∀ t ∈ sub, P t) → P (.mk k s sub lo hi)) : ∀ t : Tr, P t
 | .mk k s sub lo hi => h k s sub lo hi (indL h sub)
theorem indL {P : Tr → Prop} (h : ∀ k s sub lo hi, (∀ t ∈ sub, P t) → P (.mk k s sub lo hi)) : ∀ (l : List Tr), ∀ t ∈ l, P t
 | [] => fun t ht => by cases ht
 | x :: r => fun t ht => by
   rcases List.mem_cons.1 ht with e | ht
   ·exact e ▸ ind' h x
   ·exact indL h r t ht
end
inductive Fit : Tr → Prop
 | mk {k s sub lo hi} (hn : sub.length < 2 ^ 63) (hs : ∀ t ∈ sub, Fit t) : Fit (.mk k s sub lo hi)
theorem Fit.len {k s sub lo hi} (h : Fit (.mk k s sub lo hi)) : sub.length < 2 ^ 63 := by cases h; assumption
theorem Fit.sub {k s sub lo hi} (h : Fit (.mk k s sub lo hi)) : ∀ t ∈ sub, Fit t := by cases h; assumption
mutual
def nodes : Tr → Nat
 | .mk _ _ sub _ _ => 1 + (nodesL sub).sum
def nodesL : List Tr → List Nat
 | [] => []
 | t :: r => t.nodes :: nodesL r
end
theorem nodesL_eq : ∀ l : List Tr, nodesL l = l.map nodes
 | [] => rfl
 | t :: r => by rw [nodesL, nodesL_eq r]; rfl
theorem nodes_mk (k s sub lo hi) : nodes (.mk k s sub lo hi) = 1 + (sub.map nodes).sum := by rw [nodes, nodesL_eq]
mutual
def deep : Tr → Nat
 | .mk _ _ sub _ _ => (deepL sub).foldl max 0 + 1
def deepL : List Tr → List Nat
 | [] => []
 | t :: r => t.deep :: deepL r
end
theorem deepL_eq : ∀ l : List Tr, deepL l = l.map deep
 | [] => rfl
 | t :: r => by rw [deepL, deepL_eq r]; rfl
theorem deep_mk (k s sub lo hi) : deep (.mk k s sub lo hi) = (sub.map deep).foldl max 0 + 1 := by rw [deep, deepL_eq]
def wstep (n w : Nat) : Nat := min (n + w) 1000000
def wend (k hi : Int) (n : Nat) : Nat :=
 let n := if k = 4 ∧ 1 < hi ∧ hi ≤ 64 then min (n * hi.toNat) 1000000 else n
 if k = 4 ∧ hi < 0 then min (n * 70) 1000000 else n
mutual
def weight : Tr → Nat
 | .mk k _ sub _ hi => wend k hi ((weightL sub).foldl wstep 1)
def weightL : List Tr → List Nat
 | [] => []
 | t :: r => t.weight :: weightL r
end
theorem weightL_eq : ∀ l : List Tr, weightL l = l.map weight
 | [] => rfl
 | t :: r => by rw [weightL, weightL_eq r]; rfl
theorem weight_mk (k s sub lo hi) : weight (.mk k s sub lo hi) = wend k hi ((sub.map weight).foldl wstep 1) := by rw [weight, weightL_eq]
def okn (k : Int) (s : Set4) (n : Nat) (lo hi : Int) : Bool :=
 if k ≠ 1 ∧ s ≠ .nil ∨ k ≠ 4 ∧ (lo ≠ 0 ∨ hi ≠ 0) then false
 else if k = 0 ∨ k = 1 then decide (n = 0)
 else if k = 2 ∨ k = 3 then decide (2 ≤ n)
 else if k = 4 then decide (n = 1 ∧ 0 ≤ lo ∧ lo ≤ 64 ∧ (hi = -1 ∨ lo ≤ hi ∧ hi ≤ 64))
 else false
mutual
def ok : Tr → Bool
 | .mk k s sub lo hi => okL sub && okn k s sub.length lo hi
def okL : List Tr → Bool
 | [] => true
 | t :: r => t.ok && okL r
end
theorem okL_eq : ∀ l : List Tr, okL l = l.all ok
 | [] => rfl
 | t :: r => by rw [okL, okL_eq r]; rfl
theorem ok_mk (k s sub lo hi) : ok (.mk k s sub lo hi) = (sub.all ok && okn k s sub.length lo hi) := by rw [ok, okL_eq]
def may (t : Tr) : Bool := decide (t.nodes ≤ 300) && decide (t.deep ≤ 30) && t.ok
mutual
def void : Tr → Bool
 | .mk k s sub lo _ => if k = 0 then false else if k = 1 then decide (s = .nil) else if k = 2 then (voidL sub).any id else if k = 3 then (voidL sub).all id else decide (0 < lo) && (voidL sub).headD false
def voidL : List Tr → List Bool
 | [] => []
 | t :: r => t.void :: voidL r
end
theorem voidL_eq : ∀ l : List Tr, voidL l = l.map void
 | [] => rfl
 | t :: r => by rw [voidL, voidL_eq r]; rfl
mutual
def sets : Tr → List Set4
 | .mk k s sub _ _ => if k = 1 then [s] else setsL sub
def setsL : List Tr → List Set4
 | [] => []
 | t :: r => t.sets ++ setsL r
end
theorem setsL_eq : ∀ l : List Tr, setsL l = (l.map sets).flatten
 | [] => rfl
 | t :: r => by rw [setsL, setsL_eq r]; rfl
end Tr
structure Facts where
 void : Bool
 empty : Bool
 first : Set4
 last : Set4
namespace Facts
def cells (f : Facts) : List PV := [.b f.void, .b f.empty] ++ f.first.cells ++ f.last.cells
def pv (f : Facts) : PV := .agg f.cells
def bad : Facts := ⟨true, false, .nil, .nil⟩
def then' (f g : Facts) : Facts :=
 if f.void || g.void then bad
 else ⟨false, f.empty && g.empty, if f.empty then f.first.or g.first else f.first, if g.empty then g.last.or f.last else g.last⟩
def or' (f g : Facts) : Facts := ⟨f.void && g.void, f.empty || g.empty, f.first.or g.first, f.last.or g.last⟩
def rep (f : Facts) (lo hi : Int) : Facts :=
 if hi = 0 then ⟨false, true, .nil, .nil⟩
 else if f.void then ⟨decide (0 < lo), decide (lo = 0), .nil, .nil⟩
 else ⟨f.void, f.empty || decide (lo = 0), f.first, f.last⟩
def zero : Facts := ⟨false, false, .nil, .nil⟩
def join (g : Facts → Facts → Facts) : List Facts → Facts
 | [] => zero
 | f :: r => r.foldl g f
end Facts
namespace Tr
mutual
def facts : Tr → Facts
 | .mk k s sub lo hi =>
   if k = 1 then ⟨decide (s = .nil), false, s, s⟩
   else if k = 2 then Facts.join .then' (factsL sub)
   else if k = 3 then Facts.join .or' (factsL sub)
   else if k = 4 then ((factsL sub).headD .zero).rep lo hi
   else ⟨false, true, .nil, .nil⟩
def factsL : List Tr → List Facts
 | [] => []
 | t :: r => t.facts :: factsL r
end
theorem factsL_eq : ∀ l : List Tr, factsL l = l.map facts
 | [] => rfl
 | t :: r => by rw [factsL, factsL_eq r]; rfl
end Tr
abbrev Pl := Nat → Bool
def comp (l : List (Pl → Pl)) (f : Pl) : Pl := l.foldl (fun f e => e f) f
def iter (e : Pl → Pl) : Nat → Pl → Pl
 | 0, f => f
 | n + 1, f => e (iter e n f)
def repE (e : Pl → Pl) (lo most : Nat) (f : Pl) : Pl := fun j => (List.range (most + 1)).any fun n => decide (lo ≤ n) && iter e n f j
def oneE (s : List UInt8) (set : Set4) (f : Pl) : Pl
 | 0 => false
 | i + 1 => f i && (match s[i]? with | some c => set.has c.toNat | none => false)
def most (s : List UInt8) (lo hi : Int) : Int := if hi < 0 then lo + s.length + 1 else hi
namespace Tr
mutual
def ends (s : List UInt8) : Tr → Pl → Pl
 | .mk k set sub lo hi =>
   if k = 0 then id
   else if k = 1 then oneE s set
   else if k = 2 then comp (endsL s sub)
   else if k = 3 then fun f j => (endsL s sub).any fun e => e f j
   else repE ((endsL s sub).headD id) lo.toNat (most s lo hi).toNat
def endsL (s : List UInt8) : List Tr → List (Pl → Pl)
 | [] => []
 | t :: r => t.ends s :: endsL s r
end
theorem endsL_eq (s) : ∀ l : List Tr, endsL s l = l.map (ends s)
 | [] => rfl
 | t :: r => by rw [endsL, endsL_eq s r]; rfl
end Tr
end Hk
namespace Hk
open Go Go.Proofs
set_option linter.unusedVariables false
set_option linter.unusedSimpArgs false
set_option maxRecDepth 100000
theorem rmixed : Tryz.prog.follows .mixedOrders = true := by kernel_rfl
def Tr.blk (k : Int) (s : Set4) (sub : List Tr) (lo hi : Int) : Blk :=
 .mx [.p (i64 k), .p (u64 s.a), .p (u64 s.b), .p (u64 s.c), .p (u64 s.d), .p (.isl 8 (Tr.rowsL sub) none), .p (i64 lo), .p (i64 hi)]
theorem Tr.rows_len (l : List Tr) : (Tr.rowsL l).length = l.length := by rw [Tr.rowsL_eq]; simp
theorem Tr.rows_get {l : List Tr} {i : Nat} {t : Tr} (h : l[i]? = some t) : (Tr.rowsL l)[i]? = some t.cells := by rw [Tr.rowsL_eq, List.getElem?_map, h]; rfl
theorem sum_take {l : List Nat} {i x : Nat} (h : l[i]? = some x) : (l.take (i + 1)).sum = (l.take i).sum + x := by
 rw [List.take_add_one, h]; simp
theorem fold_take {α β : Type} {g : β → α → β} {z : β} {l : List α} {i : Nat} {x : α} (h : l[i]? = some x) : (l.take (i + 1)).foldl g z = g ((l.take i).foldl g z) x := by
 rw [List.take_add_one, h]; simp
theorem wrap_add (a b : Int) : IntKind.i64.wrap (IntKind.i64.wrap a + IntKind.i64.wrap b) = IntKind.i64.wrap (a + b) := by
 unfold IntKind.wrap IntKind.signed IntKind.bits
 simp
 omega
theorem Tr.take8 (t : Tr) : List.take 8 (dropN 0 t.cells) = t.cells := by cases t; rfl
theorem Tr.len8 (t : Tr) : t.cells.length = 8 := by cases t; rfl
theorem mem_get {α : Type} {l : List α} {i : Nat} {x : α} (h : l[i]? = some x) : x ∈ l := List.mem_of_getElem? h
theorem map_get {α β : Type} (g : α → β) {l : List α} {i : Nat} {x : α} (h : l[i]? = some x) : (l.map g)[i]? = some (g x) := by rw [List.getElem?_map, h]; rfl
theorem take_all {α : Type} {l : List α} {n : Nat} (h : l.length ≤ n) : l.take n = l := List.take_of_length_le h
theorem refNodes_fn (T : Tr) (hT : T.Fit) : PF Tryz.prog 186 [T.pv] (i64 (IntKind.i64.wrap T.nodes)) := by
 induction T using Tr.ind' with | h k s sub lo hi ih => ?_
 refine pf_intro rf186_eq rmixed rfl ?_
 (refine hkG ?_)
 refine ⟨[], Nat, fun i => ⟨[(1, .ptr 0 8 0 0), (3, .p (i64 (IntKind.i64.wrap (1 + ((sub.map Tr.nodes).take i).sum : Nat)))), (4, .p (i64 i))], [Tr.blk k s sub lo hi]⟩,
  fun i => i ≤ sub.length, fun i => sub.length - i, ⟨0, Nat.zero_le _, ?_⟩, fun i hi' => ?_⟩
 ·(refine ⟨⟨rfl,rfl⟩,?_,?_⟩<;>((repeat'(first|exact TLe.nil|exact HLe.nil _|refine TLe.cons ?_ ?_|refine HLe.cons ?_ ?_|exact KLe.ptr rfl|exact KLe.sl rfl (.inl rfl)|exact KLe.csl rfl|exact KLe.mpr rfl|refine KLe.pe ?_|refine KLe.tup ?_|refine KLe.agg ?_|refine BLe.pe ?_|refine BLe.mpe ?_|refine BLe.ghe ?_|refine BLe.axe ?_ ?_|refine BLe.mx ?_|exact KLeL.nil|refine KLe.fn ?_ ?_|refine KLeL.cons ?_ ?_|exact KLe.und _|exact BLe.dead _))<;>(try with_reducible rfl)))
  all_goals rfl
 ·have hi' : i ≤ sub.length := hi'
  have hl := Tr.rows_len sub
  have hn := hT.len
  (refine hkG ?_)
  rw [hl]
  (refine bk_split (fun hb=>?_) (fun hb=>?_))
  ·have hlt : i < sub.length := by have := lss_t hb; omega
   obtain ⟨t, ht⟩ : ∃ t, sub[i]? = some t := ⟨_, List.getElem?_eq_getElem hlt⟩
   (refine hkG ?_)
   refine ⟨_, by rw [Int.toNat_natCast]; exact Tr.rows_get ht, ?_⟩
   (refine hkG ?_)
   refine ⟨t.cells, t.take8, t.len8, ?_⟩
   (refine hkG ?_)
   refine vcall_pf (ih t (mem_get ht) (hT.sub t (mem_get ht))) rfl rfl ?_
   (refine hkG ?_)
   refine ⟨i + 1, hlt, (show sub.length - (i + 1) < sub.length - i by omega), ?_⟩
   (refine ⟨⟨rfl,rfl⟩,?_,?_⟩<;>((repeat'(first|exact TLe.nil|exact HLe.nil _|refine TLe.cons ?_ ?_|refine HLe.cons ?_ ?_|exact KLe.ptr rfl|exact KLe.sl rfl (.inl rfl)|exact KLe.csl rfl|exact KLe.mpr rfl|refine KLe.pe ?_|refine KLe.tup ?_|refine KLe.agg ?_|refine BLe.pe ?_|refine BLe.mpe ?_|refine BLe.ghe ?_|refine BLe.axe ?_ ?_|refine BLe.mx ?_|exact KLeL.nil|refine KLe.fn ?_ ?_|refine KLeL.cons ?_ ?_|exact KLe.und _|exact BLe.dead _))<;>(try with_reducible rfl)))
   all_goals first | (exact hkN) | skip
   rw [sum_take (map_get Tr.nodes ht), ← Nat.add_assoc, Int.natCast_add (1 + _), ← wrap_add]
   rfl
  ·have hie : i = sub.length := by have := lss_f hb; omega
   (refine hkG ?_)
   refine ret_pf rfl rfl ?_
   rw [hie, take_all (by simp), Tr.nodes_mk]
theorem wfold_le : ∀ (l : List Nat) (z : Nat), z ≤ 1000000 → l.foldl Tr.wstep z ≤ 1000000
 | [], z, h => h
 | x :: r, z, h => by
   rw [List.foldl_cons]
   exact wfold_le r _ (by unfold Tr.wstep; omega)
theorem weight_le (T : Tr) : T.weight ≤ 1000000 := by
 cases T with | mk k s sub lo hi =>
 have h := wfold_le (sub.map Tr.weight) 1 (by omega)
 rw [Tr.weight_mk]
 unfold Tr.wend
 dsimp only
 split <;> split <;> omega
end Hk
namespace Hk
open Go Go.Proofs
set_option linter.unusedVariables false
set_option linter.unusedSimpArgs false
set_option maxRecDepth 100000
theorem le_sum {l : List Nat} {x : Nat} (h : x ∈ l) : x ≤ l.sum := by
 induction l with
 | nil => cases h
 | cons y r ih =>
   rw [List.sum_cons]
   rcases List.mem_cons.1 h with rfl | h
   ·omega
   ·have := ih h; omega
theorem Tr.nodes_sub {k s sub lo hi} {t : Tr} (h : t ∈ sub) : t.nodes < (Tr.mk k s sub lo hi).nodes := by
 rw [Tr.nodes_mk]
 have := le_sum (List.mem_map_of_mem (f := Tr.nodes) h)
 omega
theorem foldmax_le : ∀ (l : List Nat) (z m : Nat), z ≤ m → (∀ x ∈ l, x ≤ m) → l.foldl max z ≤ m
 | [], z, m, h, _ => h
 | x :: r, z, m, h, hl => by
   rw [List.foldl_cons]
   exact foldmax_le r _ m (Nat.max_le.2 ⟨h, hl x (List.mem_cons_self ..)⟩) fun y hy => hl y (List.mem_cons_of_mem _ hy)
theorem le_foldmax : ∀ (l : List Nat) (z x : Nat), (x = z ∨ x ∈ l) → x ≤ l.foldl max z
 | [], z, x, h => by rcases h with rfl | h; exact Nat.le_refl _; cases h
 | y :: r, z, x, h => by
   rw [List.foldl_cons]
   rcases h with rfl | h
   ·exact Nat.le_trans (Nat.le_max_left _ _) (le_foldmax r _ _ (.inl rfl))
   ·rcases List.mem_cons.1 h with rfl | h
    ·exact Nat.le_trans (Nat.le_max_right _ _) (le_foldmax r _ _ (.inl rfl))
    ·exact le_foldmax r _ _ (.inr h)
theorem Tr.deep_sub {k s sub lo hi} {t : Tr} (h : t ∈ sub) : t.deep < (Tr.mk k s sub lo hi).deep := by
 rw [Tr.deep_mk]
 have := le_foldmax (sub.map Tr.deep) 0 _ (.inr (List.mem_map_of_mem (f := Tr.deep) h))
 omega
theorem deep_le (T : Tr) : T.deep ≤ T.nodes := by
 induction T using Tr.ind' with | h k s sub lo hi ih => ?_
 rw [Tr.deep_mk, Tr.nodes_mk]
 have := foldmax_le (sub.map Tr.deep) 0 (sub.map Tr.nodes).sum (Nat.zero_le _) fun x hx => by
  obtain ⟨t, ht, rfl⟩ := List.mem_map.1 hx
  exact Nat.le_trans (ih t ht) (le_sum (List.mem_map_of_mem ht))
 omega
theorem refDeep_fn (T : Tr) (hT : T.Fit) (hD : T.deep < 2 ^ 62) : PF Tryz.prog 188 [T.pv] (i64 T.deep) := by
 induction T using Tr.ind' with | h k s sub lo hi ih => ?_
 refine pf_intro rf188_eq rmixed rfl ?_
 (refine hkG ?_)
 refine ⟨[], Nat, fun i => ⟨[(1, .ptr 0 8 0 0), (3, .p (i64 (((sub.map Tr.deep).take i).foldl max 0 : Nat))), (4, .p (i64 i))], [Tr.blk k s sub lo hi]⟩,
  fun i => i ≤ sub.length, fun i => sub.length - i, ⟨0, Nat.zero_le _, ?_⟩, fun i hi' => ?_⟩
 ·(refine ⟨⟨rfl,rfl⟩,?_,?_⟩<;>((repeat'(first|exact TLe.nil|exact HLe.nil _|refine TLe.cons ?_ ?_|refine HLe.cons ?_ ?_|exact KLe.ptr rfl|exact KLe.sl rfl (.inl rfl)|exact KLe.csl rfl|exact KLe.mpr rfl|refine KLe.pe ?_|refine KLe.tup ?_|refine KLe.agg ?_|refine BLe.pe ?_|refine BLe.mpe ?_|refine BLe.ghe ?_|refine BLe.axe ?_ ?_|refine BLe.mx ?_|exact KLeL.nil|refine KLe.fn ?_ ?_|refine KLeL.cons ?_ ?_|exact KLe.und _|exact BLe.dead _))<;>(try with_reducible rfl)))
  all_goals rfl
 ·have hi' : i ≤ sub.length := hi'
  have hl := Tr.rows_len sub
  have hn := hT.len
  (refine hkG ?_)
  rw [hl]
  (refine bk_split (fun hb=>?_) (fun hb=>?_))
  ·have hlt : i < sub.length := by have := lss_t hb; omega
   obtain ⟨t, ht⟩ : ∃ t, sub[i]? = some t := ⟨_, List.getElem?_eq_getElem hlt⟩
   have hd := Tr.deep_sub (k := k) (s := s) (lo := lo) (hi := hi) (mem_get ht)
   (refine hkG ?_)
   refine ⟨_, by rw [Int.toNat_natCast]; exact Tr.rows_get ht, ?_⟩
   (refine hkG ?_)
   refine ⟨t.cells, t.take8, t.len8, ?_⟩
   (refine hkG ?_)
   refine vcall_pf (ih t (mem_get ht) (hT.sub t (mem_get ht)) (by omega)) rfl rfl ?_
   (refine hkG ?_)
   have e := fold_take (g := max) (z := 0) (map_get Tr.deep ht)
   (refine bk_split (fun hb=>?_) (fun hb=>?_))
   ·have h1 := gtr_t hb
    (refine hkG ?_)
    refine ⟨i + 1, hlt, (show sub.length - (i + 1) < sub.length - i by omega), ?_⟩
    (refine ⟨⟨rfl,rfl⟩,?_,?_⟩<;>((repeat'(first|exact TLe.nil|exact HLe.nil _|refine TLe.cons ?_ ?_|refine HLe.cons ?_ ?_|exact KLe.ptr rfl|exact KLe.sl rfl (.inl rfl)|exact KLe.csl rfl|exact KLe.mpr rfl|refine KLe.pe ?_|refine KLe.tup ?_|refine KLe.agg ?_|refine BLe.pe ?_|refine BLe.mpe ?_|refine BLe.ghe ?_|refine BLe.axe ?_ ?_|refine BLe.mx ?_|exact KLeL.nil|refine KLe.fn ?_ ?_|refine KLeL.cons ?_ ?_|exact KLe.und _|exact BLe.dead _))<;>(try with_reducible rfl)))
    all_goals first | (exact hkN) | exact congrArg (PV.int .i64) (by rw [e]; omega)
   ·have h1 := gtr_f hb
    (refine hkG ?_)
    refine ⟨i + 1, hlt, (show sub.length - (i + 1) < sub.length - i by omega), ?_⟩
    (refine ⟨⟨rfl,rfl⟩,?_,?_⟩<;>((repeat'(first|exact TLe.nil|exact HLe.nil _|refine TLe.cons ?_ ?_|refine HLe.cons ?_ ?_|exact KLe.ptr rfl|exact KLe.sl rfl (.inl rfl)|exact KLe.csl rfl|exact KLe.mpr rfl|refine KLe.pe ?_|refine KLe.tup ?_|refine KLe.agg ?_|refine BLe.pe ?_|refine BLe.mpe ?_|refine BLe.ghe ?_|refine BLe.axe ?_ ?_|refine BLe.mx ?_|exact KLeL.nil|refine KLe.fn ?_ ?_|refine KLeL.cons ?_ ?_|exact KLe.und _|exact BLe.dead _))<;>(try with_reducible rfl)))
    all_goals first | (exact hkN) | exact congrArg (PV.int .i64) (by rw [e]; omega)
  ·have hie : i = sub.length := by have := lss_f hb; omega
   rw [Tr.deep_mk] at hD
   (refine hkG ?_)
   refine ret_pf rfl rfl (congrArg (PV.int .i64) ?_)
   rw [hie, take_all (by simp), add64 (by omega) (by omega), Tr.deep_mk]
   rfl
theorem set_ne {s : Set4} (h : s ≠ .nil) : cellsEq [u64 s.a, u64 s.b, u64 s.c, u64 s.d] [.int .u64 0, .int .u64 0, .int .u64 0, .int .u64 0] = false := by
 obtain ⟨a, b, c, d⟩ := s
 have e : ∀ x : BitVec 64, ((x.toNat : Int) == 0) = true → x = 0 := fun x hx => by
  have : (x.toNat : Int) = 0 := eq_of_beq hx
  exact BitVec.eq_of_toNat_eq (by simpa using this)
 cases hc : cellsEq _ _ with
 | false => rfl
 | true =>
   simp only [cellsEq, cellEq, Bool.and_eq_true] at hc
   obtain ⟨h1, h2, h3, h4, _⟩ := hc
   rw [e _ h1, e _ h2, e _ h3, e _ h4] at h
   exact absurd rfl h
theorem refNode_fn (T : Tr) (hT : T.Fit) : PF Tryz.prog 189 [T.pv] (.b T.ok) := by
 induction T using Tr.ind' with | h k s sub lo hi ih => ?_
 refine pf_intro rf189_eq rmixed rfl ?_
 (refine hkG ?_)
 refine ⟨[], Nat, fun i => ⟨[(1, .ptr 0 8 0 0), (3, .p (i64 i))], [Tr.blk k s sub lo hi]⟩,
  fun i => i ≤ sub.length ∧ ∀ (j : Nat) t, j < i → sub[j]? = some t → t.ok = true, fun i => sub.length - i, ⟨0, ⟨Nat.zero_le _, fun j t h => absurd h (by omega)⟩, ?_⟩, fun i hi' => ?_⟩
 ·(refine ⟨⟨rfl,rfl⟩,?_,?_⟩<;>((repeat'(first|exact TLe.nil|exact HLe.nil _|refine TLe.cons ?_ ?_|refine HLe.cons ?_ ?_|exact KLe.ptr rfl|exact KLe.sl rfl (.inl rfl)|exact KLe.csl rfl|exact KLe.mpr rfl|refine KLe.pe ?_|refine KLe.tup ?_|refine KLe.agg ?_|refine BLe.pe ?_|refine BLe.mpe ?_|refine BLe.ghe ?_|refine BLe.axe ?_ ?_|refine BLe.mx ?_|exact KLeL.nil|refine KLe.fn ?_ ?_|refine KLeL.cons ?_ ?_|exact KLe.und _|exact BLe.dead _))<;>(try with_reducible rfl)))
  all_goals rfl
 ·obtain ⟨hi', hall⟩ := hi'
  have hl := Tr.rows_len sub
  have hn := hT.len
  (refine hkG ?_)
  rw [hl]
  (refine bk_split (fun hb=>?_) (fun hb=>?_))
  ·have hlt : i < sub.length := by have := lss_t hb; omega
   obtain ⟨t, ht⟩ : ∃ t, sub[i]? = some t := ⟨_, List.getElem?_eq_getElem hlt⟩
   (refine hkG ?_)
   refine ⟨_, by rw [Int.toNat_natCast]; exact Tr.rows_get ht, ?_⟩
   (refine hkG ?_)
   refine ⟨t.cells, t.take8, t.len8, ?_⟩
   (refine hkG ?_)
   refine vcall_pf (ih t (mem_get ht) (hT.sub t (mem_get ht))) rfl rfl ?_
   cases hok : t.ok with
   | false =>
     (refine hkG ?_)
     refine ret_pf rfl rfl (congrArg PV.b ?_)
     rw [Tr.ok_mk, List.all_eq_false.2 ⟨t, mem_get ht, by simp [hok]⟩]
     rfl
   | true =>
     (refine hkG ?_)
     refine ⟨i + 1, ⟨hlt, fun j t' hj ht' => ?_⟩, (show sub.length - (i + 1) < sub.length - i by omega), ?_⟩
     ·rcases Nat.lt_or_ge j i with h | h
      ·exact hall j t' h ht'
      ·have : j = i := by omega
       subst this
       rw [ht] at ht'
       cases ht'
       exact hok
     ·(refine ⟨⟨rfl,rfl⟩,?_,?_⟩<;>((repeat'(first|exact TLe.nil|exact HLe.nil _|refine TLe.cons ?_ ?_|refine HLe.cons ?_ ?_|exact KLe.ptr rfl|exact KLe.sl rfl (.inl rfl)|exact KLe.csl rfl|exact KLe.mpr rfl|refine KLe.pe ?_|refine KLe.tup ?_|refine KLe.agg ?_|refine BLe.pe ?_|refine BLe.mpe ?_|refine BLe.ghe ?_|refine BLe.axe ?_ ?_|refine BLe.mx ?_|exact KLeL.nil|refine KLe.fn ?_ ?_|refine KLeL.cons ?_ ?_|exact KLe.und _|exact BLe.dead _))<;>(try with_reducible rfl)))
      all_goals first | (exact hkN) | skip
  ·have hie : i = sub.length := by have := lss_f hb; omega
   have hall' : sub.all Tr.ok = true := List.all_eq_true.2 fun t ht => by
    obtain ⟨j, hj⟩ := List.getElem?_of_mem ht
    exact hall j t (by have := (List.getElem?_eq_some_iff.1 hj).1; omega) hj
   rw [Tr.ok_mk, hall', Bool.true_and]
   have hgoal : ∀ x, x = Tr.okn k s sub.length lo hi → PV.b x = .b (Tr.okn k s sub.length lo hi) := fun x h => congrArg PV.b h
   by_cases h1 : k = 1
   ·subst h1
    (refine hkG ?_)
    (repeat'((first|(with_reducible refine bkT ?_ ?_;focus ((simp only [cmP])<;>omega))|(with_reducible refine bkF ?_ ?_;focus ((simp only [cmP])<;>omega))|((with_reducible refine bkS (fun hc=>?_) (fun hc=>?_))<;>simp only [cmP] at hc))<;>(refine hkG ?_)))
    all_goals refine ret_pf rfl rfl (hgoal _ ?_)
    all_goals (clear hall hall' ih hT hgoal hb; simp only [hl, intCm] at *; unfold Tr.okn; (repeat' split) <;> (first | rfl | omega | (exact decide_eq_decide.2 (by omega)) | (simp at *; try omega)))
   ·by_cases hs : s = .nil
    ·subst hs
     (refine hkG ?_)
     refine bk_is (neqT h1) ?_
     (refine hkG ?_)
     refine bk_false ?_
     (refine hkG ?_)
     (repeat'((first|(with_reducible refine bkT ?_ ?_;focus ((simp only [cmP])<;>omega))|(with_reducible refine bkF ?_ ?_;focus ((simp only [cmP])<;>omega))|((with_reducible refine bkS (fun hc=>?_) (fun hc=>?_))<;>simp only [cmP] at hc))<;>(refine hkG ?_)))
     all_goals refine ret_pf rfl rfl (hgoal _ ?_)
     all_goals (clear hall hall' ih hT hgoal hb; simp only [hl, intCm] at *; unfold Tr.okn; (repeat' split) <;> (first | rfl | omega | (exact decide_eq_decide.2 (by omega)) | (simp at *; try omega)))
    ·(refine hkG ?_)
     refine bk_is (neqT h1) ?_
     (refine hkG ?_)
     refine bk_is (c := true) (by show (!cellsEq _ _) = true; rw [set_ne hs]; rfl) ?_
     (refine hkG ?_)
     (repeat'((first|(with_reducible refine bkT ?_ ?_;focus ((simp only [cmP])<;>omega))|(with_reducible refine bkF ?_ ?_;focus ((simp only [cmP])<;>omega))|((with_reducible refine bkS (fun hc=>?_) (fun hc=>?_))<;>simp only [cmP] at hc))<;>(refine hkG ?_)))
     all_goals refine ret_pf rfl rfl (hgoal _ ?_)
     all_goals (unfold Tr.okn; rw [if_pos (.inl ⟨h1, hs⟩)])
theorem refMay_fn (T : Tr) (hT : T.Fit) (hn : T.nodes < 2 ^ 62) : PF Tryz.prog 134 [T.pv] (.b T.may) := by
 have hd := deep_le T
 have hw : IntKind.i64.wrap T.nodes = T.nodes := wrap_i64 (by omega) (by omega)
 have h1 := refNodes_fn T hT
 have h2 := refDeep_fn T hT (by omega)
 have h3 := refNode_fn T hT
 rw [hw] at h1
 unfold Tr.may
 obtain ⟨k, s, sub, lo, hi⟩ := T
 refine pf_intro rf134_eq rmixed rfl ?_
 (refine hkG ?_)
 refine vcall_pf h1 rfl rfl ?_
 (refine hkG ?_)
 rcases Nat.lt_or_ge 300 (Tr.nodes (.mk k s sub lo hi)) with h4 | h4
 ·rw [decide_eq_false (by omega)]
  refine bk_is (leqF (by omega)) ?_
  (refine hkG ?_)
  exact ret_pf rfl rfl rfl
 rw [decide_eq_true h4]
 refine bk_is (leqT (by omega)) ?_
 (refine hkG ?_)
 refine vcall_pf h2 rfl rfl ?_
 (refine hkG ?_)
 rcases Nat.lt_or_ge 30 (Tr.deep (.mk k s sub lo hi)) with h5 | h5
 ·rw [decide_eq_false (by omega)]
  refine bk_is (leqF (by omega)) ?_
  (refine hkG ?_)
  exact ret_pf rfl rfl rfl
 rw [decide_eq_true h5]
 refine bk_is (leqT (by omega)) ?_
 (refine hkG ?_)
 refine vcall_pf h3 rfl rfl ?_
 (refine hkG ?_)
 exact ret_pf rfl rfl rfl
end Hk
namespace Hk
open Go Go.Proofs
set_option linter.unusedVariables false
set_option linter.unusedSimpArgs false
set_option maxRecDepth 100000
def mstep (d : Nat) (a x : Nat) : Nat := max a (d + x)
theorem mfold (d : Nat) : ∀ (l : List Nat) (z y : Nat), l.foldl (mstep d) (max z (d + y)) = max z (d + l.foldl max y)
 | [], z, y => rfl
 | x :: r, z, y => by
   rw [List.foldl_cons, List.foldl_cons, ← mfold d r z (max y x)]
   congr 1
   unfold mstep
   omega
theorem mfold_le (d m : Nat) : ∀ (l : List Nat) (z : Nat), z ≤ m → (∀ x ∈ l, d + x ≤ m) → l.foldl (mstep d) z ≤ m
 | [], z, h, _ => h
 | x :: r, z, h, hl => by
   rw [List.foldl_cons]
   exact mfold_le d m r _ (Nat.max_le.2 ⟨h, hl x (List.mem_cons_self ..)⟩) fun y hy => hl y (List.mem_cons_of_mem _ hy)
def walkB (n m : Nat) : Blk := .mx [.p (i64 (IntKind.i64.wrap n)), .p (i64 m)]
theorem walkNode_fn (T : Tr) (hT : T.Fit) (n m d : Nat) (hd : d + T.deep < 2 ^ 62) (hm : m < 2 ^ 62) :
 Fn Tryz.prog 224 [.ptr 0 2 0 0, .p T.pv, .p (i64 d)] [walkB n m] [] (fun r H' => r = .undef ∧ H' = [walkB (n + T.nodes) (max m (d + T.deep - 1))]) := by
 induction T using Tr.ind' generalizing n m d with | h k s sub lo hi ih => ?_
 refine f_intro rf224_eq rmixed rfl ?_
 have hl := Tr.rows_len sub
 have hn := hT.len
 (refine hkG ?_)
 refine ⟨[], Nat, fun i => ⟨[(0, .ptr 0 2 0 0), (2, .p (i64 d)), (4, .ptr 1 8 0 0), (25, .p (i64 sub.length)), (26, .p (i64 i))],
  [walkB (n + 1 + ((sub.map Tr.nodes).take i).sum) (((sub.map Tr.deep).take i).foldl (mstep d) (max m d)), Tr.blk k s sub lo hi]⟩,
  fun i => i ≤ sub.length, fun i => sub.length - i, ⟨0, Nat.zero_le _, ?_⟩, fun i hi' => ?_⟩
 ·(refine ⟨⟨rfl,rfl⟩,?_,?_⟩<;>((repeat'(first|exact TLe.nil|exact HLe.nil _|refine TLe.cons ?_ ?_|refine HLe.cons ?_ ?_|exact KLe.ptr rfl|exact KLe.sl rfl (.inl rfl)|exact KLe.csl rfl|exact KLe.mpr rfl|refine KLe.pe ?_|refine KLe.tup ?_|refine KLe.agg ?_|refine BLe.pe ?_|refine BLe.mpe ?_|refine BLe.ghe ?_|refine BLe.axe ?_ ?_|refine BLe.mx ?_|exact KLeL.nil|refine KLe.fn ?_ ?_|refine KLeL.cons ?_ ?_|exact KLe.und _|exact BLe.dead _))<;>(try with_reducible rfl)))
  ·rw [hl]
  ·rfl
  ·refine congrArg (PV.int .i64) ?_
   have h1 := wrap_add n 1
   rw [show (IntKind.i64.wrap 1) = 1 by decide] at h1
   rw [List.take_zero, List.sum_nil, Nat.add_zero, Int.natCast_add]
   exact h1
  ·refine congrArg (PV.int .i64) ?_
   show max (m : Int) d = ((max m d : Nat) : Int)
   omega
 ·have hi' : i ≤ sub.length := hi'
  (refine hkG ?_)
  (refine bk_split (fun hb=>?_) (fun hb=>?_))
  ·have hlt : i < sub.length := by have := lss_t hb; omega
   obtain ⟨t, ht⟩ : ∃ t, sub[i]? = some t := ⟨_, List.getElem?_eq_getElem hlt⟩
   have hdt := Tr.deep_sub (k := k) (s := s) (lo := lo) (hi := hi) (mem_get ht)
   (refine hkG ?_)
   refine ⟨_, by rw [Int.toNat_natCast]; exact Tr.rows_get ht, ?_⟩
   (refine hkG ?_)
   refine ⟨t.cells, t.take8, t.len8, ?_⟩
   (refine hkG ?_)
   have hmi : ((sub.map Tr.deep).take i).foldl (mstep d) (max m d) < 2 ^ 62 := by
    have := mfold_le d (2 ^ 62 - 1) ((sub.map Tr.deep).take i) (max m d) (by omega) fun x hx => by
     obtain ⟨t', ht', rfl⟩ := List.mem_map.1 (List.mem_of_mem_take hx)
     have := Tr.deep_sub (k := k) (s := s) (lo := lo) (hi := hi) ht'
     omega
    omega
   refine vcall_own [0] (ih t (mem_get ht) (hT.sub t (mem_get ht)) _ _ (d + 1) (by omega) hmi) rfl rfl (.cons (.ptr rfl) (.cons (.pe rfl) (.cons (.pe ?_) .nil))) ?_
   ·exact congrArg (PV.int .i64) (by rw [add64 (by omega) (by omega)]; omega)
   rintro r H' ⟨rfl, rfl⟩
   (refine hkG ?_)
   refine ⟨i + 1, hlt, (show sub.length - (i + 1) < sub.length - i by omega), ?_⟩
   (refine ⟨⟨rfl,rfl⟩,?_,?_⟩<;>((repeat'(first|exact TLe.nil|exact HLe.nil _|refine TLe.cons ?_ ?_|refine HLe.cons ?_ ?_|exact KLe.ptr rfl|exact KLe.sl rfl (.inl rfl)|exact KLe.csl rfl|exact KLe.mpr rfl|refine KLe.pe ?_|refine KLe.tup ?_|refine KLe.agg ?_|refine BLe.pe ?_|refine BLe.mpe ?_|refine BLe.ghe ?_|refine BLe.axe ?_ ?_|refine BLe.mx ?_|exact KLeL.nil|refine KLe.fn ?_ ?_|refine KLeL.cons ?_ ?_|exact KLe.und _|exact BLe.dead _))<;>(try with_reducible rfl)))
   all_goals first | (exact hkN) | skip
   ·rw [sum_take (map_get Tr.nodes ht), ← Nat.add_assoc]
   ·rw [fold_take (map_get Tr.deep ht)]
    unfold mstep
    rw [show d + 1 + t.deep - 1 = d + t.deep by omega]
  ·have hie : i = sub.length := by have := lss_f hb; omega
   (refine hkG ?_)
   refine ⟨.undef, [walkB (n + (Tr.mk k s sub lo hi).nodes) (max m (d + (Tr.mk k s sub lo hi).deep - 1))], ⟨rfl, rfl⟩, ⟨rfl, rfl⟩, ?_, ?_⟩
   all_goals (((repeat'(first|exact TLe.nil|exact HLe.nil _|refine TLe.cons ?_ ?_|refine HLe.cons ?_ ?_|exact KLe.ptr rfl|exact KLe.sl rfl (.inl rfl)|exact KLe.csl rfl|exact KLe.mpr rfl|refine KLe.pe ?_|refine KLe.tup ?_|refine KLe.agg ?_|refine BLe.pe ?_|refine BLe.mpe ?_|refine BLe.ghe ?_|refine BLe.axe ?_ ?_|refine BLe.mx ?_|exact KLeL.nil|refine KLe.fn ?_ ?_|refine KLeL.cons ?_ ?_|exact KLe.und _|exact BLe.dead _))<;>(try with_reducible rfl)))
   ·rw [hie, take_all (by simp), Tr.nodes_mk, ← Nat.add_assoc]
   ·rw [hie, take_all (by simp), Tr.deep_mk]
    refine congrArg (fun x : Nat => i64 x) ?_
    have := mfold d (sub.map Tr.deep) m 0
    rw [Nat.add_zero] at this
    rw [this]
    omega
theorem walked_fn (T : Tr) (hT : T.Fit) (hD : T.deep < 2 ^ 61) : PF Tryz.prog 169 [T.pv] (.agg [i64 (IntKind.i64.wrap T.nodes), i64 T.deep]) := by
 have h1 := walkNode_fn T hT 0 0 1 (by omega) (by omega)
 obtain ⟨k, s, sub, lo, hi⟩ := T
 refine pf_intro rf169_eq rmixed rfl ?_
 (refine hkG ?_)
 refine vcall_own [2] h1 rfl rfl (.cons (.ptr rfl) (.cons (.pe rfl) (.cons (.pe rfl) .nil))) ?_
 rintro r H' ⟨rfl, rfl⟩
 (refine hkG ?_)
 refine ret_pf rfl rfl ?_
 rw [Nat.zero_add, show max 0 (1 + (Tr.mk k s sub lo hi).deep - 1) = (Tr.mk k s sub lo hi).deep by omega]
theorem bareOf_fn (k : Int) (s : Set4) (sub : List Tr) (lo hi : Int) : PF Tryz.prog 257 [(Tr.mk k s sub lo hi).pv] (.agg ([i64 k, i64 lo, i64 hi, i64 sub.length] ++ s.cells)) := by
 have hl := Tr.rows_len sub
 refine pf_intro rf257_eq rmixed rfl ?_
 (refine hkG ?_)
 refine ret_pf rfl rfl ?_
 rw [← hl]
 rfl
theorem cells8 (a b c d a' b' c' d' : Int) (s t : Set4) :
 cellsEq [i64 a, i64 b, i64 c, i64 d, u64 s.a, u64 s.b, u64 s.c, u64 s.d] [i64 a', i64 b', i64 c', i64 d', u64 t.a, u64 t.b, u64 t.c, u64 t.d] =
  decide (a = a' ∧ b = b' ∧ c = c' ∧ d = d' ∧ s = t) := by
 have e : ∀ x y : BitVec 64, ((x.toNat : Int) == y.toNat) = decide (x = y) := fun x y => by
  rw [Bool.eq_iff_iff, beq_iff_eq, decide_eq_true_iff]
  exact ⟨fun h => BitVec.eq_of_toNat_eq (by omega), fun h => by rw [h]⟩
 have es : decide (s = t) = (decide (s.a = t.a) && (decide (s.b = t.b) && (decide (s.c = t.c) && decide (s.d = t.d)))) := by
  rw [Bool.eq_iff_iff]
  obtain ⟨a, b, c, d⟩ := s
  obtain ⟨a', b', c', d'⟩ := t
  simp
 simp only [cellsEq, cellEq, e, Bool.and_true]
 rw [Bool.eq_iff_iff]
 simp only [Bool.and_eq_true, decide_eq_true_iff, beq_iff_eq]
 have := Bool.eq_iff_iff.1 es
 simp only [Bool.and_eq_true, decide_eq_true_iff] at this
 rw [this]
theorem bk_c8 {K : Bool → Prop} (a b c d a' b' c' d' : Int) (s t : Set4) (h1 : (a = a' ∧ b = b' ∧ c = c' ∧ d = d' ∧ s = t) → K true) (h2 : ¬ (a = a' ∧ b = b' ∧ c = c' ∧ d = d' ∧ s = t) → K false) :
 bk (cellsEq [i64 a, i64 b, i64 c, i64 d, u64 s.a, u64 s.b, u64 s.c, u64 s.d] [i64 a', i64 b', i64 c', i64 d', u64 t.a, u64 t.b, u64 t.c, u64 t.d]) K := by
 refine bk_split (fun h => h1 ?_) (fun h => h2 ?_)
 ·rw [cells8] at h; exact of_decide_eq_true h
 ·rw [cells8] at h; exact of_decide_eq_false h
theorem bk_nc8 {K : Bool → Prop} (a b c d a' b' c' d' : Int) (s t : Set4) (h1 : (a = a' ∧ b = b' ∧ c = c' ∧ d = d' ∧ s = t) → K false) (h2 : ¬ (a = a' ∧ b = b' ∧ c = c' ∧ d = d' ∧ s = t) → K true) :
 bk (!cellsEq [i64 a, i64 b, i64 c, i64 d, u64 s.a, u64 s.b, u64 s.c, u64 s.d] [i64 a', i64 b', i64 c', i64 d', u64 t.a, u64 t.b, u64 t.c, u64 t.d]) K := by
 refine bk_split (fun h => h2 ?_) (fun h => h1 ?_)
 ·rw [cells8, Bool.not_eq_true'] at h; exact of_decide_eq_false h
 ·rw [cells8, Bool.not_eq_false'] at h; exact of_decide_eq_true h
theorem rxNode_fn (k : Int) (s : Set4) (sub : List Tr) (lo hi : Int) : PF Tryz.prog 225 [(Tr.mk k s sub lo hi).pv] (.b (Tr.okn k s sub.length lo hi)) := by
 have hl := Tr.rows_len sub
 have h1 := bareOf_fn k s sub lo hi
 have hgoal : ∀ x, x = Tr.okn k s sub.length lo hi → PV.b x = .b (Tr.okn k s sub.length lo hi) := fun x h => congrArg PV.b h
 refine pf_intro rf225_eq rmixed rfl ?_
 (refine hkG ?_)
 refine vcall_pf h1 rfl rfl ?_
 (refine hkG ?_)
 by_cases k0 : k = 0
 ·subst k0
  (refine hkD ?_)
  refine ret_pf rfl rfl (hgoal _ ?_)
  refine (cells8 0 lo hi sub.length 0 0 0 0 s .nil).trans ?_
  unfold Tr.okn
  simp
  (first | omega | (rw [Bool.eq_iff_iff]; simp; omega) | (by_cases hs : s = .nil <;> simp_all <;> omega) | (by_cases hs : s = .nil <;> simp_all [Bool.and_assoc]) | (by_cases hs : s = .nil <;> by_cases ha : lo = 0 <;> by_cases hb : hi = 0 <;> by_cases hc : sub.length = 0 <;> simp_all <;> omega) | (by_cases hs : s = .nil <;> by_cases ha : lo = 0 <;> by_cases hb : hi = 0 <;> by_cases hc : sub.length = 0 <;> simp_all) | trace_state)
 by_cases k1 : k = 1
 ·subst k1
  (refine hkD ?_)
  refine ret_pf rfl rfl (hgoal _ ?_)
  refine (cells8 1 lo hi sub.length 1 0 0 0 s s).trans ?_
  unfold Tr.okn
  simp
  (first | omega | (rw [Bool.eq_iff_iff]; simp; omega) | (by_cases hs : s = .nil <;> simp_all <;> omega) | (by_cases hs : s = .nil <;> simp_all [Bool.and_assoc]) | (by_cases hs : s = .nil <;> by_cases ha : lo = 0 <;> by_cases hb : hi = 0 <;> by_cases hc : sub.length = 0 <;> simp_all <;> omega) | (by_cases hs : s = .nil <;> by_cases ha : lo = 0 <;> by_cases hb : hi = 0 <;> by_cases hc : sub.length = 0 <;> simp_all) | trace_state)
 by_cases k2 : k = 2
 ·subst k2
  (refine hkD ?_)
  rw [hl]
  refine bk_c8 2 lo hi sub.length 2 0 0 sub.length s .nil (fun h => ?_) (fun h => ?_)
  ·(refine hkG ?_)
   refine ret_pf rfl rfl (hgoal _ ?_)
   obtain ⟨-, rfl, rfl, -, rfl⟩ := h
   unfold Tr.okn
   simp [intCm, hl]
   (first | omega | (rw [Bool.eq_iff_iff]; simp; omega) | (by_cases hs : s = .nil <;> simp_all <;> omega) | (by_cases hs : s = .nil <;> simp_all [Bool.and_assoc]) | (by_cases hs : s = .nil <;> by_cases ha : lo = 0 <;> by_cases hb : hi = 0 <;> by_cases hc : sub.length = 0 <;> simp_all <;> omega) | (by_cases hs : s = .nil <;> by_cases ha : lo = 0 <;> by_cases hb : hi = 0 <;> by_cases hc : sub.length = 0 <;> simp_all) | trace_state)
  ·(refine hkG ?_)
   refine ret_pf rfl rfl (hgoal _ ?_)
   unfold Tr.okn
   simp at h ⊢
   (first | omega | (rw [Bool.eq_iff_iff]; simp; omega) | (by_cases hs : s = .nil <;> simp_all <;> omega) | (by_cases hs : s = .nil <;> simp_all [Bool.and_assoc]) | (by_cases hs : s = .nil <;> by_cases ha : lo = 0 <;> by_cases hb : hi = 0 <;> by_cases hc : sub.length = 0 <;> simp_all <;> omega) | (by_cases hs : s = .nil <;> by_cases ha : lo = 0 <;> by_cases hb : hi = 0 <;> by_cases hc : sub.length = 0 <;> simp_all) | trace_state)
 by_cases k3 : k = 3
 ·subst k3
  (refine hkD ?_)
  rw [hl]
  refine bk_c8 3 lo hi sub.length 3 0 0 sub.length s .nil (fun h => ?_) (fun h => ?_)
  ·(refine hkG ?_)
   refine ret_pf rfl rfl (hgoal _ ?_)
   obtain ⟨-, rfl, rfl, -, rfl⟩ := h
   unfold Tr.okn
   simp [intCm, hl]
   (first | omega | (rw [Bool.eq_iff_iff]; simp; omega) | (by_cases hs : s = .nil <;> simp_all <;> omega) | (by_cases hs : s = .nil <;> simp_all [Bool.and_assoc]) | (by_cases hs : s = .nil <;> by_cases ha : lo = 0 <;> by_cases hb : hi = 0 <;> by_cases hc : sub.length = 0 <;> simp_all <;> omega) | (by_cases hs : s = .nil <;> by_cases ha : lo = 0 <;> by_cases hb : hi = 0 <;> by_cases hc : sub.length = 0 <;> simp_all) | trace_state)
  ·(refine hkG ?_)
   refine ret_pf rfl rfl (hgoal _ ?_)
   unfold Tr.okn
   simp at h ⊢
   (first | omega | (rw [Bool.eq_iff_iff]; simp; omega) | (by_cases hs : s = .nil <;> simp_all <;> omega) | (by_cases hs : s = .nil <;> simp_all [Bool.and_assoc]) | (by_cases hs : s = .nil <;> by_cases ha : lo = 0 <;> by_cases hb : hi = 0 <;> by_cases hc : sub.length = 0 <;> simp_all <;> omega) | (by_cases hs : s = .nil <;> by_cases ha : lo = 0 <;> by_cases hb : hi = 0 <;> by_cases hc : sub.length = 0 <;> simp_all) | trace_state)
 by_cases k4 : k = 4
 ·subst k4
  (refine hkD ?_)
  refine bk_nc8 4 lo hi sub.length 4 lo hi 1 s .nil (fun h => ?_) (fun h => ?_)
  ·obtain ⟨-, -, -, hs1, rfl⟩ := h
   (refine hkG ?_)
   (repeat'((first|(with_reducible refine bkT ?_ ?_;focus ((simp only [cmP])<;>omega))|(with_reducible refine bkF ?_ ?_;focus ((simp only [cmP])<;>omega))|((with_reducible refine bkS (fun hc=>?_) (fun hc=>?_))<;>simp only [cmP] at hc))<;>(refine hkG ?_)))
   all_goals refine ret_pf rfl rfl (hgoal _ ?_)
   all_goals unfold Tr.okn
   all_goals simp [intCm]
   all_goals (first | omega | (rw [Bool.eq_iff_iff]; simp; omega) | (by_cases hs : s = .nil <;> simp_all <;> omega) | (by_cases hs : s = .nil <;> simp_all [Bool.and_assoc]) | (by_cases hs : s = .nil <;> by_cases ha : lo = 0 <;> by_cases hb : hi = 0 <;> by_cases hc : sub.length = 0 <;> simp_all <;> omega) | (by_cases hs : s = .nil <;> by_cases ha : lo = 0 <;> by_cases hb : hi = 0 <;> by_cases hc : sub.length = 0 <;> simp_all) | trace_state)
  ·(refine hkG ?_)
   refine ret_pf rfl rfl (hgoal _ ?_)
   unfold Tr.okn
   simp at h ⊢
   (first | omega | (rw [Bool.eq_iff_iff]; simp; omega) | (by_cases hs : s = .nil <;> simp_all <;> omega) | (by_cases hs : s = .nil <;> simp_all [Bool.and_assoc]) | (by_cases hs : s = .nil <;> by_cases ha : lo = 0 <;> by_cases hb : hi = 0 <;> by_cases hc : sub.length = 0 <;> simp_all <;> omega) | (by_cases hs : s = .nil <;> by_cases ha : lo = 0 <;> by_cases hb : hi = 0 <;> by_cases hc : sub.length = 0 <;> simp_all) | trace_state)
 (refine hkD ?_)
 refine ret_pf rfl rfl (hgoal _ ?_)
 unfold Tr.okn
 simp [k0, k1, k2, k3, k4]
theorem indexFunc_fn (f : Nat) (g : Tr → Bool) (l : List Tr) (hl : l.length < 2 ^ 63) (hf : ∀ t ∈ l, PF Tryz.prog f [t.pv] (.b (g t))) :
 PF Tryz.prog 168 [.isl 8 (Tr.rowsL l) none, .fn f [] []] (i64 (match l.findIdx? g with | some i => (i : Int) | none => -1)) := by
 have hrl := Tr.rows_len l
 refine pf_intro rf168_eq rmixed rfl ?_
 (refine hkG ?_)
 refine ⟨[], Nat, fun i => ⟨[(0, .p (.isl 8 (Tr.rowsL l) none)), (1, .p (.fn f [] [])), (7, .p (i64 l.length)), (8, .p (i64 i))], []⟩,
  fun i => i ≤ l.length ∧ ∀ (j : Nat) t, j < i → l[j]? = some t → g t = false, fun i => l.length - i, ⟨0, ⟨Nat.zero_le _, fun j t h => absurd h (by omega)⟩, ?_⟩, fun i hi => ?_⟩
 ·(refine ⟨⟨rfl,rfl⟩,?_,?_⟩<;>((repeat'(first|exact TLe.nil|exact HLe.nil _|refine TLe.cons ?_ ?_|refine HLe.cons ?_ ?_|exact KLe.ptr rfl|exact KLe.sl rfl (.inl rfl)|exact KLe.csl rfl|exact KLe.mpr rfl|refine KLe.pe ?_|refine KLe.tup ?_|refine KLe.agg ?_|refine BLe.pe ?_|refine BLe.mpe ?_|refine BLe.ghe ?_|refine BLe.axe ?_ ?_|refine BLe.mx ?_|exact KLeL.nil|refine KLe.fn ?_ ?_|refine KLeL.cons ?_ ?_|exact KLe.und _|exact BLe.dead _))<;>(try with_reducible rfl)))
  ·rw [hrl]
  ·rfl
 ·obtain ⟨hi, hno⟩ := hi
  (refine hkG ?_)
  (refine bk_split (fun hb=>?_) (fun hb=>?_))
  ·have hlt : i < l.length := by have := lss_t hb; omega
   obtain ⟨t, ht⟩ : ∃ t, l[i]? = some t := ⟨_, List.getElem?_eq_getElem hlt⟩
   (refine hkG ?_)
   refine ⟨_, by rw [Int.toNat_natCast]; exact Tr.rows_get ht, ?_⟩
   (refine hkG ?_)
   refine ⟨t.cells, t.take8, t.len8, ?_⟩
   (refine hkG ?_)
   refine vcall_pf (hf t (mem_get ht)) rfl rfl ?_
   cases hg : g t with
   | true =>
     have e : l.findIdx? g = some i := by
      rw [List.findIdx?_eq_some_iff_getElem]
      obtain ⟨h1, h2⟩ := List.getElem?_eq_some_iff.1 ht
      refine ⟨h1, by rw [h2]; exact hg, fun j hj => ?_⟩
      rw [hno j _ hj (List.getElem?_eq_getElem (by omega))]
      simp
     rw [e]
     (refine hkG ?_)
     exact ret_pf rfl rfl rfl
   | false =>
     (refine hkG ?_)
     refine ⟨i + 1, ⟨hlt, fun j t' hj ht' => ?_⟩, (show l.length - (i + 1) < l.length - i by omega), ?_⟩
     ·rcases Nat.lt_or_ge j i with h | h
      ·exact hno j t' h ht'
      ·have : j = i := by omega
       subst this
       rw [ht] at ht'
       cases ht'
       exact hg
     ·(refine ⟨⟨rfl,rfl⟩,?_,?_⟩<;>((repeat'(first|exact TLe.nil|exact HLe.nil _|refine TLe.cons ?_ ?_|refine HLe.cons ?_ ?_|exact KLe.ptr rfl|exact KLe.sl rfl (.inl rfl)|exact KLe.csl rfl|exact KLe.mpr rfl|refine KLe.pe ?_|refine KLe.tup ?_|refine KLe.agg ?_|refine BLe.pe ?_|refine BLe.mpe ?_|refine BLe.ghe ?_|refine BLe.axe ?_ ?_|refine BLe.mx ?_|exact KLeL.nil|refine KLe.fn ?_ ?_|refine KLeL.cons ?_ ?_|exact KLe.und _|exact BLe.dead _))<;>(try with_reducible rfl)))
      all_goals first | (exact hkN) | skip
  ·have hie : i = l.length := by have := lss_f hb; omega
   have e : l.findIdx? g = none := by
    rw [List.findIdx?_eq_none_iff]
    intro t ht
    obtain ⟨j, hj⟩ := List.getElem?_of_mem ht
    rw [hno j t (by have := (List.getElem?_eq_some_iff.1 hj).1; omega) hj]
   rw [e]
   (refine hkG ?_)
   exact ret_pf rfl rfl rfl
theorem containsFunc_fn (f : Nat) (g : Tr → Bool) (l : List Tr) (hl : l.length < 2 ^ 63) (hf : ∀ t ∈ l, PF Tryz.prog f [t.pv] (.b (g t))) :
 PF Tryz.prog 112 [.isl 8 (Tr.rowsL l) none, .fn f [] []] (.b (l.any g)) := by
 refine pf_intro rf112_eq rmixed rfl ?_
 (refine hkG ?_)
 refine vcall_pf (indexFunc_fn f g l hl hf) rfl rfl ?_
 (refine hkG ?_)
 refine ret_pf rfl rfl (congrArg PV.b ?_)
 cases e : l.findIdx? g with
 | none =>
   have := List.findIdx?_eq_none_iff.1 e
   show intCm .geq (-1) 0 = _
   rw [geqF (by omega)]
   exact (List.any_eq_false.2 fun t ht => by simp [this t ht]).symm
 | some i =>
   obtain ⟨h1, h2, _⟩ := List.findIdx?_eq_some_iff_getElem.1 e
   show intCm .geq (i : Int) 0 = _
   rw [geqT (by omega)]
   exact (List.any_eq_true.2 ⟨_, List.getElem_mem h1, h2⟩).symm
theorem rxNodesOk_fn (T : Tr) (hT : T.Fit) : PF Tryz.prog 170 [T.pv] (.b T.ok) := by
 induction T using Tr.ind' with | h k s sub lo hi ih => ?_
 have hs : ∀ t ∈ sub, PF Tryz.prog 226 [t.pv] (.b (!t.ok)) := fun t ht => by
  have h1 := ih t ht (hT.sub t ht)
  obtain ⟨k', s', sub', lo', hi'⟩ := t
  refine pf_intro rf226_eq rmixed rfl ?_
  (refine hkG ?_)
  refine vcall_pf h1 rfl rfl ?_
  (refine hkG ?_)
  exact ret_pf rfl rfl rfl
 refine pf_intro rf170_eq rmixed rfl ?_
 (refine hkG ?_)
 refine vcall_pf (rxNode_fn k s sub lo hi) rfl rfl ?_
 rw [Tr.ok_mk]
 cases ho : Tr.okn k s sub.length lo hi with
 | false =>
   (refine hkG ?_)
   refine ret_pf rfl rfl (congrArg PV.b (by simp))
 | true =>
   (refine hkG ?_)
   refine vcall_pf (containsFunc_fn 226 (fun t => !t.ok) sub hT.len hs) rfl rfl ?_
   (refine hkG ?_)
   refine ret_pf rfl rfl (congrArg PV.b ?_)
   rw [Bool.and_true, List.all_eq_not_any_not]
theorem rxMay_fn (T : Tr) (hT : T.Fit) (hn : T.nodes < 2 ^ 61) : PF Tryz.prog 114 [T.pv] (.b T.may) := by
 have hd := deep_le T
 have hw : IntKind.i64.wrap T.nodes = T.nodes := wrap_i64 (by omega) (by omega)
 have h1 := walked_fn T hT (by omega)
 have h3 := rxNodesOk_fn T hT
 rw [hw] at h1
 unfold Tr.may
 obtain ⟨k, s, sub, lo, hi⟩ := T
 refine pf_intro rf114_eq rmixed rfl ?_
 (refine hkG ?_)
 refine vcall_pf h1 rfl rfl ?_
 (refine hkG ?_)
 rcases Nat.lt_or_ge 300 (Tr.nodes (.mk k s sub lo hi)) with h4 | h4
 ·rw [decide_eq_false (by omega)]
  refine bk_is (leqF (by omega)) ?_
  (refine hkG ?_)
  exact ret_pf rfl rfl rfl
 rw [decide_eq_true h4]
 refine bk_is (leqT (by omega)) ?_
 (refine hkG ?_)
 rcases Nat.lt_or_ge 30 (Tr.deep (.mk k s sub lo hi)) with h5 | h5
 ·rw [decide_eq_false (by omega)]
  refine bk_is (leqF (by omega)) ?_
  (refine hkG ?_)
  exact ret_pf rfl rfl rfl
 rw [decide_eq_true h5]
 refine bk_is (leqT (by omega)) ?_
 (refine hkG ?_)
 refine vcall_pf h3 rfl rfl ?_
 (refine hkG ?_)
 exact ret_pf rfl rfl rfl
end Hk
namespace Hk
open Go Go.Proofs
set_option linter.unusedVariables false
set_option linter.unusedSimpArgs false
set_option maxRecDepth 100000
theorem ofInt64 (a : BitVec 64) : BitVec.ofInt 64 (a.toNat : Int) = a := by simp
theorem u64_or (a b : BitVec 64) : intAr .or .u64 (a.toNat : Int) (b.toNat : Int) = ((a ||| b).toNat : Int) := by
 show IntKind.u64.wrap ((BitVec.ofInt 64 _ ||| BitVec.ofInt 64 _).toNat : Int) = _
 rw [ofInt64, ofInt64, wrap_u64]
 have := (a ||| b).isLt
 omega
theorem orF_fn (x y : BitVec 64) : PF Tryz.prog 256 [u64 x, u64 y] (u64 (x ||| y)) := by
 refine pf_intro rf256_eq rmixed rfl ?_
 (refine hkG ?_)
 exact ret_pf rfl rfl (congrArg (PV.int .u64) (u64_or x y))
theorem u64_and (a b : BitVec 64) : intAr .and .u64 (a.toNat : Int) (b.toNat : Int) = ((a &&& b).toNat : Int) := by
 show IntKind.u64.wrap ((BitVec.ofInt 64 _ &&& BitVec.ofInt 64 _).toNat : Int) = _
 rw [ofInt64, ofInt64, wrap_u64]
 have := (a &&& b).isLt
 omega
theorem andF_fn (x y : BitVec 64) : PF Tryz.prog 259 [u64 x, u64 y] (u64 (x &&& y)) := by
 refine pf_intro rf259_eq rmixed rfl ?_
 (refine hkG ?_)
 exact ret_pf rfl rfl (congrArg (PV.int .u64) (u64_and x y))
def Set4.map2 (g : BitVec 64 → BitVec 64 → BitVec 64) (s t : Set4) : Set4 := ⟨g s.a t.a, g s.b t.b, g s.c t.c, g s.d t.d⟩
def Set4.and (s t : Set4) : Set4 := s.map2 (· &&& ·) t
def mapTo (g : BitVec 64 → BitVec 64 → BitVec 64) (s t : Set4) (i : Nat) : Set4 :=
 ⟨if 0 < i then g s.a t.a else s.a, if 1 < i then g s.b t.b else s.b, if 2 < i then g s.c t.c else s.c, if 3 < i then g s.d t.d else s.d⟩
theorem each_fn (f : Nat) (g : BitVec 64 → BitVec 64 → BitVec 64) (hf : ∀ x y, PF Tryz.prog f [u64 x, u64 y] (u64 (g x y))) (s t : Set4) : PF Tryz.prog 255 [.agg s.cells, .agg t.cells, .fn f [] []] (.agg (s.map2 g t).cells) := by
 refine pf_intro rf255_eq rmixed rfl ?_
 (refine hkG ?_)
 refine ⟨[], Nat, fun i => ⟨[(2, .p (.fn f [] [])), (3, .ptr 0 4 0 0), (4, .ptr 1 4 0 0), (6, .ptr 2 4 0 0), (8, .p (i64 i))],
  [.pr 4 [(mapTo g s t i).cells], .pr 4 [t.cells], .pr 4 [Set4.nil.cells]]⟩, fun i => i ≤ 4, fun i => 4 - i, ⟨0, by omega, ?_⟩, fun i hi => ?_⟩
 ·(refine ⟨⟨rfl,rfl⟩,?_,?_⟩<;>((repeat'(first|exact TLe.nil|exact HLe.nil _|refine TLe.cons ?_ ?_|refine HLe.cons ?_ ?_|exact KLe.ptr rfl|exact KLe.sl rfl (.inl rfl)|exact KLe.csl rfl|exact KLe.mpr rfl|refine KLe.pe ?_|refine KLe.tup ?_|refine KLe.agg ?_|refine BLe.pe ?_|refine BLe.mpe ?_|refine BLe.ghe ?_|refine BLe.axe ?_ ?_|refine BLe.mx ?_|exact KLeL.nil|refine KLe.fn ?_ ?_|refine KLeL.cons ?_ ?_|exact KLe.und _|exact BLe.dead _))<;>(try with_reducible rfl)))
  all_goals rfl
 ·have hi : i ≤ 4 := hi
  (refine hkG ?_)
  match i, hi with
  | 0, _ =>
    (refine hkD ?_)
    refine vcall_pf (hf s.a t.a) rfl rfl ?_
    (refine hkG ?_)
    refine ⟨1, by omega, (by decide : 4 - 1 < 4 - 0), ?_⟩
    (refine ⟨⟨rfl,rfl⟩,?_,?_⟩<;>((repeat'(first|exact TLe.nil|exact HLe.nil _|refine TLe.cons ?_ ?_|refine HLe.cons ?_ ?_|exact KLe.ptr rfl|exact KLe.sl rfl (.inl rfl)|exact KLe.csl rfl|exact KLe.mpr rfl|refine KLe.pe ?_|refine KLe.tup ?_|refine KLe.agg ?_|refine BLe.pe ?_|refine BLe.mpe ?_|refine BLe.ghe ?_|refine BLe.axe ?_ ?_|refine BLe.mx ?_|exact KLeL.nil|refine KLe.fn ?_ ?_|refine KLeL.cons ?_ ?_|exact KLe.und _|exact BLe.dead _))<;>(try with_reducible rfl)))
    all_goals first | rfl | (exact hkN)
  | 1, _ =>
    (refine hkD ?_)
    refine vcall_pf (hf s.b t.b) rfl rfl ?_
    (refine hkG ?_)
    refine ⟨2, by omega, (by decide : 4 - 2 < 4 - 1), ?_⟩
    (refine ⟨⟨rfl,rfl⟩,?_,?_⟩<;>((repeat'(first|exact TLe.nil|exact HLe.nil _|refine TLe.cons ?_ ?_|refine HLe.cons ?_ ?_|exact KLe.ptr rfl|exact KLe.sl rfl (.inl rfl)|exact KLe.csl rfl|exact KLe.mpr rfl|refine KLe.pe ?_|refine KLe.tup ?_|refine KLe.agg ?_|refine BLe.pe ?_|refine BLe.mpe ?_|refine BLe.ghe ?_|refine BLe.axe ?_ ?_|refine BLe.mx ?_|exact KLeL.nil|refine KLe.fn ?_ ?_|refine KLeL.cons ?_ ?_|exact KLe.und _|exact BLe.dead _))<;>(try with_reducible rfl)))
    all_goals first | rfl | (exact hkN)
  | 2, _ =>
    (refine hkD ?_)
    refine vcall_pf (hf s.c t.c) rfl rfl ?_
    (refine hkG ?_)
    refine ⟨3, by omega, (by decide : 4 - 3 < 4 - 2), ?_⟩
    (refine ⟨⟨rfl,rfl⟩,?_,?_⟩<;>((repeat'(first|exact TLe.nil|exact HLe.nil _|refine TLe.cons ?_ ?_|refine HLe.cons ?_ ?_|exact KLe.ptr rfl|exact KLe.sl rfl (.inl rfl)|exact KLe.csl rfl|exact KLe.mpr rfl|refine KLe.pe ?_|refine KLe.tup ?_|refine KLe.agg ?_|refine BLe.pe ?_|refine BLe.mpe ?_|refine BLe.ghe ?_|refine BLe.axe ?_ ?_|refine BLe.mx ?_|exact KLeL.nil|refine KLe.fn ?_ ?_|refine KLeL.cons ?_ ?_|exact KLe.und _|exact BLe.dead _))<;>(try with_reducible rfl)))
    all_goals first | rfl | (exact hkN)
  | 3, _ =>
    (refine hkD ?_)
    refine vcall_pf (hf s.d t.d) rfl rfl ?_
    (refine hkG ?_)
    refine ⟨4, by omega, (by decide : 4 - 4 < 4 - 3), ?_⟩
    (refine ⟨⟨rfl,rfl⟩,?_,?_⟩<;>((repeat'(first|exact TLe.nil|exact HLe.nil _|refine TLe.cons ?_ ?_|refine HLe.cons ?_ ?_|exact KLe.ptr rfl|exact KLe.sl rfl (.inl rfl)|exact KLe.csl rfl|exact KLe.mpr rfl|refine KLe.pe ?_|refine KLe.tup ?_|refine KLe.agg ?_|refine BLe.pe ?_|refine BLe.mpe ?_|refine BLe.ghe ?_|refine BLe.axe ?_ ?_|refine BLe.mx ?_|exact KLeL.nil|refine KLe.fn ?_ ?_|refine KLeL.cons ?_ ?_|exact KLe.und _|exact BLe.dead _))<;>(try with_reducible rfl)))
    all_goals first | rfl | (exact hkN)
  | 4, _ =>
    (refine hkD ?_)
    exact ret_pf rfl rfl rfl
theorem any_fn (s t : Set4) : PF Tryz.prog 222 [.agg s.cells, .agg t.cells] (.agg (s.or t).cells) := by
 refine pf_intro rf222_eq rmixed rfl ?_
 (refine hkG ?_)
 refine vcall_pf (each_fn _ _ orF_fn s t) rfl rfl ?_
 (refine hkG ?_)
 exact ret_pf rfl rfl rfl
theorem both_fn (s t : Set4) : PF Tryz.prog 229 [.agg s.cells, .agg t.cells] (.agg (s.and t).cells) := by
 refine pf_intro rf229_eq rmixed rfl ?_
 (refine hkG ?_)
 refine vcall_pf (each_fn _ _ andF_fn s t) rfl rfl ?_
 (refine hkG ?_)
 exact ret_pf rfl rfl rfl
theorem then_fn (f g : Facts) : PF Tryz.prog 265 [f.pv, g.pv] (f.then' g).pv := by
 obtain ⟨v, e, s, t⟩ := f
 obtain ⟨v', e', s', t'⟩ := g
 refine pf_intro rf265_eq rmixed rfl ?_
 cases v
 ·cases v'
  ·cases e
   ·cases e'
    ·(refine hkG ?_)
     exact ret_pf rfl rfl rfl
    ·(refine hkG ?_)
     refine vcall_pf (any_fn t' t) rfl rfl ?_
     (refine hkG ?_)
     exact ret_pf rfl rfl rfl
   ·cases e'
    ·(refine hkG ?_)
     refine vcall_pf (any_fn s s') rfl rfl ?_
     (refine hkG ?_)
     exact ret_pf rfl rfl rfl
    ·(refine hkG ?_)
     refine vcall_pf (any_fn s s') rfl rfl ?_
     (refine hkG ?_)
     refine vcall_pf (any_fn t' t) rfl rfl ?_
     (refine hkG ?_)
     exact ret_pf rfl rfl rfl
  ·(refine hkG ?_)
   exact ret_pf rfl rfl rfl
 ·(refine hkG ?_)
  exact ret_pf rfl rfl rfl
set_option maxHeartbeats 4000000 in
theorem or_fn (f g : Facts) : PF Tryz.prog 266 [f.pv, g.pv] (f.or' g).pv := by
 obtain ⟨v, e, s, t⟩ := f
 obtain ⟨v', e', s', t'⟩ := g
 refine pf_intro rf266_eq rmixed rfl ?_
 cases v <;> cases e
 all_goals
  (refine hkG ?_)
  refine vcall_pf (any_fn s s') rfl rfl ?_
  (refine hkG ?_)
  refine vcall_pf (any_fn t t') rfl rfl ?_
  (refine hkG ?_)
  exact ret_pf rfl rfl rfl
theorem repeated_fn (f : Facts) (lo hi : Int) : PF Tryz.prog 267 [f.pv, i64 lo, i64 hi] (f.rep lo hi).pv := by
 obtain ⟨v, e, s, t⟩ := f
 by_cases h0 : hi = 0
 ·have e0 : Facts.rep ⟨v, e, s, t⟩ lo hi = ⟨false, true, .nil, .nil⟩ := by unfold Facts.rep; rw [if_pos h0]
  rw [e0]
  refine pf_intro rf267_eq rmixed rfl ?_
  (refine hkG ?_)
  refine bk_is (eqlT h0) ?_
  (refine hkG ?_)
  exact ret_pf rfl rfl rfl
 cases v
 ·have e0 : Facts.rep ⟨false, e, s, t⟩ lo hi = ⟨false, e || intCm .eql lo 0, s, t⟩ := by unfold Facts.rep; rw [if_neg h0]; rfl
  rw [e0]
  refine pf_intro rf267_eq rmixed rfl ?_
  cases e
  ·(refine hkG ?_)
   refine bk_is (eqlF h0) ?_
   (refine hkG ?_)
   exact ret_pf rfl rfl rfl
  ·(refine hkG ?_)
   refine bk_is (eqlF h0) ?_
   (refine hkG ?_)
   exact ret_pf rfl rfl rfl
 ·have e0 : Facts.rep ⟨true, e, s, t⟩ lo hi = ⟨intCm .gtr lo 0, intCm .eql lo 0, .nil, .nil⟩ := by unfold Facts.rep; rw [if_neg h0]; rfl
  rw [e0]
  refine pf_intro rf267_eq rmixed rfl ?_
  (refine hkG ?_)
  refine bk_is (eqlF h0) ?_
  (refine hkG ?_)
  exact ret_pf rfl rfl rfl
end Hk
namespace Hk
open Go Go.Proofs
set_option linter.unusedVariables false
set_option linter.unusedSimpArgs false
set_option maxRecDepth 100000
theorem Tr.facts1 (s sub lo hi) : (Tr.mk 1 s sub lo hi).facts = ⟨decide (s = .nil), false, s, s⟩ := by rw [Tr.facts, if_pos rfl]
theorem Tr.facts2 (s sub lo hi) : (Tr.mk 2 s sub lo hi).facts = Facts.join .then' (sub.map Tr.facts) := by rw [Tr.facts, if_neg (by decide), if_pos rfl, Tr.factsL_eq]
theorem Tr.facts3 (s sub lo hi) : (Tr.mk 3 s sub lo hi).facts = Facts.join .or' (sub.map Tr.facts) := by rw [Tr.facts, if_neg (by decide), if_neg (by decide), if_pos rfl, Tr.factsL_eq]
theorem Tr.facts4 (s sub lo hi) : (Tr.mk 4 s sub lo hi).facts = ((sub.map Tr.facts).headD .zero).rep lo hi := by
 rw [Tr.facts, if_neg (by decide), if_neg (by decide), if_neg (by decide), if_pos rfl, Tr.factsL_eq]
theorem Tr.facts0 (s sub lo hi) : (Tr.mk 0 s sub lo hi).facts = ⟨false, true, .nil, .nil⟩ := by
 rw [Tr.facts, if_neg (by decide), if_neg (by decide), if_neg (by decide), if_neg (by decide)]
theorem cells4 (s : Set4) : cellsEq [u64 s.a, u64 s.b, u64 s.c, u64 s.d] [.int .u64 0, .int .u64 0, .int .u64 0, .int .u64 0] = decide (s = .nil) := by
 by_cases h : s = .nil
 ·subst h; rfl
 ·rw [set_ne h, decide_eq_false h]
theorem ok_kinds {k s sub lo hi} (h : (Tr.mk k s sub lo hi).ok = true) :
 (k = 0 ∧ sub = []) ∨ (k = 1 ∧ sub = []) ∨ (k = 2 ∧ 2 ≤ sub.length) ∨ (k = 3 ∧ 2 ≤ sub.length) ∨
  (k = 4 ∧ sub.length = 1 ∧ 0 ≤ lo ∧ lo ≤ 64 ∧ (hi = -1 ∨ lo ≤ hi ∧ hi ≤ 64)) := by
 rw [Tr.ok_mk, Bool.and_eq_true] at h
 have h := h.2
 unfold Tr.okn at h
 split at h
 ·cases h
 split at h
 ·rename_i hk
  have := List.eq_nil_of_length_eq_zero (of_decide_eq_true h)
  rcases hk with hk | hk
  ·exact .inl ⟨hk, this⟩
  ·exact .inr (.inl ⟨hk, this⟩)
 split at h
 ·rename_i hk
  have := of_decide_eq_true h
  rcases hk with hk | hk
  ·exact .inr (.inr (.inl ⟨hk, this⟩))
  ·exact .inr (.inr (.inr (.inl ⟨hk, this⟩)))
 split at h
 ·rename_i hk
  have := of_decide_eq_true h
  exact .inr (.inr (.inr (.inr ⟨hk, this⟩)))
 ·cases h
theorem ok_sub {k s sub lo hi} (h : (Tr.mk k s sub lo hi).ok = true) {t : Tr} (ht : t ∈ sub) : t.ok = true := by
 rw [Tr.ok_mk, Bool.and_eq_true] at h
 exact List.all_eq_true.1 h.1 t ht
theorem ok_nil {k s sub lo hi} (h : (Tr.mk k s sub lo hi).ok = true) (hk : k ≠ 1) : s = .nil := by
 rw [Tr.ok_mk, Bool.and_eq_true] at h
 have h := h.2
 unfold Tr.okn at h
 split at h
 ·cases h
 ·rename_i h'
  exact Classical.byContradiction fun h2 => h' (.inl ⟨hk, h2⟩)
theorem of_fn (T : Tr) (hT : T.Fit) (hok : T.ok = true) : PF Tryz.prog 264 [T.pv] T.facts.pv := by
 induction T using Tr.ind' with | h k s sub lo hi ih => ?_
 have hk := ok_kinds hok
 by_cases k1 : k = 1
 ·subst k1
  rw [Tr.facts1, ← cells4]
  refine pf_intro rf264_eq rmixed rfl ?_
  (refine hkG ?_)
  (refine hkD ?_)
  exact ret_pf rfl rfl rfl
 by_cases k0 : k = 0
 ·subst k0
  rw [Tr.facts0]
  refine pf_intro rf264_eq rmixed rfl ?_
  (refine hkG ?_)
  (refine hkD ?_)
  exact ret_pf rfl rfl rfl
 by_cases k4 : k = 4
 ·subst k4
  have h1 : sub.length = 1 := by omega
  match sub, h1 with
  | [t], _ =>
    have hl1 : (Tr.rowsL [t]).length = 1 := rfl
    rw [Tr.facts4]
    refine pf_intro rf264_eq rmixed rfl ?_
    (refine hkG ?_)
    (refine hkD ?_)
    refine ⟨t.cells, t.take8, t.len8, ?_⟩
    (refine hkG ?_)
    refine vcall_pf (ih t (by simp) (hT.sub t (by simp)) (ok_sub hok (by simp))) rfl rfl ?_
    (refine hkG ?_)
    refine vcall_pf (repeated_fn t.facts lo hi) rfl rfl ?_
    (refine hkG ?_)
    exact ret_pf rfl rfl rfl
 by_cases k2 : k = 2
 ·subst k2
  have h1 : 2 ≤ sub.length := by omega
  match sub, h1 with
  | t :: r, _ =>
    have hl1 : (Tr.rowsL (t :: r)).length = r.length + 1 := by rw [Tr.rows_len]; rfl
    have hlr := Tr.rows_len r
    have hn := hT.len
    rw [List.length_cons] at hn
    rw [Tr.facts2]
    refine pf_intro rf264_eq rmixed rfl ?_
    (refine hkG ?_)
    (refine hkD ?_)
    refine ⟨t.cells, t.take8, t.len8, ?_⟩
    (refine hkG ?_)
    refine vcall_pf (ih t (by simp) (hT.sub t (by simp)) (ok_sub hok (by simp))) rfl rfl ?_
    (refine hkG ?_)
    refine ⟨Tr.rowsL r, ?_, ?_, ?_⟩
    ·rw [hl1, dropN_eq]
     exact take_all (by rw [show (Tr.rowsL (t :: r)).drop (Int.toNat 1) = Tr.rowsL r from rfl]; omega)
    ·rw [hl1]; omega
    (refine hkG ?_)
    refine ⟨[], Nat, fun i => ⟨[(1, .ptr 0 8 0 0), (2, .ptr 1 10 0 0), (3, .ptr 2 4 0 0), (4, .ptr 3 10 0 0), (31, .p (.isl 8 (Tr.rowsL r) none)), (32, .p (i64 r.length)), (33, .p (i64 i))],
     [Tr.blk 2 s (t :: r) lo hi, .mx (Facts.zero.cells.map .p), .pr 4 [[.lit .nilFunc, .lit .nilFunc, .fn 265 [] [], .fn 266 [] []]], .mx ((((r.map Tr.facts).take i).foldl .then' t.facts).cells.map .p)]⟩,
     fun i => i ≤ r.length, fun i => r.length - i, ⟨0, Nat.zero_le _, ?_⟩, fun i hi' => ?_⟩
    ·(refine ⟨⟨rfl,rfl⟩,?_,?_⟩<;>((repeat'(first|exact TLe.nil|exact HLe.nil _|refine TLe.cons ?_ ?_|refine HLe.cons ?_ ?_|exact KLe.ptr rfl|exact KLe.sl rfl (.inl rfl)|exact KLe.csl rfl|exact KLe.mpr rfl|refine KLe.pe ?_|refine KLe.tup ?_|refine KLe.agg ?_|refine BLe.pe ?_|refine BLe.mpe ?_|refine BLe.ghe ?_|refine BLe.axe ?_ ?_|refine BLe.mx ?_|exact KLeL.nil|refine KLe.fn ?_ ?_|refine KLeL.cons ?_ ?_|exact KLe.und _|exact BLe.dead _))<;>(try with_reducible rfl)))
     all_goals first | rfl | (rw [hlr])
    ·have hi' : i ≤ r.length := hi'
     (refine hkG ?_)
     (refine bk_split (fun hb=>?_) (fun hb=>?_))
     ·have hlt : i < r.length := by have := lss_t hb; omega
      obtain ⟨x, hx⟩ : ∃ x, r[i]? = some x := ⟨_, List.getElem?_eq_getElem hlt⟩
      have hm : x ∈ t :: r := List.mem_cons_of_mem _ (mem_get hx)
      obtain ⟨xk, xs, xsub, xlo, xhi⟩ := x
      (refine hkG ?_)
      refine ⟨_, by rw [Int.toNat_natCast]; exact Tr.rows_get hx, ?_⟩
      (refine hkG ?_)
      refine vcall_pf (ih _ hm (hT.sub _ hm) (ok_sub hok hm)) rfl rfl ?_
      (refine hkG ?_)
      refine vcall_pf (then_fn (((r.map Tr.facts).take i).foldl .then' t.facts) _) rfl rfl ?_
      (refine hkG ?_)
      refine ⟨i + 1, hlt, (show r.length - (i + 1) < r.length - i by omega), ?_⟩
      (refine ⟨⟨rfl,rfl⟩,?_,?_⟩<;>((repeat'(first|exact TLe.nil|exact HLe.nil _|refine TLe.cons ?_ ?_|refine HLe.cons ?_ ?_|exact KLe.ptr rfl|exact KLe.sl rfl (.inl rfl)|exact KLe.csl rfl|exact KLe.mpr rfl|refine KLe.pe ?_|refine KLe.tup ?_|refine KLe.agg ?_|refine BLe.pe ?_|refine BLe.mpe ?_|refine BLe.ghe ?_|refine BLe.axe ?_ ?_|refine BLe.mx ?_|exact KLeL.nil|refine KLe.fn ?_ ?_|refine KLeL.cons ?_ ?_|exact KLe.und _|exact BLe.dead _))<;>(try with_reducible rfl)))
      all_goals first | (exact hkN) | skip
      all_goals rw [fold_take (map_get Tr.facts hx)]
     ·have hie : i = r.length := by have := lss_f hb; omega
      have e : (((r.map Tr.facts).take i).foldl .then' t.facts) = Facts.join .then' ((t :: r).map Tr.facts) := by
       rw [hie, take_all (by simp)]; rfl
      (refine hkG ?_)
      refine ret_pf rfl rfl ?_
      rw [← e]
      rfl
 by_cases k3 : k = 3
 ·subst k3
  have h1 : 2 ≤ sub.length := by omega
  match sub, h1 with
  | t :: r, _ =>
    have hl1 : (Tr.rowsL (t :: r)).length = r.length + 1 := by rw [Tr.rows_len]; rfl
    have hlr := Tr.rows_len r
    have hn := hT.len
    rw [List.length_cons] at hn
    rw [Tr.facts3]
    refine pf_intro rf264_eq rmixed rfl ?_
    (refine hkG ?_)
    (refine hkD ?_)
    refine ⟨t.cells, t.take8, t.len8, ?_⟩
    (refine hkG ?_)
    refine vcall_pf (ih t (by simp) (hT.sub t (by simp)) (ok_sub hok (by simp))) rfl rfl ?_
    (refine hkG ?_)
    refine ⟨Tr.rowsL r, ?_, ?_, ?_⟩
    ·rw [hl1, dropN_eq]
     exact take_all (by rw [show (Tr.rowsL (t :: r)).drop (Int.toNat 1) = Tr.rowsL r from rfl]; omega)
    ·rw [hl1]; omega
    (refine hkG ?_)
    refine ⟨[], Nat, fun i => ⟨[(1, .ptr 0 8 0 0), (2, .ptr 1 10 0 0), (3, .ptr 2 4 0 0), (4, .ptr 3 10 0 0), (31, .p (.isl 8 (Tr.rowsL r) none)), (32, .p (i64 r.length)), (33, .p (i64 i))],
     [Tr.blk 3 s (t :: r) lo hi, .mx (Facts.zero.cells.map .p), .pr 4 [[.lit .nilFunc, .lit .nilFunc, .fn 265 [] [], .fn 266 [] []]], .mx ((((r.map Tr.facts).take i).foldl .or' t.facts).cells.map .p)]⟩,
     fun i => i ≤ r.length, fun i => r.length - i, ⟨0, Nat.zero_le _, ?_⟩, fun i hi' => ?_⟩
    ·(refine ⟨⟨rfl,rfl⟩,?_,?_⟩<;>((repeat'(first|exact TLe.nil|exact HLe.nil _|refine TLe.cons ?_ ?_|refine HLe.cons ?_ ?_|exact KLe.ptr rfl|exact KLe.sl rfl (.inl rfl)|exact KLe.csl rfl|exact KLe.mpr rfl|refine KLe.pe ?_|refine KLe.tup ?_|refine KLe.agg ?_|refine BLe.pe ?_|refine BLe.mpe ?_|refine BLe.ghe ?_|refine BLe.axe ?_ ?_|refine BLe.mx ?_|exact KLeL.nil|refine KLe.fn ?_ ?_|refine KLeL.cons ?_ ?_|exact KLe.und _|exact BLe.dead _))<;>(try with_reducible rfl)))
     all_goals first | rfl | (rw [hlr])
    ·have hi' : i ≤ r.length := hi'
     (refine hkG ?_)
     (refine bk_split (fun hb=>?_) (fun hb=>?_))
     ·have hlt : i < r.length := by have := lss_t hb; omega
      obtain ⟨x, hx⟩ : ∃ x, r[i]? = some x := ⟨_, List.getElem?_eq_getElem hlt⟩
      have hm : x ∈ t :: r := List.mem_cons_of_mem _ (mem_get hx)
      obtain ⟨xk, xs, xsub, xlo, xhi⟩ := x
      (refine hkG ?_)
      refine ⟨_, by rw [Int.toNat_natCast]; exact Tr.rows_get hx, ?_⟩
      (refine hkG ?_)
      refine vcall_pf (ih _ hm (hT.sub _ hm) (ok_sub hok hm)) rfl rfl ?_
      (refine hkG ?_)
      refine vcall_pf (or_fn (((r.map Tr.facts).take i).foldl .or' t.facts) _) rfl rfl ?_
      (refine hkG ?_)
      refine ⟨i + 1, hlt, (show r.length - (i + 1) < r.length - i by omega), ?_⟩
      (refine ⟨⟨rfl,rfl⟩,?_,?_⟩<;>((repeat'(first|exact TLe.nil|exact HLe.nil _|refine TLe.cons ?_ ?_|refine HLe.cons ?_ ?_|exact KLe.ptr rfl|exact KLe.sl rfl (.inl rfl)|exact KLe.csl rfl|exact KLe.mpr rfl|refine KLe.pe ?_|refine KLe.tup ?_|refine KLe.agg ?_|refine BLe.pe ?_|refine BLe.mpe ?_|refine BLe.ghe ?_|refine BLe.axe ?_ ?_|refine BLe.mx ?_|exact KLeL.nil|refine KLe.fn ?_ ?_|refine KLeL.cons ?_ ?_|exact KLe.und _|exact BLe.dead _))<;>(try with_reducible rfl)))
      all_goals first | (exact hkN) | skip
      all_goals rw [fold_take (map_get Tr.facts hx)]
     ·have hie : i = r.length := by have := lss_f hb; omega
      have e : (((r.map Tr.facts).take i).foldl .or' t.facts) = Facts.join .or' ((t :: r).map Tr.facts) := by
       rw [hie, take_all (by simp)]; rfl
      (refine hkG ?_)
      refine ret_pf rfl rfl ?_
      rw [← e]
      rfl
 exact absurd hk (by omega)
theorem asked_fn (T : Tr) (hT : T.Fit) (hn : T.nodes < 2 ^ 61) :
 Fn Tryz.prog 263 ([T.pv].map .p) [] [] (fun r H' => r = .tup [.p (if T.may then T.facts.pv else Facts.zero.pv), .p (.b T.may)] ∧ H' = []) := by
 have h1 := rxMay_fn T hT hn
 have h2 : T.may = true → PF Tryz.prog 264 [T.pv] T.facts.pv := fun h => of_fn T hT (by unfold Tr.may at h; simp only [Bool.and_eq_true] at h; exact h.2)
 generalize T.facts = F at h2
 obtain ⟨k, s, sub, lo, hi⟩ := T
 refine f_intro rf263_eq rmixed rfl ?_
 (refine hkG ?_)
 refine vcall_pf h1 rfl rfl ?_
 cases hm : Tr.may (.mk k s sub lo hi) with
 | false =>
   (refine hkG ?_)
   refine ⟨.tup [.p Facts.zero.pv, .p (.b false)], [], ⟨rfl, rfl⟩, ⟨rfl, rfl⟩, ?_, ?_⟩
   all_goals (((repeat'(first|exact TLe.nil|exact HLe.nil _|refine TLe.cons ?_ ?_|refine HLe.cons ?_ ?_|exact KLe.ptr rfl|exact KLe.sl rfl (.inl rfl)|exact KLe.csl rfl|exact KLe.mpr rfl|refine KLe.pe ?_|refine KLe.tup ?_|refine KLe.agg ?_|refine BLe.pe ?_|refine BLe.mpe ?_|refine BLe.ghe ?_|refine BLe.axe ?_ ?_|refine BLe.mx ?_|exact KLeL.nil|refine KLe.fn ?_ ?_|refine KLeL.cons ?_ ?_|exact KLe.und _|exact BLe.dead _))<;>(try with_reducible rfl)))
   all_goals rfl
 | true =>
   (refine hkG ?_)
   refine vcall_pf (h2 hm) rfl rfl ?_
   (refine hkG ?_)
   refine ⟨.tup [.p F.pv, .p (.b true)], [], ⟨rfl, rfl⟩, ⟨rfl, rfl⟩, ?_, ?_⟩
   all_goals (((repeat'(first|exact TLe.nil|exact HLe.nil _|refine TLe.cons ?_ ?_|refine HLe.cons ?_ ?_|exact KLe.ptr rfl|exact KLe.sl rfl (.inl rfl)|exact KLe.csl rfl|exact KLe.mpr rfl|refine KLe.pe ?_|refine KLe.tup ?_|refine KLe.agg ?_|refine BLe.pe ?_|refine BLe.mpe ?_|refine BLe.ghe ?_|refine BLe.axe ?_ ?_|refine BLe.mx ?_|exact KLeL.nil|refine KLe.fn ?_ ?_|refine KLeL.cons ?_ ?_|exact KLe.und _|exact BLe.dead _))<;>(try with_reducible rfl)))
   all_goals rfl
def Tr.told (T : Tr) : Facts := if T.may then T.facts else .zero
theorem told_eq (T : Tr) : (if T.may then T.facts.pv else Facts.zero.pv) = T.told.pv := by unfold Tr.told; split <;> rfl
theorem rxEmpty_fn (T : Tr) (hT : T.Fit) (hn : T.nodes < 2 ^ 61) : PF Tryz.prog 258 [T.pv] (.b T.told.empty) := by
 have h1 := asked_fn T hT hn
 rw [told_eq] at h1
 generalize T.told = F at *
 obtain ⟨k, s, sub, lo, hi⟩ := T
 refine pf_intro rf258_eq rmixed rfl ?_
 (refine hkG ?_)
 refine vcall_new h1 rfl rfl ?_
 rintro r H' ⟨rfl, rfl⟩
 (refine hkG ?_)
 exact ret_pf rfl rfl rfl
end Hk
namespace Hk
open Go Go.Proofs
set_option linter.unusedVariables false
set_option linter.unusedSimpArgs false
set_option maxRecDepth 100000
theorem Tr.void_mk (k s sub lo hi) : (Tr.mk k s sub lo hi).void =
 if k = 0 then false else if k = 1 then decide (s = .nil) else if k = 2 then sub.any Tr.void else if k = 3 then sub.all Tr.void else decide (0 < lo) && (sub.map Tr.void).headD false := by
 rw [Tr.void, Tr.voidL_eq]
 simp only [List.any_map, List.all_map]
 rfl
theorem refVoid_fn (T : Tr) (hT : T.Fit) (hok : T.ok = true) : PF Tryz.prog 185 [T.pv] (.b T.void) := by
 induction T using Tr.ind' with | h k s sub lo hi ih => ?_
 have hk := ok_kinds hok
 have hl := Tr.rows_len sub
 have hn := hT.len
 rw [Tr.void_mk]
 by_cases k0 : k = 0
 ·rw [if_pos k0]
  refine pf_intro rf185_eq rmixed rfl ?_
  (refine hkG ?_)
  (refine hkD ?_)
  exact ret_pf rfl rfl rfl
 rw [if_neg k0]
 by_cases k1 : k = 1
 ·rw [if_pos k1, ← cells4]
  refine pf_intro rf185_eq rmixed rfl ?_
  (refine hkG ?_)
  (refine hkD ?_)
  exact ret_pf rfl rfl rfl
 rw [if_neg k1]
 by_cases k2 : k = 2
 ·rw [if_pos k2]
  refine pf_intro rf185_eq rmixed rfl ?_
  (refine hkG ?_)
  (refine hkD ?_)
  refine ⟨[], Nat, fun i => ⟨[(1, .ptr 0 8 0 0), (3, .p (i64 i))], [Tr.blk k s sub lo hi]⟩,
   fun i => i ≤ sub.length ∧ ∀ (j : Nat) t, j < i → sub[j]? = some t → t.void = false, fun i => sub.length - i, ⟨0, ⟨Nat.zero_le _, fun j t h => absurd h (by omega)⟩, ?_⟩, fun i hi' => ?_⟩
  ·(refine ⟨⟨rfl,rfl⟩,?_,?_⟩<;>((repeat'(first|exact TLe.nil|exact HLe.nil _|refine TLe.cons ?_ ?_|refine HLe.cons ?_ ?_|exact KLe.ptr rfl|exact KLe.sl rfl (.inl rfl)|exact KLe.csl rfl|exact KLe.mpr rfl|refine KLe.pe ?_|refine KLe.tup ?_|refine KLe.agg ?_|refine BLe.pe ?_|refine BLe.mpe ?_|refine BLe.ghe ?_|refine BLe.axe ?_ ?_|refine BLe.mx ?_|exact KLeL.nil|refine KLe.fn ?_ ?_|refine KLeL.cons ?_ ?_|exact KLe.und _|exact BLe.dead _))<;>(try with_reducible rfl)))
   all_goals rfl
  ·obtain ⟨hi', hall⟩ := hi'
   (refine hkG ?_)
   rw [hl]
   (refine bk_split (fun hb=>?_) (fun hb=>?_))
   ·have hlt : i < sub.length := by have := lss_t hb; omega
    obtain ⟨t, ht⟩ : ∃ t, sub[i]? = some t := ⟨_, List.getElem?_eq_getElem hlt⟩
    (refine hkG ?_)
    refine ⟨_, by rw [Int.toNat_natCast]; exact Tr.rows_get ht, ?_⟩
    (refine hkG ?_)
    refine ⟨t.cells, t.take8, t.len8, ?_⟩
    (refine hkG ?_)
    refine vcall_pf (ih t (mem_get ht) (hT.sub t (mem_get ht)) (ok_sub hok (mem_get ht))) rfl rfl ?_
    cases hv : t.void with
    | true =>
      (refine hkG ?_)
      refine ret_pf rfl rfl (congrArg PV.b ?_)
      exact (List.any_eq_true.2 ⟨t, mem_get ht, hv⟩).symm
    | false =>
      (refine hkG ?_)
      refine ⟨i + 1, ⟨hlt, fun j t' hj ht' => ?_⟩, (show sub.length - (i + 1) < sub.length - i by omega), ?_⟩
      ·rcases Nat.lt_or_ge j i with h | h
       ·exact hall j t' h ht'
       ·have : j = i := by omega
        subst this
        rw [ht] at ht'
        cases ht'
        exact hv
      ·(refine ⟨⟨rfl,rfl⟩,?_,?_⟩<;>((repeat'(first|exact TLe.nil|exact HLe.nil _|refine TLe.cons ?_ ?_|refine HLe.cons ?_ ?_|exact KLe.ptr rfl|exact KLe.sl rfl (.inl rfl)|exact KLe.csl rfl|exact KLe.mpr rfl|refine KLe.pe ?_|refine KLe.tup ?_|refine KLe.agg ?_|refine BLe.pe ?_|refine BLe.mpe ?_|refine BLe.ghe ?_|refine BLe.axe ?_ ?_|refine BLe.mx ?_|exact KLeL.nil|refine KLe.fn ?_ ?_|refine KLeL.cons ?_ ?_|exact KLe.und _|exact BLe.dead _))<;>(try with_reducible rfl)))
       all_goals first | (exact hkN) | skip
   ·have hie : i = sub.length := by have := lss_f hb; omega
    (refine hkG ?_)
    refine ret_pf rfl rfl (congrArg PV.b ?_)
    refine (List.any_eq_false.2 fun t ht => ?_).symm
    obtain ⟨j, hj⟩ := List.getElem?_of_mem ht
    rw [hall j t (by have := (List.getElem?_eq_some_iff.1 hj).1; omega) hj]
    simp
 rw [if_neg k2]
 by_cases k3 : k = 3
 ·rw [if_pos k3]
  refine pf_intro rf185_eq rmixed rfl ?_
  (refine hkG ?_)
  (refine hkD ?_)
  refine ⟨[], Nat, fun i => ⟨[(1, .ptr 0 8 0 0), (4, .p (i64 i))], [Tr.blk k s sub lo hi]⟩,
   fun i => i ≤ sub.length ∧ ∀ (j : Nat) t, j < i → sub[j]? = some t → t.void = true, fun i => sub.length - i, ⟨0, ⟨Nat.zero_le _, fun j t h => absurd h (by omega)⟩, ?_⟩, fun i hi' => ?_⟩
  ·(refine ⟨⟨rfl,rfl⟩,?_,?_⟩<;>((repeat'(first|exact TLe.nil|exact HLe.nil _|refine TLe.cons ?_ ?_|refine HLe.cons ?_ ?_|exact KLe.ptr rfl|exact KLe.sl rfl (.inl rfl)|exact KLe.csl rfl|exact KLe.mpr rfl|refine KLe.pe ?_|refine KLe.tup ?_|refine KLe.agg ?_|refine BLe.pe ?_|refine BLe.mpe ?_|refine BLe.ghe ?_|refine BLe.axe ?_ ?_|refine BLe.mx ?_|exact KLeL.nil|refine KLe.fn ?_ ?_|refine KLeL.cons ?_ ?_|exact KLe.und _|exact BLe.dead _))<;>(try with_reducible rfl)))
   all_goals rfl
  ·obtain ⟨hi', hall⟩ := hi'
   (refine hkG ?_)
   rw [hl]
   (refine bk_split (fun hb=>?_) (fun hb=>?_))
   ·have hlt : i < sub.length := by have := lss_t hb; omega
    obtain ⟨t, ht⟩ : ∃ t, sub[i]? = some t := ⟨_, List.getElem?_eq_getElem hlt⟩
    (refine hkG ?_)
    refine ⟨_, by rw [Int.toNat_natCast]; exact Tr.rows_get ht, ?_⟩
    (refine hkG ?_)
    refine ⟨t.cells, t.take8, t.len8, ?_⟩
    (refine hkG ?_)
    refine vcall_pf (ih t (mem_get ht) (hT.sub t (mem_get ht)) (ok_sub hok (mem_get ht))) rfl rfl ?_
    cases hv : t.void with
    | false =>
      (refine hkG ?_)
      refine ret_pf rfl rfl (congrArg PV.b ?_)
      exact (List.all_eq_false.2 ⟨t, mem_get ht, by simp [hv]⟩).symm
    | true =>
      (refine hkG ?_)
      refine ⟨i + 1, ⟨hlt, fun j t' hj ht' => ?_⟩, (show sub.length - (i + 1) < sub.length - i by omega), ?_⟩
      ·rcases Nat.lt_or_ge j i with h | h
       ·exact hall j t' h ht'
       ·have : j = i := by omega
        subst this
        rw [ht] at ht'
        cases ht'
        exact hv
      ·(refine ⟨⟨rfl,rfl⟩,?_,?_⟩<;>((repeat'(first|exact TLe.nil|exact HLe.nil _|refine TLe.cons ?_ ?_|refine HLe.cons ?_ ?_|exact KLe.ptr rfl|exact KLe.sl rfl (.inl rfl)|exact KLe.csl rfl|exact KLe.mpr rfl|refine KLe.pe ?_|refine KLe.tup ?_|refine KLe.agg ?_|refine BLe.pe ?_|refine BLe.mpe ?_|refine BLe.ghe ?_|refine BLe.axe ?_ ?_|refine BLe.mx ?_|exact KLeL.nil|refine KLe.fn ?_ ?_|refine KLeL.cons ?_ ?_|exact KLe.und _|exact BLe.dead _))<;>(try with_reducible rfl)))
       all_goals first | (exact hkN) | skip
   ·have hie : i = sub.length := by have := lss_f hb; omega
    (refine hkG ?_)
    refine ret_pf rfl rfl (congrArg PV.b ?_)
    refine (List.all_eq_true.2 fun t ht => ?_).symm
    obtain ⟨j, hj⟩ := List.getElem?_of_mem ht
    exact hall j t (by have := (List.getElem?_eq_some_iff.1 hj).1; omega) hj
 rw [if_neg k3]
 have k4 : k = 4 := by omega
 have h1 : sub.length = 1 := by omega
 match sub, h1 with
 | [t], _ =>
   have hl1 : (Tr.rowsL [t]).length = 1 := rfl
   refine pf_intro rf185_eq rmixed rfl ?_
   rcases Int.lt_or_le 0 lo with h0 | h0
   ·(refine hkG ?_)
    (refine hkD ?_)
    refine ⟨t.cells, t.take8, t.len8, ?_⟩
    (refine hkG ?_)
    refine vcall_pf (ih t (by simp) (hT.sub t (by simp)) (ok_sub hok (by simp))) rfl rfl ?_
    (refine hkG ?_)
    refine ret_pf rfl rfl (congrArg PV.b ?_)
    rw [decide_eq_true h0]
    rfl
   ·(refine hkG ?_)
    (refine hkD ?_)
    refine ret_pf rfl rfl (congrArg PV.b ?_)
    rw [decide_eq_false (by omega)]
    rfl
theorem ret_ple {E : En} {h : List Blk} {xs : List AV} {r : PV} {x : PV} (hk : E.k = 0) (hx : resV xs = .p x) (e : PLe x r) :
 ∃ r' H', (r' = .p r ∧ H' = []) ∧ (Nat.ble E.k (List.length H') = true ∧ fixOk E.fx H' E.k = true) ∧
  KLe h (fun b => !liveB H' b) (fun b => liveB H' b) (resV xs) r' ∧ HLe h (fun b => !liveB H' b) (fun b => liveB H' b) h H' := by
 exact ⟨_, _, ⟨rfl, rfl⟩, by rw [hk]; exact ⟨rfl, rfl⟩, by rw [hx]; exact .p e, .nil _⟩
theorem nilSub {k s0 s1 s2 s3 lo hi : PV} : PLe (.agg [k, s0, s1, s2, s3, .isl 0 [] (some 0), lo, hi]) (.agg [k, s0, s1, s2, s3, .isl 8 [] none, lo, hi]) :=
 .agg (.cons (.refl _) (.cons (.refl _) (.cons (.refl _) (.cons (.refl _) (.cons (.refl _) (.cons (.nil (.inl rfl)) (.refl _)))))))
theorem quo_nat {k : IntKind} {a b : Nat} (hk : k.wrap ((a / b : Nat) : Int) = ((a / b : Nat) : Int)) : intAr .quo k (a : Int) (b : Int) = ((a / b : Nat) : Int) := by
 show k.wrap (Int.tdiv _ _) = _
 rw [← Int.ofNat_tdiv]
 exact hk
theorem rem_nat {k : IntKind} {a b : Nat} : intAr .rem k (a : Int) (b : Int) = ((a % b : Nat) : Int) := by
 unfold intAr
 exact (Int.ofNat_tmod a b).symm
def wdiv (w : BitVec 64) (i : Nat) : Nat := w.toNat / 2 ^ i
theorem wdiv_lt (w : BitVec 64) (i : Nat) : wdiv w i < 18446744073709551616 := Nat.lt_of_le_of_lt (Nat.div_le_self _ _) w.isLt
theorem wdiv_succ (w : BitVec 64) (i : Nat) : wdiv w i / 2 = wdiv w (i + 1) := by unfold wdiv; rw [Nat.div_div_eq_div_mul, Nat.pow_succ]
theorem wdiv_bit (w : BitVec 64) (i : Nat) : w.getLsbD i = decide (wdiv w i % 2 = 1) := by
 rw [BitVec.getLsbD, Nat.testBit_eq_decide_div_mod_eq]
 rfl
theorem wdiv_quo (w : BitVec 64) (i : Nat) : intAr .quo .u64 ((wdiv w i : Nat) : Int) 2 = ((wdiv w (i + 1) : Nat) : Int) := by
 rw [← wdiv_succ]
 exact quo_nat (b := 2) (by have := wdiv_lt w i; rw [wrap_u64]; omega)
theorem has_fn (s : Set4) (b : Nat) (hb : b < 256) : PF Tryz.prog 84 [.agg s.cells, i64 b] (.b (s.has b)) := by
 have hq : intAr .quo .i64 (b : Int) 64 = ((b / 64 : Nat) : Int) := quo_nat (b := 64) (wrap_i64 (by omega) (by omega))
 have hr : intAr .rem .i64 (b : Int) 64 = ((b % 64 : Nat) : Int) := rem_nat (b := 64)
 refine pf_intro rf84_eq rmixed rfl ?_
 unfold Set4.has
 (refine hkG ?_)
 rw [hq]
 have hlt : b / 64 = 0 ∨ b / 64 = 1 ∨ b / 64 = 2 ∨ b / 64 = 3 := by omega
 have hr64 : b % 64 < 64 := Nat.mod_lt _ (by decide)
 generalize b / 64 = q at hlt
 rcases hlt with rfl | rfl | rfl | rfl
 all_goals (refine hkG ?_)
 ·refine ⟨[], Nat, fun i => ⟨[(1, .p (i64 b)), (5, .p (.int .u64 (wdiv s.a i : Nat))), (6, .p (i64 i))], []⟩, fun i => i ≤ b % 64, fun i => b % 64 - i, ⟨0, Nat.zero_le _, ?_⟩, fun i hi => ?_⟩
  ·(refine ⟨⟨rfl,rfl⟩,?_,?_⟩<;>((repeat'(first|exact TLe.nil|exact HLe.nil _|refine TLe.cons ?_ ?_|refine HLe.cons ?_ ?_|exact KLe.ptr rfl|exact KLe.sl rfl (.inl rfl)|exact KLe.csl rfl|exact KLe.mpr rfl|refine KLe.pe ?_|refine KLe.tup ?_|refine KLe.agg ?_|refine BLe.pe ?_|refine BLe.mpe ?_|refine BLe.ghe ?_|refine BLe.axe ?_ ?_|refine BLe.mx ?_|exact KLeL.nil|refine KLe.fn ?_ ?_|refine KLeL.cons ?_ ?_|exact KLe.und _|exact BLe.dead _))<;>(try with_reducible rfl)))
   all_goals first | rfl | (unfold wdiv; rw [Nat.pow_zero, Nat.div_one])
  ·have hi : i ≤ b % 64 := hi
   (refine hkG ?_)
   rw [hr]
   (refine bk_split (fun hb=>?_) (fun hb=>?_))
   ·have hlt : i < b % 64 := by have := lss_t hb; omega
    (refine hkG ?_)
    refine ⟨i + 1, hlt, (show b % 64 - (i + 1) < b % 64 - i by omega), ?_⟩
    (refine ⟨⟨rfl,rfl⟩,?_,?_⟩<;>((repeat'(first|exact TLe.nil|exact HLe.nil _|refine TLe.cons ?_ ?_|refine HLe.cons ?_ ?_|exact KLe.ptr rfl|exact KLe.sl rfl (.inl rfl)|exact KLe.csl rfl|exact KLe.mpr rfl|refine KLe.pe ?_|refine KLe.tup ?_|refine KLe.agg ?_|refine BLe.pe ?_|refine BLe.mpe ?_|refine BLe.ghe ?_|refine BLe.axe ?_ ?_|refine BLe.mx ?_|exact KLeL.nil|refine KLe.fn ?_ ?_|refine KLeL.cons ?_ ?_|exact KLe.und _|exact BLe.dead _))<;>(try with_reducible rfl)))
    all_goals first | (exact hkN) | exact congrArg (PV.int .u64) (wdiv_quo _ _)
   ·have hie : i = b % 64 := by have := lss_f hb; omega
    (refine hkG ?_)
    refine ret_pf rfl rfl (congrArg PV.b ?_)
    have e : intAr .rem .u64 ((wdiv s.a i : Nat) : Int) 2 = ((wdiv s.a i % 2 : Nat) : Int) := rem_nat (b := 2)
    rw [e, ← hie]
    refine Eq.trans ?_ (wdiv_bit s.a i).symm
    rw [Bool.eq_iff_iff]
    simp only [intCm, beq_iff_eq, decide_eq_true_iff]
    omega
 ·refine ⟨[], Nat, fun i => ⟨[(1, .p (i64 b)), (5, .p (.int .u64 (wdiv s.b i : Nat))), (6, .p (i64 i))], []⟩, fun i => i ≤ b % 64, fun i => b % 64 - i, ⟨0, Nat.zero_le _, ?_⟩, fun i hi => ?_⟩
  ·(refine ⟨⟨rfl,rfl⟩,?_,?_⟩<;>((repeat'(first|exact TLe.nil|exact HLe.nil _|refine TLe.cons ?_ ?_|refine HLe.cons ?_ ?_|exact KLe.ptr rfl|exact KLe.sl rfl (.inl rfl)|exact KLe.csl rfl|exact KLe.mpr rfl|refine KLe.pe ?_|refine KLe.tup ?_|refine KLe.agg ?_|refine BLe.pe ?_|refine BLe.mpe ?_|refine BLe.ghe ?_|refine BLe.axe ?_ ?_|refine BLe.mx ?_|exact KLeL.nil|refine KLe.fn ?_ ?_|refine KLeL.cons ?_ ?_|exact KLe.und _|exact BLe.dead _))<;>(try with_reducible rfl)))
   all_goals first | rfl | (unfold wdiv; rw [Nat.pow_zero, Nat.div_one])
  ·have hi : i ≤ b % 64 := hi
   (refine hkG ?_)
   rw [hr]
   (refine bk_split (fun hb=>?_) (fun hb=>?_))
   ·have hlt : i < b % 64 := by have := lss_t hb; omega
    (refine hkG ?_)
    refine ⟨i + 1, hlt, (show b % 64 - (i + 1) < b % 64 - i by omega), ?_⟩
    (refine ⟨⟨rfl,rfl⟩,?_,?_⟩<;>((repeat'(first|exact TLe.nil|exact HLe.nil _|refine TLe.cons ?_ ?_|refine HLe.cons ?_ ?_|exact KLe.ptr rfl|exact KLe.sl rfl (.inl rfl)|exact KLe.csl rfl|exact KLe.mpr rfl|refine KLe.pe ?_|refine KLe.tup ?_|refine KLe.agg ?_|refine BLe.pe ?_|refine BLe.mpe ?_|refine BLe.ghe ?_|refine BLe.axe ?_ ?_|refine BLe.mx ?_|exact KLeL.nil|refine KLe.fn ?_ ?_|refine KLeL.cons ?_ ?_|exact KLe.und _|exact BLe.dead _))<;>(try with_reducible rfl)))
    all_goals first | (exact hkN) | exact congrArg (PV.int .u64) (wdiv_quo _ _)
   ·have hie : i = b % 64 := by have := lss_f hb; omega
    (refine hkG ?_)
    refine ret_pf rfl rfl (congrArg PV.b ?_)
    have e : intAr .rem .u64 ((wdiv s.b i : Nat) : Int) 2 = ((wdiv s.b i % 2 : Nat) : Int) := rem_nat (b := 2)
    rw [e, ← hie]
    refine Eq.trans ?_ (wdiv_bit s.b i).symm
    rw [Bool.eq_iff_iff]
    simp only [intCm, beq_iff_eq, decide_eq_true_iff]
    omega
 ·refine ⟨[], Nat, fun i => ⟨[(1, .p (i64 b)), (5, .p (.int .u64 (wdiv s.c i : Nat))), (6, .p (i64 i))], []⟩, fun i => i ≤ b % 64, fun i => b % 64 - i, ⟨0, Nat.zero_le _, ?_⟩, fun i hi => ?_⟩
  ·(refine ⟨⟨rfl,rfl⟩,?_,?_⟩<;>((repeat'(first|exact TLe.nil|exact HLe.nil _|refine TLe.cons ?_ ?_|refine HLe.cons ?_ ?_|exact KLe.ptr rfl|exact KLe.sl rfl (.inl rfl)|exact KLe.csl rfl|exact KLe.mpr rfl|refine KLe.pe ?_|refine KLe.tup ?_|refine KLe.agg ?_|refine BLe.pe ?_|refine BLe.mpe ?_|refine BLe.ghe ?_|refine BLe.axe ?_ ?_|refine BLe.mx ?_|exact KLeL.nil|refine KLe.fn ?_ ?_|refine KLeL.cons ?_ ?_|exact KLe.und _|exact BLe.dead _))<;>(try with_reducible rfl)))
   all_goals first | rfl | (unfold wdiv; rw [Nat.pow_zero, Nat.div_one])
  ·have hi : i ≤ b % 64 := hi
   (refine hkG ?_)
   rw [hr]
   (refine bk_split (fun hb=>?_) (fun hb=>?_))
   ·have hlt : i < b % 64 := by have := lss_t hb; omega
    (refine hkG ?_)
    refine ⟨i + 1, hlt, (show b % 64 - (i + 1) < b % 64 - i by omega), ?_⟩
    (refine ⟨⟨rfl,rfl⟩,?_,?_⟩<;>((repeat'(first|exact TLe.nil|exact HLe.nil _|refine TLe.cons ?_ ?_|refine HLe.cons ?_ ?_|exact KLe.ptr rfl|exact KLe.sl rfl (.inl rfl)|exact KLe.csl rfl|exact KLe.mpr rfl|refine KLe.pe ?_|refine KLe.tup ?_|refine KLe.agg ?_|refine BLe.pe ?_|refine BLe.mpe ?_|refine BLe.ghe ?_|refine BLe.axe ?_ ?_|refine BLe.mx ?_|exact KLeL.nil|refine KLe.fn ?_ ?_|refine KLeL.cons ?_ ?_|exact KLe.und _|exact BLe.dead _))<;>(try with_reducible rfl)))
    all_goals first | (exact hkN) | exact congrArg (PV.int .u64) (wdiv_quo _ _)
   ·have hie : i = b % 64 := by have := lss_f hb; omega
    (refine hkG ?_)
    refine ret_pf rfl rfl (congrArg PV.b ?_)
    have e : intAr .rem .u64 ((wdiv s.c i : Nat) : Int) 2 = ((wdiv s.c i % 2 : Nat) : Int) := rem_nat (b := 2)
    rw [e, ← hie]
    refine Eq.trans ?_ (wdiv_bit s.c i).symm
    rw [Bool.eq_iff_iff]
    simp only [intCm, beq_iff_eq, decide_eq_true_iff]
    omega
 ·refine ⟨[], Nat, fun i => ⟨[(1, .p (i64 b)), (5, .p (.int .u64 (wdiv s.d i : Nat))), (6, .p (i64 i))], []⟩, fun i => i ≤ b % 64, fun i => b % 64 - i, ⟨0, Nat.zero_le _, ?_⟩, fun i hi => ?_⟩
  ·(refine ⟨⟨rfl,rfl⟩,?_,?_⟩<;>((repeat'(first|exact TLe.nil|exact HLe.nil _|refine TLe.cons ?_ ?_|refine HLe.cons ?_ ?_|exact KLe.ptr rfl|exact KLe.sl rfl (.inl rfl)|exact KLe.csl rfl|exact KLe.mpr rfl|refine KLe.pe ?_|refine KLe.tup ?_|refine KLe.agg ?_|refine BLe.pe ?_|refine BLe.mpe ?_|refine BLe.ghe ?_|refine BLe.axe ?_ ?_|refine BLe.mx ?_|exact KLeL.nil|refine KLe.fn ?_ ?_|refine KLeL.cons ?_ ?_|exact KLe.und _|exact BLe.dead _))<;>(try with_reducible rfl)))
   all_goals first | rfl | (unfold wdiv; rw [Nat.pow_zero, Nat.div_one])
  ·have hi : i ≤ b % 64 := hi
   (refine hkG ?_)
   rw [hr]
   (refine bk_split (fun hb=>?_) (fun hb=>?_))
   ·have hlt : i < b % 64 := by have := lss_t hb; omega
    (refine hkG ?_)
    refine ⟨i + 1, hlt, (show b % 64 - (i + 1) < b % 64 - i by omega), ?_⟩
    (refine ⟨⟨rfl,rfl⟩,?_,?_⟩<;>((repeat'(first|exact TLe.nil|exact HLe.nil _|refine TLe.cons ?_ ?_|refine HLe.cons ?_ ?_|exact KLe.ptr rfl|exact KLe.sl rfl (.inl rfl)|exact KLe.csl rfl|exact KLe.mpr rfl|refine KLe.pe ?_|refine KLe.tup ?_|refine KLe.agg ?_|refine BLe.pe ?_|refine BLe.mpe ?_|refine BLe.ghe ?_|refine BLe.axe ?_ ?_|refine BLe.mx ?_|exact KLeL.nil|refine KLe.fn ?_ ?_|refine KLeL.cons ?_ ?_|exact KLe.und _|exact BLe.dead _))<;>(try with_reducible rfl)))
    all_goals first | (exact hkN) | exact congrArg (PV.int .u64) (wdiv_quo _ _)
   ·have hie : i = b % 64 := by have := lss_f hb; omega
    (refine hkG ?_)
    refine ret_pf rfl rfl (congrArg PV.b ?_)
    have e : intAr .rem .u64 ((wdiv s.d i : Nat) : Int) 2 = ((wdiv s.d i % 2 : Nat) : Int) := rem_nat (b := 2)
    rw [e, ← hie]
    refine Eq.trans ?_ (wdiv_bit s.d i).symm
    rw [Bool.eq_iff_iff]
    simp only [intCm, beq_iff_eq, decide_eq_true_iff]
    omega
end Hk
namespace Hk
open Go Go.Proofs
set_option linter.unusedVariables false
set_option linter.unusedSimpArgs false
set_option maxRecDepth 100000
def Set4.setWord (s : Set4) (q : Nat) (w : BitVec 64) : Set4 :=
 match q with
 | 0 => ⟨w, s.b, s.c, s.d⟩
 | 1 => ⟨s.a, w, s.c, s.d⟩
 | 2 => ⟨s.a, s.b, w, s.d⟩
 | _ => ⟨s.a, s.b, s.c, w⟩
def setOf (c : Nat) : Set4 := Set4.nil.setWord (c / 64) (1#64 <<< (c % 64))
theorem of_one (c : UInt8) (cap : Option Nat) : PF Tryz.prog 223 [.isl 1 [[.int .u8 c.toNat]] cap] (.agg (setOf c.toNat).cells) := by
 have hc := c.toNat_lt
 have hq : intAr .quo .u8 (c.toNat : Int) 64 = ((c.toNat / 64 : Nat) : Int) := quo_nat (b := 64) (by rw [wrap_u8]; omega)
 have hr : intAr .rem .u8 (c.toNat : Int) 64 = ((c.toNat % 64 : Nat) : Int) := rem_nat (b := 64)
 have hs : intAr .shl .u64 1 ((c.toNat % 64 : Nat) : Int) = (((1#64 <<< (c.toNat % 64)) : BitVec 64).toNat : Int) := by
  have h1 := Nat.mod_lt c.toNat (show 64 > 0 by decide)
  show IntKind.u64.wrap ((1 : Int) * 2 ^ (min (((c.toNat % 64 : Nat) : Int).toNat) 64)) = _
  rw [Int.toNat_natCast, Nat.min_eq_left (by omega), wrap_u64, BitVec.toNat_shiftLeft, Nat.shiftLeft_eq]
  simp
 have hor : intAr .or .u64 0 (intAr .shl .u64 1 (intAr .rem .u8 (c.toNat : Int) 64)) = (((1#64 <<< (c.toNat % 64)) : BitVec 64).toNat : Int) := by
  rw [hr, hs]
  exact (u64_or 0#64 _).trans (by simp)
 refine pf_intro rf223_eq rmixed rfl ?_
 (refine hkG ?_)
 refine ⟨[], Nat, fun i => ⟨[(2, .ptr 0 4 0 0), (3, .ptr 1 4 0 0), (6, .p (.isl 1 [[.int .u8 c.toNat]] cap)), (7, .p (i64 1)), (8, .p (i64 i))],
  [.pr 4 [Set4.nil.cells], .pr 4 [(if i = 0 then Set4.nil else setOf c.toNat).cells]]⟩, fun i => i ≤ 1, fun i => 1 - i, ⟨0, by omega, ?_⟩, fun i hi => ?_⟩
 ·(refine ⟨⟨rfl,rfl⟩,?_,?_⟩<;>((repeat'(first|exact TLe.nil|exact HLe.nil _|refine TLe.cons ?_ ?_|refine HLe.cons ?_ ?_|exact KLe.ptr rfl|exact KLe.sl rfl (.inl rfl)|exact KLe.csl rfl|exact KLe.mpr rfl|refine KLe.pe ?_|refine KLe.tup ?_|refine KLe.agg ?_|refine BLe.pe ?_|refine BLe.mpe ?_|refine BLe.ghe ?_|refine BLe.axe ?_ ?_|refine BLe.mx ?_|exact KLeL.nil|refine KLe.fn ?_ ?_|refine KLeL.cons ?_ ?_|exact KLe.und _|exact BLe.dead _))<;>(try with_reducible rfl)))
  all_goals rfl
 ·have hi : i ≤ 1 := hi
  match i, hi with
  | 0, _ =>
    (refine hkG ?_)
    refine bk_is (lssT (by omega)) ?_
    (refine hkG ?_)
    rw [hq]
    unfold setOf
    have hlt : c.toNat / 64 = 0 ∨ c.toNat / 64 = 1 ∨ c.toNat / 64 = 2 ∨ c.toNat / 64 = 3 := by omega
    generalize c.toNat / 64 = q at hlt
    rcases hlt with rfl | rfl | rfl | rfl
    all_goals
     (refine hkG ?_)
     refine ⟨1, Nat.le_refl _, (by decide : 1 - 1 < 1 - 0), ?_⟩
     (refine ⟨⟨rfl,rfl⟩,?_,?_⟩<;>((repeat'(first|exact TLe.nil|exact HLe.nil _|refine TLe.cons ?_ ?_|refine HLe.cons ?_ ?_|exact KLe.ptr rfl|exact KLe.sl rfl (.inl rfl)|exact KLe.csl rfl|exact KLe.mpr rfl|refine KLe.pe ?_|refine KLe.tup ?_|refine KLe.agg ?_|refine BLe.pe ?_|refine BLe.mpe ?_|refine BLe.ghe ?_|refine BLe.axe ?_ ?_|refine BLe.mx ?_|exact KLeL.nil|refine KLe.fn ?_ ?_|refine KLeL.cons ?_ ?_|exact KLe.und _|exact BLe.dead _))<;>(try with_reducible rfl)))
     all_goals first | rfl | (exact hkN) | skip
     all_goals first | exact congrArg (fun x => [[PV.int .u64 x, _, _, _]]) hor | exact congrArg (fun x => [[_, PV.int .u64 x, _, _]]) hor | exact congrArg (fun x => [[_, _, PV.int .u64 x, _]]) hor | exact congrArg (fun x => [[_, _, _, PV.int .u64 x]]) hor
  | 1, _ =>
    (refine hkG ?_)
    refine bk_is (lssF (by omega)) ?_
    (refine hkG ?_)
    exact ret_pf rfl rfl rfl
def mstep1 (m : Nat → Bool) (s : Set4) (b : Nat) : Set4 := s.setWord (b / 64) (s.word (b / 64) * 2#64 + (if m b then 1#64 else 0#64))
def made (m : Nat → Bool) : Nat → Set4
 | 0 => .nil
 | n + 1 => mstep1 m (made m n) (255 - n)
def marks (m : Nat → Bool) : List PV := (List.range 256).map fun j => .b (m j)
theorem marks_get (m : Nat → Bool) {j : Nat} (h : j < 256) : (marks m)[j]? = some (.b (m j)) := by simp [marks, h]
theorem marks_len (m : Nat → Bool) : (marks m).length = 256 := by simp [marks]
theorem u64_mul2 (w : BitVec 64) : intAr .mul .u64 (w.toNat : Int) 2 = ((w * 2#64).toNat : Int) := by
 show IntKind.u64.wrap ((w.toNat : Int) * 2) = _
 rw [wrap_u64, BitVec.toNat_mul]
 simp
theorem u64_add1 (w : BitVec 64) : intAr .add .u64 (w.toNat : Int) 1 = ((w + 1#64).toNat : Int) := by
 show IntKind.u64.wrap ((w.toNat : Int) + 1) = _
 rw [wrap_u64, BitVec.toNat_add]
 simp
theorem made_fn (m : Nat → Bool) : PF Tryz.prog 143 [.agg (marks m)] (.agg (made m 256).cells) := by
 refine pf_intro rf143_eq rmixed rfl ?_
 (refine hkG ?_)
 refine ⟨[], Nat, fun n => ⟨[(1, .ptr 0 256 0 0), (2, .ptr 1 4 0 0), (3, .ptr 2 4 0 0), (4, .p (i64 (255 - (n : Int))))],
  [.pr 256 [marks m], .pr 4 [Set4.nil.cells], .pr 4 [(made m n).cells]]⟩, fun n => n ≤ 256, fun n => 256 - n, ⟨0, by omega, ?_⟩, fun n hn => ?_⟩
 ·(refine ⟨⟨rfl,rfl⟩,?_,?_⟩<;>((repeat'(first|exact TLe.nil|exact HLe.nil _|refine TLe.cons ?_ ?_|refine HLe.cons ?_ ?_|exact KLe.ptr rfl|exact KLe.sl rfl (.inl rfl)|exact KLe.csl rfl|exact KLe.mpr rfl|refine KLe.pe ?_|refine KLe.tup ?_|refine KLe.agg ?_|refine BLe.pe ?_|refine BLe.mpe ?_|refine BLe.ghe ?_|refine BLe.axe ?_ ?_|refine BLe.mx ?_|exact KLeL.nil|refine KLe.fn ?_ ?_|refine KLeL.cons ?_ ?_|exact KLe.und _|exact BLe.dead _))<;>(try with_reducible rfl)))
  all_goals rfl
 ·have hn : n ≤ 256 := hn
  (refine hkG ?_)
  (refine bk_split (fun hb=>?_) (fun hb=>?_))
  ·have hlt : n < 256 := by have := geq_t hb; omega
   have e : (255 - (n : Int)) = ((255 - n : Nat) : Int) := by omega
   have hq : intAr .quo .i64 (255 - (n : Int)) 64 = (((255 - n) / 64 : Nat) : Int) := by rw [e]; exact quo_nat (b := 64) (wrap_i64 (by omega) (by omega))
   have hmk : (marks m)[0 + (255 - (n : Int)).toNat * 1]? = some (.b (m (255 - n))) := by
    rw [e, Int.toNat_natCast, Nat.zero_add, Nat.mul_one]; exact marks_get m (by omega)
   have hml := marks_len m
   (refine hkG ?_)
   rw [hq]
   have hs : made m (n + 1) = mstep1 m (made m n) (255 - n) := rfl
   unfold mstep1 at hs
   have hlt4 : (255 - n) / 64 = 0 ∨ (255 - n) / 64 = 1 ∨ (255 - n) / 64 = 2 ∨ (255 - n) / 64 = 3 := by omega
   generalize (255 - n) / 64 = q at hlt4 hs hq ⊢
   obtain ⟨v, hv⟩ : ∃ v, m (255 - n) = v := ⟨_, rfl⟩
   rw [hv] at hmk hs
   cases v
   ·rw [if_neg (by decide), BitVec.add_zero] at hs
    rcases hlt4 with rfl | rfl | rfl | rfl
    all_goals
     (refine hkG ?_)
     refine ⟨_, hmk, ?_⟩
     (refine hkG ?_)
     refine ⟨n + 1, hlt, (show 256 - (n + 1) < 256 - n by omega), ?_⟩
     (refine ⟨⟨rfl,rfl⟩,?_,?_⟩<;>((repeat'(first|exact TLe.nil|exact HLe.nil _|refine TLe.cons ?_ ?_|refine HLe.cons ?_ ?_|exact KLe.ptr rfl|exact KLe.sl rfl (.inl rfl)|exact KLe.csl rfl|exact KLe.mpr rfl|refine KLe.pe ?_|refine KLe.tup ?_|refine KLe.agg ?_|refine BLe.pe ?_|refine BLe.mpe ?_|refine BLe.ghe ?_|refine BLe.axe ?_ ?_|refine BLe.mx ?_|exact KLeL.nil|refine KLe.fn ?_ ?_|refine KLeL.cons ?_ ?_|exact KLe.und _|exact BLe.dead _))<;>(try with_reducible rfl)))
     all_goals first | rfl | exact congrArg (PV.int .i64) (by rw [sub64 (by omega) (by omega)]; omega) | skip
     all_goals (rw [hs, u64_mul2]; rfl)
   ·rw [if_pos rfl] at hs
    rcases hlt4 with rfl | rfl | rfl | rfl
    all_goals
     (refine hkG ?_)
     refine ⟨_, hmk, ?_⟩
     (refine hkG ?_)
     rw [hq]
     (refine hkG ?_)
     refine ⟨n + 1, hlt, (show 256 - (n + 1) < 256 - n by omega), ?_⟩
     (refine ⟨⟨rfl,rfl⟩,?_,?_⟩<;>((repeat'(first|exact TLe.nil|exact HLe.nil _|refine TLe.cons ?_ ?_|refine HLe.cons ?_ ?_|exact KLe.ptr rfl|exact KLe.sl rfl (.inl rfl)|exact KLe.csl rfl|exact KLe.mpr rfl|refine KLe.pe ?_|refine KLe.tup ?_|refine KLe.agg ?_|refine BLe.pe ?_|refine BLe.mpe ?_|refine BLe.ghe ?_|refine BLe.axe ?_ ?_|refine BLe.mx ?_|exact KLeL.nil|refine KLe.fn ?_ ?_|refine KLeL.cons ?_ ?_|exact KLe.und _|exact BLe.dead _))<;>(try with_reducible rfl)))
     all_goals first | rfl | exact congrArg (PV.int .i64) (by rw [sub64 (by omega) (by omega)]; omega) | skip
     all_goals (rw [hs, u64_mul2, u64_add1]; rfl)
  ·have hlt : n = 256 := by have := geq_f hb; omega
   subst hlt
   (refine hkG ?_)
   exact ret_pf rfl rfl rfl
def range' (lo hi : Nat) : Set4 := made (fun j => decide (lo ≤ j ∧ j ≤ hi)) 256
theorem marks_set (f g : Nat → Bool) (n : Nat) (h : ∀ j, j ≠ n → f j = g j) (hn : g n = true) (hlt : n < 256) :
 (marks f).take (0 + n * 1) ++ [.b true] ++ (marks f).drop (0 + n * 1 + 1) = marks g := by
 apply List.ext_getElem?
 intro j
 have l1 : ((marks f).take (0 + n * 1)).length = n := by rw [List.length_take, marks_len]; omega
 rcases Nat.lt_trichotomy j n with h1 | h1 | h1
 ·rw [List.append_assoc, List.getElem?_append_left (by omega), List.getElem?_take_of_lt (by omega), marks_get f (by omega), marks_get g (by omega), h j (by omega)]
 ·subst h1
  rw [List.append_assoc, List.getElem?_append_right (by omega), l1, Nat.sub_self, marks_get g hlt, hn]; rfl
 ·rw [List.append_assoc, List.getElem?_append_right (by omega), l1, List.getElem?_append_right (by simp; omega), List.getElem?_drop]
  simp only [List.length_singleton]
  rw [show 0 + n * 1 + 1 + (j - n - 1) = j by omega]
  rcases Nat.lt_or_ge j 256 with h2 | h2
  ·rw [marks_get f h2, marks_get g h2, h j (by omega)]
  ·rw [List.getElem?_eq_none (by rw [marks_len]; omega), List.getElem?_eq_none (by rw [marks_len]; omega)]
theorem range_fn (lo hi : Nat) (h1 : lo ≤ hi) (h2 : hi < 256) : PF Tryz.prog 74 [i64 lo, i64 hi] (.agg (range' lo hi).cells) := by
 refine pf_intro rf74_eq rmixed rfl ?_
 (refine hkG ?_)
 refine ⟨[], Nat, fun n => ⟨[(1, .p (i64 hi)), (4, .ptr 0 4 0 0), (5, .ptr 1 256 0 0), (6, .p (i64 n))],
  [.pr 4 [Set4.nil.cells], .pr 256 [marks fun j => decide (lo ≤ j ∧ j < n)]]⟩, fun n => lo ≤ n ∧ n ≤ hi + 1, fun n => hi + 1 - n, ⟨lo, by omega, ?_⟩, fun n hn => ?_⟩
 ·(refine ⟨⟨rfl,rfl⟩,?_,?_⟩<;>((repeat'(first|exact TLe.nil|exact HLe.nil _|refine TLe.cons ?_ ?_|refine HLe.cons ?_ ?_|exact KLe.ptr rfl|exact KLe.sl rfl (.inl rfl)|exact KLe.csl rfl|exact KLe.mpr rfl|refine KLe.pe ?_|refine KLe.tup ?_|refine KLe.agg ?_|refine BLe.pe ?_|refine BLe.mpe ?_|refine BLe.ghe ?_|refine BLe.axe ?_ ?_|refine BLe.mx ?_|exact KLeL.nil|refine KLe.fn ?_ ?_|refine KLeL.cons ?_ ?_|exact KLe.und _|exact BLe.dead _))<;>(try with_reducible rfl)))
  all_goals first | rfl | skip
  refine congrArg (fun x => [x]) ?_
  have : ∀ j, decide (lo ≤ j ∧ j < lo) = false := fun j => decide_eq_false (by omega)
  simp only [marks, this]
  rfl
 ·obtain ⟨hn1, hn2⟩ := hn
  (refine hkG ?_)
  (refine bk_split (fun hb=>?_) (fun hb=>?_))
  ·have hlt : n ≤ hi := by have := leq_t hb; omega
   have hml := marks_len fun j => decide (lo ≤ j ∧ j < n)
   (refine hkG ?_)
   refine ⟨n + 1, ⟨by omega, by omega⟩, (show hi + 1 - (n + 1) < hi + 1 - n by omega), ?_⟩
   (refine ⟨⟨rfl,rfl⟩,?_,?_⟩<;>((repeat'(first|exact TLe.nil|exact HLe.nil _|refine TLe.cons ?_ ?_|refine HLe.cons ?_ ?_|exact KLe.ptr rfl|exact KLe.sl rfl (.inl rfl)|exact KLe.csl rfl|exact KLe.mpr rfl|refine KLe.pe ?_|refine KLe.tup ?_|refine KLe.agg ?_|refine BLe.pe ?_|refine BLe.mpe ?_|refine BLe.ghe ?_|refine BLe.axe ?_ ?_|refine BLe.mx ?_|exact KLeL.nil|refine KLe.fn ?_ ?_|refine KLeL.cons ?_ ?_|exact KLe.und _|exact BLe.dead _))<;>(try with_reducible rfl)))
   all_goals first | rfl | (exact hkN) | skip
   refine congrArg (fun x => [x]) ?_
   rw [Int.toNat_natCast]
   exact marks_set _ _ n (fun j hj => decide_eq_decide.2 (by omega)) (decide_eq_true (by omega)) (by omega)
  ·have hlt : n = hi + 1 := by have := leq_f hb; omega
   subst hlt
   have e : (fun j => decide (lo ≤ j ∧ j < hi + 1)) = fun j => decide (lo ≤ j ∧ j ≤ hi) := funext fun j => decide_eq_decide.2 (by omega)
   have hml := marks_len fun j => decide (lo ≤ j ∧ j < hi + 1)
   (refine hkG ?_)
   refine vcall_pf (made_fn fun j => decide (lo ≤ j ∧ j < hi + 1)) rfl (congrArg (fun x => [PV.agg x]) (by rw [dropN_eq, List.drop_zero]; exact take_all (by rw [hml]; omega))) ?_
   (refine hkG ?_)
   refine ret_pf rfl rfl ?_
   unfold range'
   rw [← e]
   rfl
end Hk
namespace Hk
open Go Go.Proofs
set_option maxRecDepth 100000
def rf152 : RFn := ⟨1, 4, [.tmp 2], .seq (.ops [D 1 (.box true 0 4),
D 2 (.mov (.c (.lit .nilFunc)))])
(.seq (.ops [D 3 (.mkfn 197 [] [1]),
D 2 (.mov 3)])
(.ret))⟩
theorem rf152_eq : cfnAt Tryz.prog 152 [] = some rf152 := by kernel_rfl
def rf197 : RFn := ⟨1, 26, [], .seq (.ops [D 5 (.load 1 4 true),
D 6 (.mov (I 0))])
(.block 0 (.loop [0, 5, 6] (.seq (.ops [D 7 (.bin .lss 6 (I 4))])
(.seq (.cond 7 (.skip) (.exit 0))
(.seq (.block 1 (.seq (.ops [D 8 (.mov 6),
D 9 (.idxArr 5 6 4 1 false),
D 3 (.mov 8),
D 4 (.mov 9)])
(.block 2 (.loop [0, 3, 4, 5, 6] (.seq (.seq (.ops [D 10 (.mov 4),
D 11 (.bin .neq 10 (.c (.int .u64 0)))])
(.cond 11 (.skip) (.exit 2)))
(.block 3 (.seq (.seq (.ops [D 12 (.mov 0),
D 13 (.mov 3),
D 14 (.bin .mul 13 (I 64)),
D 15 (.mov 4),
D 16 (.call 198 [15]),
D 17 (.bin .add 14 16),
D 18 (.convI .u8 17),
D 19 (.callv 12 [18]),
D 20 (.un .not 19)])
(.cond 20 (.ret) (.skip)))
(.ops [D 21 (.mov 4),
D 22 (.mov 4),
D 23 (.bin .sub 22 (.c (.int .u64 1))),
D 24 (.bin .and 21 23),
D 4 (.mov 24)]))))))))
(.ops [D 25 (.bin .add 6 (I 1)),
D 6 (.mov 25)]))))))⟩
theorem rf197_eq : cfnIt Tryz.prog 197 [[0, 5, 6], [0, 3, 4, 5, 6]] = some rf197 := by kernel_rfl
def rf78 : RFn := ⟨2, 15, [.cell 4 1 false], .seq (.ops [D 2 (.box true 0 4),
D 3 (.box false 1 1),
D 4 (.alloc false [(.int .i64 0)])])
(.seq (.seq (.ops [D 6 (.load 2 4 true),
D 7 (.call 152 [6])])
(.block 0 (.rangef [3, 4, 7] 7 [8] (.ops [D 5 (.mov 8)]) (.block 1 (.seq (.ops [D 9 (.mov 5),
D 10 (.convI .i64 9),
D 11 (.load 3 1 false),
D 12 (.bin .geq 10 11)])
(.cond 12 (.seq (.ops [D 13 (.mov 5),
D 14 (.convI .i64 13),
N (.store 4 14 1)])
(.ret)) (.skip)))))))
(.seq (.ops [N (.store 4 (I (-1)) 1)])
(.ret)))⟩
theorem rf78_eq : cfnAt Tryz.prog 78 [[3, 4, 7]] = some rf78 := by kernel_rfl
def rf198 : RFn := ⟨1, 14, [.tmp 2], .seq (.ops [D 2 (.mov (I 0))])
(.seq (.seq (.ops [D 3 (.mov 0),
D 4 (.bin .eql 3 (.c (.int .u64 0)))])
(.cond 4 (.seq (.ops [D 2 (.mov (I 64))])
(.ret)) (.skip)))
(.seq (.ops [D 5 (.mov 0),
D 6 (.mov 0),
D 7 (.un .neg 6),
D 8 (.bin .and 5 7),
D 9 (.bin .mul 8 (.c (.int .u64 285870213051353865))),
D 10 (.bin .shr 9 (.c (.int .u64 58))),
D 11 (.idxA (.c (.irow gDB 0)) 10 64 1),
D 12 (.load 11 1 false),
D 13 (.convI .i64 12),
D 2 (.mov 13)])
(.ret)))⟩
theorem rf198_eq : cfnAt Tryz.prog 198 [] = some rf198 := by kernel_rfl
def rf178 : RFn := ⟨1, 40, [.cell 2 257 true], .seq (.ops [D 2 (.allocx 256 (.int .u8 0) [(.int .i64 0)])])
(.seq (.ops [D 3 (.allocx 256 (.int .u8 0) [(.int .i64 0)])])
(.seq (.ops [D 8 (.mkmap true [(.int .i64), (.int .i64)]),
D 4 (.mov 8)])
(.seq (.seq (.ops [D 9 (.mov (I 0))])
(.block 0 (.loop [0, 2, 3, 4, 9] (.seq (.ops [D 10 (.bin .lss 9 (I 256))])
(.seq (.cond 10 (.skip) (.exit 0))
(.seq (.block 1 (.seq (.ops [D 11 (.mov 9),
D 5 (.mov 11)])
(.seq (.ops [D 13 (.mov 4),
D 14 (.mov 0),
D 15 (.mov 5),
D 16 (.callv 14 [15]),
D 17 (.mlook true [(.int .i64), (.int .i64)] (.int .u8 0) true 13 16),
D 12 (.mov 17),
D 18 (.ext 12 0),
D 19 (.ext 12 1),
D 6 (.mov 18),
D 7 (.mov 19)])
(.seq (.seq (.ops [D 20 (.mov 7),
D 21 (.un .not 20)])
(.cond 21 (.seq (.ops [D 22 (.fadr 3 256),
D 23 (.load 22 1 false),
D 24 (.convI .u8 23),
D 6 (.mov 24)])
(.seq (.ops [D 25 (.mov 4),
D 26 (.mov 0),
D 27 (.mov 5),
D 28 (.callv 26 [27]),
D 29 (.mov 6),
N (.mset true [(.int .i64), (.int .i64)] 25 28 29)])
(.ops [D 30 (.fadr 3 256),
D 31 (.load 30 1 false),
D 32 (.bin .add 31 (I 1)),
D 33 (.fadr 3 256),
N (.store 33 32 1)]))) (.skip)))
(.ops [D 34 (.mov 5),
D 35 (.mov 6),
D 36 (.fadr 3 0),
D 37 (.idxA 36 34 256 1),
N (.store 37 35 1)])))))
(.ops [D 38 (.bin .add 9 (I 1)),
D 9 (.mov 38)])))))))
(.seq (.ops [D 39 (.load 3 257 true),
N (.store 2 39 257)])
(.ret)))))⟩
theorem rf178_eq : cfnAt Tryz.prog 178 [[0, 2, 3, 4, 9]] = some rf178 := by kernel_rfl
def rf119 : RFn := ⟨1, 19, [.cell 2 257 true], .seq (.ops [D 2 (.allocx 256 (.int .u8 0) [(.int .i64 0)])])
(.seq (.ops [D 7 (.buildx 256 (.int .u8 0) [(.int .i64 0)] [(256, 1, (I 1))]),
D 3 (.allocx 256 (.int .u8 0) [(.int .i64 0)]),
N (.store 3 7 257)])
(.seq (.seq (.ops [D 8 (.mov 0),
D 9 (.len 8),
D 10 (.mov (I 0))])
(.block 0 (.loop [2, 3, 8, 9, 10] (.seq (.ops [D 11 (.bin .lss 10 9)])
(.seq (.cond 11 (.skip) (.exit 0))
(.seq (.block 1 (.seq (.ops [D 12 (.idxS 8 10 4),
D 13 (.load 12 4 true),
D 5 (.alloc true [(.int .u64 0), (.int .u64 0), (.int .u64 0), (.int .u64 0)]),
N (.store 5 13 4)])
(.seq (.ops [D 14 (.load 3 257 true),
D 6 (.allocx 256 (.int .u8 0) [(.int .i64 0)]),
N (.store 6 14 257)])
(.ops [D 15 (.mkfn 179 [] [5, 6]),
D 16 (.call 178 [15]),
N (.store 3 16 257)]))))
(.ops [D 17 (.bin .add 10 (I 1)),
D 10 (.mov 17)])))))))
(.seq (.ops [D 18 (.load 3 257 true),
N (.store 2 18 257)])
(.ret))))⟩
theorem rf119_eq : cfnAt Tryz.prog 119 [[2, 3, 8, 9, 10]] = some rf119 := by kernel_rfl
def rf179 : RFn := ⟨1, 21, [.cell 4 2 true], .seq (.ops [D 4 (.alloc true [(.int .i64 0), (.int .i64 0)])])
(.seq (.seq (.ops [D 5 (.load 1 4 true),
D 6 (.mov 0),
D 7 (.convI .u8 6),
D 8 (.call 180 [5, 7])])
(.cond 8 (.seq (.ops [D 9 (.mov 0),
D 10 (.fadr 2 0),
D 11 (.idxA 10 9 256 1),
D 12 (.load 11 1 false),
D 13 (.convI .i64 12),
D 14 (.build [(.int .i64 0), (.int .i64 0)] [(0, 1, 13), (1, 1, (I 1))]),
N (.store 4 14 2)])
(.ret)) (.skip)))
(.seq (.ops [D 15 (.mov 0),
D 16 (.fadr 2 0),
D 17 (.idxA 16 15 256 1),
D 18 (.load 17 1 false),
D 19 (.convI .i64 18),
D 20 (.build [(.int .i64 0), (.int .i64 0)] [(0, 1, 19), (1, 1, (I 0))]),
N (.store 4 20 2)])
(.ret)))⟩
theorem rf179_eq : cfnAt Tryz.prog 179 [] = some rf179 := by kernel_rfl
def rf144 : RFn := ⟨1, 7, [.tmp 2], .seq (.ops [D 1 (.boxx 256 0 257),
D 2 (.mov FF)])
(.seq (.draw (.take (D 3 (.load 1 257 true))<|
.take (D 4 (.mkfn 196 [] [1]))<|
.alt (D 5 (.call 178 [4])) false (.take (D 6 (.cmpa false (List.replicate 256 (.int .u8) ++ [(.int .i64)]) 3 5))<|
.take (D 2 (.mov 6))<|
.done)
(.noalt)))
(.ret))⟩
theorem rf144_eq : cfnAt Tryz.prog 144 [] = some rf144 := by kernel_rfl
def rf196 : RFn := ⟨1, 10, [.cell 3 2 true], .seq (.ops [D 3 (.alloc true [(.int .i64 0), (.int .i64 0)])])
(.seq (.ops [D 4 (.mov 0),
D 5 (.fadr 1 0),
D 6 (.idxA 5 4 256 1),
D 7 (.load 6 1 false),
D 8 (.convI .i64 7),
D 9 (.build [(.int .i64 0), (.int .i64 0)] [(0, 1, 8)]),
N (.store 3 9 2)])
(.ret))⟩
theorem rf196_eq : cfnAt Tryz.prog 196 [] = some rf196 := by kernel_rfl
def rf167 : RFn := ⟨2, 29, [.cell 4 4 true], .seq (.ops [D 2 (.boxx 256 0 257),
D 4 (.alloc true [(.int .u64 0), (.int .u64 0), (.int .u64 0), (.int .u64 0)])])
(.seq (.ops [D 5 (.alloc true [(.int .u64 0), (.int .u64 0), (.int .u64 0), (.int .u64 0)])])
(.seq (.seq (.ops [D 7 (.load 2 257 true),
D 8 (.call 144 [7]),
D 9 (.un .not 8)])
(.cond 9 (.seq (.ops [D 10 (.load 5 4 true),
N (.store 4 10 4)])
(.ret)) (.skip)))
(.seq (.seq (.ops [D 11 (.mov (I 0))])
(.block 0 (.loop [1, 2, 4, 5, 11] (.seq (.ops [D 12 (.bin .lss 11 (I 256))])
(.seq (.cond 12 (.skip) (.exit 0))
(.seq (.block 1 (.seq (.ops [D 13 (.mov 11),
D 6 (.mov 13)])
(.seq (.ops [D 14 (.mov 6),
D 15 (.fadr 2 0),
D 16 (.idxA 15 14 256 1),
D 17 (.load 16 1 false),
D 18 (.convI .i64 17),
D 19 (.mov 1),
D 20 (.bin .eql 18 19)])
(.cond 20 (.draw (.take (D 21 (.load 5 4 true))<|
.take (D 22 (.mov 6))<|
.take (D 23 (.convI .u8 22))<|
.alt (D 24 (.bslice 1 [23])) false (.alt (D 25 (.call 223 [24])) false (.alt (D 26 (.call 222 [21, 25])) true (.alt (N (.store 5 26 4)) true (.done)
(.noalt))
(.noalt))
(.noalt))
(.noalt))) (.skip)))))
(.ops [D 27 (.bin .add 11 (I 1)),
D 11 (.mov 27)])))))))
(.seq (.ops [D 28 (.load 5 4 true),
N (.store 4 28 4)])
(.ret)))))⟩
theorem rf167_eq : cfnAt Tryz.prog 167 [[1, 2, 4, 5, 11]] = some rf167 := by kernel_rfl
def rf103 : RFn := ⟨2, 9, [.tmp 4], .seq (.ops [D 2 (.boxx 256 0 257),
D 4 (.mov (I 0))])
(.seq (.ops [D 5 (.load 2 257 true),
D 6 (.mov 1),
D 7 (.call 167 [5, 6]),
D 8 (.call 78 [7, (I 0)]),
D 4 (.mov 8)])
(.ret))⟩
theorem rf103_eq : cfnAt Tryz.prog 103 [] = some rf103 := by kernel_rfl
end Hk
namespace Hk
open Go Go.Proofs
set_option linter.unusedVariables false
set_option linter.unusedSimpArgs false
set_option maxRecDepth 100000
def bitsN (n : Nat) : List Nat := (List.range 64).filter fun j => n.testBit j
theorem filter_first {p : Nat → Bool} {n k : Nat} (hk : k < n) (hp : p k = true) (h : ∀ j, j < k → p j = false) : (List.range n).filter p = k :: (List.range n).filter fun j => p j && decide (j ≠ k) := by
 have e : List.range n = List.range k ++ k :: (List.range' (k + 1) (n - (k + 1))) := by
  rw [List.range_eq_range', List.range_eq_range']
  have h1 : List.range' 0 n = List.range' 0 k ++ List.range' k (n - k) := by
   have := List.range'_append_1 (s := 0) (m := k) (n := n - k)
   rw [Nat.zero_add] at this
   rw [this]; congr 1; omega
  rw [h1]
  congr 1
  have : n - k = (n - (k + 1)) + 1 := by omega
  rw [this, List.range'_succ]
 rw [e, List.filter_append, List.filter_append, List.filter_cons_of_pos hp]
 have h1 : (List.range k).filter p = [] := by
  rw [List.filter_eq_nil_iff]; intro j hj; simp at hj; simp [h j hj]
 have h2 : (List.range k).filter (fun j => p j && decide (j ≠ k)) = [] := by
  rw [List.filter_eq_nil_iff]; intro j hj; simp at hj; simp [h j hj]
 rw [h1, h2, List.filter_cons_of_neg (by simp)]
 simp only [List.nil_append]
 congr 1
 apply List.filter_congr
 intro j hj
 simp at hj
 have : j ≠ k := by omega
 simp [this]
theorem low_bit {n : Nat} (h0 : n ≠ 0) (h : n < 2 ^ 64) : ∃ m, n = 2 ^ (Lib.ctz 64 n + 1) * m + 2 ^ Lib.ctz 64 n ∧ Lib.ctz 64 n < 64 := by
 obtain ⟨m, h1, h2⟩ := Lib.ctzFrom_spec 64 n (by omega) h
 have e : Lib.ctz 64 n = Lib.ctzFrom 64 n := by unfold Lib.ctz; rw [if_neg h0]
 rw [e]
 refine ⟨m, ?_, h2⟩
 rw [Nat.pow_succ]
 rw [Nat.mul_assoc, ← Nat.mul_add_one]
 exact h1
theorem low_drop {n : Nat} (h0 : n ≠ 0) (h : n < 2 ^ 64) : bitsN n = Lib.ctz 64 n :: bitsN (n &&& (n - 1)) ∧ (n &&& (n - 1)) < n := by
 obtain ⟨m, e, hk⟩ := low_bit h0 h
 generalize Lib.ctz 64 n = k at *
 have hp : 0 < 2 ^ k := Nat.two_pow_pos k
 have hps : 2 ^ k < 2 ^ (k + 1) := Nat.pow_lt_pow_right (by omega) (by omega)
 have e1 : n - 1 = 2 ^ (k + 1) * m + (2 ^ k - 1) := by omega
 have tb : ∀ j, n.testBit j = if j < k + 1 then decide (k = j) else m.testBit (j - (k + 1)) := fun j => by
  rw [e, Nat.testBit_two_pow_mul_add _ hps, Nat.testBit_two_pow]
 have tb1 : ∀ j, (n - 1).testBit j = if j < k + 1 then decide (j < k) else m.testBit (j - (k + 1)) := fun j => by
  rw [e1, Nat.testBit_two_pow_mul_add _ (by omega), Nat.testBit_two_pow_sub_one]
 have tb2 : ∀ j, (n &&& (n - 1)).testBit j = (n.testBit j && decide (j ≠ k)) := fun j => by
  rw [Nat.testBit_and, tb, tb1]
  by_cases hj : j < k + 1
  ·rw [if_pos hj, if_pos hj]
   by_cases hjk : k = j
   ·subst hjk; simp
   ·simp [hjk]
  ·rw [if_neg hj, if_neg hj]
   have : j ≠ k := by omega
   simp [this]
 refine ⟨?_, ?_⟩
 ·unfold bitsN
  rw [filter_first hk (by rw [tb]; simp) (fun j hj => by rw [tb, if_pos (by omega)]; simp; omega)]
  congr 1
  apply List.filter_congr
  intro j _
  rw [tb2]
 ·have h1 := Nat.and_le_right (n := n) (m := n - 1)
  omega
theorem u64_land {a b : Nat} (ha : a < 2 ^ 64) (hb : b < 2 ^ 64) : intAr .and .u64 (a : Int) (b : Int) = ((a &&& b : Nat) : Int) := by
 show IntKind.u64.wrap ((BitVec.ofInt 64 _ &&& BitVec.ofInt 64 _).toNat : Int) = _
 rw [BitVec.toNat_and, wrap_u64]
 have e1 : (BitVec.ofInt 64 (a : Int)).toNat = a := by rw [BitVec.toNat_ofInt]; omega
 have e2 : (BitVec.ofInt 64 (b : Int)).toNat = b := by rw [BitVec.toNat_ofInt]; omega
 rw [e1, e2]
 have := Nat.and_le_left (n := a) (m := b)
 omega
theorem gDB_eq : gDB = Lib.deBruijn64tab.map fun (k : Nat) => PV.int .u8 k := rfl
theorem gDB_at {m k i : Nat} (h : Lib.deBruijn64tab[m]? = some k) (hi : i = m) : gDB[i]? = some (.int .u8 k) := by
 rw [hi, gDB_eq, List.getElem?_map, h]; rfl
def dbI (n : Nat) : Int := intAr .shr .u64 (intAr .mul .u64 (intAr .and .u64 (n : Int) (intAr .sub .u64 0 (n : Int))) 285870213051353865) 58
theorem dbI_eq {n : Nat} (h0 : n ≠ 0) (h : n < 2 ^ 64) : dbI n = ((2 ^ Lib.ctz 64 n * 285870213051353865 % 18446744073709551616 / 288230376151711744 : Nat) : Int) := by
 obtain ⟨h1, h2⟩ := Lib.lowest_bit 64 n h0 h
 generalize Lib.ctz 64 n = k at *
 have e1 : intAr .sub .u64 0 (n : Int) = ((2 ^ 64 - n : Nat) : Int) := by
  show IntKind.u64.wrap _ = _
  rw [wrap_u64]; omega
 have e2 : intAr .and .u64 (n : Int) (intAr .sub .u64 0 (n : Int)) = ((2 ^ k : Nat) : Int) := by
  rw [e1, u64_land h (by omega), h1]
 have e3 : intAr .mul .u64 (intAr .and .u64 (n : Int) (intAr .sub .u64 0 (n : Int))) 285870213051353865 = ((2 ^ k * 285870213051353865 % 18446744073709551616 : Nat) : Int) := by
  rw [e2]
  show IntKind.u64.wrap _ = _
  rw [wrap_u64]; omega
 unfold dbI
 rw [e3]
 show (_ : Int).fdiv (2 ^ (min (Int.toNat 58) 64)) = _
 rw [Int.fdiv_eq_ediv_of_nonneg _ (by decide)]
 norm_cast
theorem db_at {k m : Nat} (h3 : m < 64) (h4 : Lib.deBruijn64tab.getD m 0 = k) : Lib.deBruijn64tab[m]? = some k := by
 have hlt : m < Lib.deBruijn64tab.length := h3
 rw [List.getElem?_eq_getElem hlt]
 rw [List.getD_eq_getElem?_getD, List.getElem?_eq_getElem hlt] at h4
 simpa using h4
theorem dbI_at {n : Nat} (h0 : n ≠ 0) (h : n < 2 ^ 64) : ∃ m : Nat, dbI n = (m : Int) ∧ m < 64 ∧ Lib.deBruijn64tab[m]? = some (Lib.ctz 64 n) :=
 have h2 := (Lib.lowest_bit 64 n h0 h).2
 ⟨_, dbI_eq h0 h, (Lib.deBruijn64_at _ h2).1, db_at (Lib.deBruijn64_at _ h2).1 (Lib.deBruijn64_at _ h2).2⟩
theorem ctz_lt {n : Nat} (h0 : n ≠ 0) (h : n < 2 ^ 64) : Lib.ctz 64 n < 64 := (Lib.lowest_bit 64 n h0 h).2
theorem tz_fn (n : Nat) (h0 : n ≠ 0) (h : n < 2 ^ 64) : PF Tryz.prog 198 [.int .u64 n] (i64 (Lib.ctz 64 n)) := by
 have h2 := ctz_lt h0 h
 obtain ⟨m, e5, hm, hmk⟩ := dbI_at h0 h
 generalize Lib.ctz 64 n = k at *
 refine pf_intro rf198_eq rmixed rfl ?_
 (refine hkG ?_)
 (refine hkD ?_)
 refine And.intro (by show 0 ≤ dbI n ∧ dbI n < 64; rw [e5]; omega) ?_
 conv=>whnf
 refine ⟨.int .u8 k, gDB_at hmk ?_, ?_⟩
 ·show 0 + (dbI n).toNat * 1 = m
  rw [e5, Int.toNat_natCast, Nat.zero_add, Nat.mul_one]
 ·(refine hkG ?_)
  exact ret_pf rfl rfl (congrArg (PV.int .i64) (wrap_i64 (by omega) (by omega)))
def bytesW (i n : Nat) : List (List PV) := (bitsN n).map fun j => [.int .u8 ((i * 64 + j : Nat) : Int)]
theorem bytesW_zero (i : Nat) : bytesW i 0 = [] := by
 have : bitsN 0 = [] := by unfold bitsN; rw [List.filter_eq_nil_iff]; simp
 unfold bytesW; rw [this]; rfl
theorem bytesW_cons {i n : Nat} (h0 : n ≠ 0) (h : n < 2 ^ 64) : bytesW i n = [.int .u8 ((i * 64 + Lib.ctz 64 n : Nat) : Int)] :: bytesW i (n &&& (n - 1)) := by
 unfold bytesW; rw [(low_drop h0 h).1]; rfl
def restW (s : Set4) (i : Nat) : List (List PV) := ((List.range' i (4 - i)).map fun i => bytesW i (s.word i).toNat).flatten
theorem restW_four (s : Set4) {i : Nat} (h : 4 ≤ i) : restW s i = [] := by unfold restW; rw [show 4 - i = 0 by omega]; rfl
theorem restW_next (s : Set4) {i : Nat} (h : i < 4) : restW s i = bytesW i (s.word i).toNat ++ restW s (i + 1) := by
 unfold restW; rw [show 4 - i = (4 - (i + 1)) + 1 by omega, List.range'_succ]; rfl
theorem cells_word (s : Set4) {i : Nat} (h : i < 4) : s.cells[i]? = some (u64 (s.word i)) := by
 match i, h with
 | 0, _ => rfl
 | 1, _ => rfl
 | 2, _ => rfl
 | 3, _ => rfl
theorem all1_gives (s : Set4) : Gives Tryz.prog 197 [.irow s.cells 0] false (restW s 0) := by
 refine g_intro rf197_eq rmixed rfl fun l => ?_
 (refine hkG ?_)
 refine ⟨[], Nat, fun i => ⟨[(0, .p (.lit (.func (.yield l) #[] #[]))), (5, .p (.agg s.cells)), (6, .p (i64 i))], [.gh l (some (restW s i))]⟩, fun i => i ≤ 4, fun i => 4 - i, ⟨0, by omega, ?_⟩, fun i hi => ?_⟩
 ·(exact hkL)
 ·have hi : i ≤ 4 := hi
  by_cases hi4 : i = 4
  ·subst hi4
   show awp _ _ _ ⟨[(0, .p (.lit (.func (.yield l) #[] #[]))), (5, .p (.agg s.cells)), (6, .p (i64 (4 : Nat)))], [.gh l (some (restW s 4))]⟩
   rw [restW_four s (by omega)]
   (refine hkG ?_)
   (refine hkD ?_)
   exact trivial
  ·have hlt : i < 4 := by omega
   have hcw := cells_word s hlt
   (refine hkG ?_)
   (refine hkD ?_)
   refine ⟨_, by rw [Int.toNat_natCast, Nat.mul_one]; exact hcw, ?_⟩
   (refine hkG ?_)
   refine ⟨[], Nat, fun n => ⟨[(0, .p (.lit (.func (.yield l) #[] #[]))), (3, .p (i64 i)), (4, .p (.int .u64 n)), (5, .p (.agg s.cells)), (6, .p (i64 i))], [.gh l (some (bytesW i n ++ restW s (i + 1)))]⟩, fun n => n < 2 ^ 64, fun n => n, ⟨(s.word i).toNat, (s.word i).isLt, ?_⟩, fun n hn => ?_⟩
   ·(refine ⟨⟨rfl,rfl⟩,?_,?_⟩<;>((repeat'(first|exact TLe.nil|exact HLe.nil _|refine TLe.cons ?_ ?_|refine HLe.cons ?_ ?_|exact KLe.ptr rfl|exact KLe.sl rfl (.inl rfl)|exact KLe.csl rfl|exact KLe.mpr rfl|refine KLe.pe ?_|refine KLe.tup ?_|refine KLe.agg ?_|refine BLe.pe ?_|refine BLe.mpe ?_|refine BLe.ghe ?_|refine BLe.axe ?_ ?_|refine BLe.mx ?_|exact KLeL.nil|refine KLe.fn ?_ ?_|refine KLeL.cons ?_ ?_|exact KLe.und _|exact BLe.dead _))<;>(try with_reducible rfl)))
    exact restW_next s hlt
   ·have hn : n < 2 ^ 64 := hn
    show awp _ _ _ ⟨[(0, .p (.lit (.func (.yield l) #[] #[]))), (3, .p (i64 i)), (4, .p (.int .u64 n)), (5, .p (.agg s.cells)), (6, .p (i64 i))], [.gh l (some (bytesW i n ++ restW s (i + 1)))]⟩
    by_cases h0 : n = 0
    ·subst h0
     rw [bytesW_zero]
     (refine hkG ?_)
     (refine hkD ?_)
     refine ⟨i + 1, by show i + 1 ≤ 4; omega, by show 4 - (i + 1) < 4 - i; omega, ?_⟩
     (exact hkL)
    ·rw [bytesW_cons h0 hn]
     obtain ⟨hb, hlow⟩ := low_drop h0 hn
     have hc := ctz_lt h0 hn
     (refine hkG ?_)
     (refine hkD ?_)
     refine vcall_pf (tz_fn n h0 hn) rfl rfl ?_
     (refine hkG ?_)
     have e1 : intAr .mul .i64 (i : Int) 64 = ((i * 64 : Nat) : Int) := by rw [mul64 (by omega) (by omega)]; omega
     refine And.intro ?_ (And.intro ?_ ?_)
     ·refine congrArg (fun x => [PV.int IntKind.u8 x]) ?_
      rw [e1, add64 (by omega) (by omega), wrap_u8]
      omega
     ·(refine hkG ?_)
      refine ⟨n &&& (n - 1), by show n &&& (n - 1) < 2 ^ 64; omega, hlow, ?_⟩
      ((refine ⟨⟨rfl,rfl⟩,?_,?_⟩<;>((repeat'(first|exact TLe.nil|exact HLe.nil _|refine TLe.cons ?_ ?_|refine HLe.cons ?_ ?_|exact KLe.ptr rfl|exact KLe.sl rfl (.inl rfl)|exact KLe.csl rfl|exact KLe.mpr rfl|refine KLe.pe ?_|refine KLe.tup ?_|refine KLe.agg ?_|refine BLe.pe ?_|refine BLe.mpe ?_|refine BLe.ghe ?_|refine BLe.axe ?_ ?_|refine BLe.mx ?_|exact KLeL.nil|refine KLe.fn ?_ ?_|refine KLeL.cons ?_ ?_|exact KLe.und _|exact BLe.dead _))<;>(try with_reducible rfl)))<;>(first|rfl|((refine congrArg (PV.int IntKind.i64) ?_)<;>(first|rfl|omega|(rw [add64 (by omega) (by omega)];omega)|(rw [sub64 (by omega) (by omega)];omega)))|skip))
      refine congrArg (PV.int .u64) ?_
      have e2 : intAr .sub .u64 (n : Int) 1 = ((n - 1 : Nat) : Int) := by
       show IntKind.u64.wrap _ = _
       rw [wrap_u64]; omega
      rw [e2, u64_land hn (by omega)]
     ·(refine hkG ?_)
      exact trivial
def Set4.bytes (s : Set4) : List Nat := (List.range 256).filter s.has
def rowB (b : Nat) : List PV := [.int .u8 b]
theorem restW_all (s : Set4) : restW s 0 = s.bytes.map rowB := by
 have h1 : ∀ i, i < 4 → bytesW i (s.word i).toNat = ((List.range' (i * 64) 64).filter s.has).map rowB := by
  intro i hi
  unfold bytesW bitsN
  rw [List.range'_eq_map_range, List.filter_map, List.map_map]
  have : (List.range 64).filter (fun j => (s.word i).toNat.testBit j) = (List.range 64).filter (s.has ∘ (i * 64 + ·)) := by
   apply List.filter_congr
   intro j hj
   simp at hj
   show _ = (s.word ((i * 64 + j) / 64)).getLsbD ((i * 64 + j) % 64)
   have e1 : (i * 64 + j) / 64 = i := by omega
   have e2 : (i * 64 + j) % 64 = j := by omega
   rw [e1, e2]; rfl
  rw [this]
  rfl
 have e : List.range 256 = List.range' (0 * 64) 64 ++ (List.range' (1 * 64) 64 ++ (List.range' (2 * 64) 64 ++ List.range' (3 * 64) 64)) := by rfl
 rw [restW_next s (by omega), restW_next s (by omega), restW_next s (by omega), restW_next s (by omega), restW_four s (by omega), h1 0 (by omega), h1 1 (by omega), h1 2 (by omega), h1 3 (by omega)]
 unfold Set4.bytes
 rw [e]
 simp only [List.filter_append, List.map_append, List.append_nil]
theorem all_fn (s : Set4) : PF Tryz.prog 152 [.agg s.cells] (.fn 197 [] [.irow s.cells 0]) := by
 refine pf_intro rf152_eq rmixed rfl ?_
 (refine hkG ?_)
 refine ⟨_, _, ⟨rfl, rfl⟩, ⟨rfl, rfl⟩, ?_, HLe.nil _⟩
 refine KLe.fnp KLeL.nil (KLeL.cons (KLe.fptr rfl rfl rfl) KLeL.nil)
def Set4.next (s : Set4) (m : Int) : Int :=
 match s.bytes.find? fun (b : Nat) => decide (m ≤ (b : Int)) with
 | some b => b
 | none => -1
theorem next_fn (s : Set4) (m : Int) : PF Tryz.prog 78 [.agg s.cells, i64 m] (i64 (s.next m)) := by
 refine pf_intro rf78_eq rmixed rfl ?_
 (refine hkG ?_)
 refine vcall_pf (all_fn s) rfl rfl ?_
 (refine hkG ?_)
 refine rg_list s.bytes rowB (by rw [← restW_all]; exact all1_gives s) (fun _ => rfl) [] (fun _ => ⟨[(3, .ptr 1 1 0 0), (4, .ptr 2 1 0 0)], [.pr 4 [s.cells], .mx [.p (i64 m)], .mx [.p (i64 0)]]⟩)
  (fun k => ∀ b ∈ s.bytes.take k, ¬ m ≤ (b : Int)) (by simp) ?_ (fun k b t hb ht hlt hi => ?_) (fun hi => ?_)
 ·(exact hkL)
 ·have hb256 : b < 256 := by
   have := List.mem_of_getElem? hb
   simp [Set4.bytes] at this; exact this.1
  have ew : IntKind.i64.wrap (b : Int) = b := wrap_i64 (by omega) (by omega)
  (refine hkG ?_)
  rw [ew]
  by_cases hm : m ≤ (b : Int)
  ·(refine hkD ?_)
   rw [ew]
   refine ret_pf rfl rfl (congrArg (PV.int .i64) ?_)
   unfold Set4.next
   have : s.bytes.find? (fun (b : Nat) => decide (m ≤ (b : Int))) = some b := by
    rw [List.find?_eq_some_iff_getElem]
    obtain ⟨hk, he⟩ := List.getElem?_eq_some_iff.1 hb
    refine ⟨by simpa using hm, k, hk, he, fun j hj => ?_⟩
    simpa using hi _ (List.mem_take_iff_getElem.2 ⟨j, by omega, rfl⟩)
   rw [this]
  ·(refine hkD ?_)
   refine ⟨k + 1, ⟨fun b' hb' => ?_, ht, hlt⟩, ?_⟩
   ·rw [List.take_add_one, hb] at hb'
    rcases List.mem_append.1 hb' with h | h
    ·exact hi b' h
    ·simp at h; subst h; exact hm
   ·(exact hkL)
 ·(refine hkG ?_)
  refine ret_pf rfl rfl (congrArg (PV.int .i64) ?_)
  unfold Set4.next
  have : s.bytes.find? (fun (b : Nat) => decide (m ≤ (b : Int))) = none := by
   rw [List.find?_eq_none]
   intro b hb
   rw [List.take_length] at hi
   simpa using hi b hb
  rw [this]
end Hk
namespace Hk
open Go Go.Proofs
set_option linter.unusedVariables false
set_option linter.unusedSimpArgs false
set_option maxRecDepth 100000
theorem upto_put {α : Type} {n k : Nat} {f : Nat → α} {z : α} (h : k < n) : (upto n k f z).set k (f k) = upto n (k + 1) f z := by
 rw [List.set_eq_take_append_cons_drop, if_pos (by rw [upto_len]; exact h), ← upto_set h]
 simp
section
variable {κ : Type} [DecidableEq κ]
def enter (E : List κ) (k : κ) : List κ := if k ∈ E then E else E ++ [k]
def ix (E : List κ) (k : κ) : Nat := E.idxOf k
def uniq (name : Nat → κ) : Nat → List κ
 | 0 => []
 | b + 1 => enter (uniq name b) (name b)
theorem uniq_le (name : Nat → κ) : ∀ b, (uniq name b).length ≤ b
 | 0 => Nat.le_refl _
 | b + 1 => by
   unfold uniq enter
   have := uniq_le name b
   split <;> simp <;> omega
theorem uniq_mem (name : Nat → κ) (b : Nat) : name b ∈ uniq name (b + 1) := by
 unfold uniq enter
 split
 ·assumption
 ·simp
theorem uniq_more (name : Nat → κ) (b : Nat) : ∀ n, ∃ t, uniq name (b + n) = uniq name b ++ t
 | 0 => ⟨[], by simp⟩
 | n + 1 => by
   obtain ⟨t, ht⟩ := uniq_more name b n
   show ∃ t', enter (uniq name (b + n)) (name (b + n)) = _
   unfold enter
   split
   ·exact ⟨t, ht⟩
   ·exact ⟨t ++ [name (b + n)], by rw [ht]; simp⟩
theorem uniq_idx (name : Nat → κ) {b m : Nat} (h : b ≤ m) {k : κ} (hk : k ∈ uniq name b) : ix (uniq name m) k = ix (uniq name b) k := by
 unfold ix
 obtain ⟨t, ht⟩ := uniq_more name b (m - b)
 rw [show b + (m - b) = m by omega] at ht
 rw [ht, List.idxOf_append, if_pos hk]
theorem ix_lt {E : List κ} {k : κ} (h : k ∈ E) : ix E k < E.length := List.idxOf_lt_length_iff.2 h
theorem ix_new {E : List κ} {k : κ} (h : ¬ k ∈ E) : ix (E ++ [k]) k = E.length := by
 unfold ix
 rw [List.idxOf_append, if_neg h]
 simp
theorem uniq_in {name : Nat → κ} {b : Nat} (h : name b ∈ uniq name b) : uniq name (b + 1) = uniq name b := if_pos h
theorem uniq_new {name : Nat → κ} {b : Nat} (h : ¬ name b ∈ uniq name b) : uniq name (b + 1) = uniq name b ++ [name b] := if_neg h
theorem uniq_zero (name : Nat → κ) : uniq name 0 = [] := rfl
attribute [irreducible] uniq
def entsFrom (kp : κ → PV) (vp : Nat → PV) : Nat → List κ → List (PV × PV)
 | _, [] => []
 | s, k :: r => (kp k, vp s) :: entsFrom kp vp (s + 1) r
omit [DecidableEq κ] in
theorem entsFrom_len (kp : κ → PV) (vp : Nat → PV) (s : Nat) (E : List κ) : (entsFrom kp vp s E).length = E.length := by
 induction E generalizing s with
 | nil => rfl
 | cons k r ih => simp [entsFrom, ih]
omit [DecidableEq κ] in
theorem entsFrom_app (kp : κ → PV) (vp : Nat → PV) (s : Nat) (E : List κ) (k : κ) : entsFrom kp vp s (E ++ [k]) = entsFrom kp vp s E ++ [(kp k, vp (s + E.length))] := by
 induction E generalizing s with
 | nil => rfl
 | cons x r ih => simp [entsFrom, ih, Nat.add_assoc, Nat.add_comm 1]
theorem mfind_ents {kp : κ → PV} (hk : ∀ a b, keyEq (kp a) (kp b) = decide (a = b)) (vp : Nat → PV) (k : κ) : ∀ (E : List κ) (s n : Nat), mfind (entsFrom kp vp s E) (kp k) n = if k ∈ E then some (n + ix E k, vp (s + ix E k)) else none
 | [], s, n => rfl
 | x :: r, s, n => by
   unfold ix
   simp only [entsFrom, mfind, hk, List.mem_cons]
   by_cases h : k = x
   ·subst h; simp
   ·have hb : (x == k) = false := by simpa using Ne.symm h
    simp only [h, decide_false, cond_false, false_or, mfind_ents hk vp k r, ix, List.idxOf_cons, hb]
    split
    ·have e1 : n + 1 + List.idxOf k r = n + (List.idxOf k r + 1) := by omega
     have e2 : s + 1 + List.idxOf k r = s + (List.idxOf k r + 1) := by omega
     rw [e1, e2]
    ·rfl
end
def kp2 (k : Int × Int) : PV := .agg [i64 k.1, i64 k.2]
theorem kp2_eq (a b : Int × Int) : keyEq (kp2 a) (kp2 b) = decide (a = b) := by
 obtain ⟨a1, a2⟩ := a
 obtain ⟨b1, b2⟩ := b
 simp [keyEq, kp2, cellsEq, cellEq, Prod.ext_iff]
 rw [Bool.eq_iff_iff]; simp
theorem kp2_ok (k : Int × Int) : keyOk true [.int .i64, .int .i64] (kp2 k) := ⟨trivial, trivial, trivial⟩
def vu8 (n : Nat) : PV := .int .u8 n
def clsArr (o : Nat → Nat) : List PV := (List.range 256).map fun b => .int .u8 (o b : Nat)
def clsPV (o : Nat → Nat) (n : Int) : PV := .agg (clsArr o ++ [i64 n])
theorem clsArr_len (o : Nat → Nat) : (clsArr o).length = 256 := by simp [clsArr]
theorem clsArr_get (o : Nat → Nat) {b : Nat} (h : b < 256) : (clsArr o)[b]? = some (.int .u8 (o b : Nat)) := by simp [clsArr, h]
attribute [irreducible] clsArr
def ren (name : Nat → Int × Int) (b : Nat) : Nat := ix (uniq name 256) (name b)
def renN (name : Nat → Int × Int) : Nat := (uniq name 256).length
theorem ren_lt (name : Nat → Int × Int) {b : Nat} (h : b < 256) : ren name b < renN name := by
 have h1 := uniq_mem name b
 obtain ⟨t, ht⟩ := uniq_more name (b + 1) (256 - (b + 1))
 rw [show b + 1 + (256 - (b + 1)) = 256 by omega] at ht
 exact ix_lt (by rw [ht]; exact List.mem_append_left _ h1)
theorem ax_whole {arr rest : List PV} : cellsOf (.p (.agg (arr ++ rest))) = arr.map .p ++ rest.map .p := by simp [cellsOf]
theorem allP_cons {x : PV} {ps : List PV} : allP (AV.p x :: ps.map AV.p) = some (x :: ps) := by simp [allP, allP_p]
theorem ren_in {name : Nat → Int × Int} {b : Nat} (hb : b < 256) (h : name b ∈ uniq name b) : ren name b = ix (uniq name b) (name b) := uniq_idx name (by omega) h
theorem ren_new {name : Nat → Int × Int} {b : Nat} (hb : b < 256) (h : ¬ name b ∈ uniq name b) : ren name b = (uniq name b).length := by
 have h1 := uniq_idx name (show b + 1 ≤ 256 by omega) (uniq_mem name b)
 show ix (uniq name 256) (name b) = _
 rw [h1, uniq_new h, ix_new h]
attribute [irreducible] ren
theorem renamed_fn (F : Nat) (caps : List PV) (name : Nat → Int × Int) (hF : ∀ b : Nat, b < 256 → PF Tryz.prog F (i64 b :: caps) (kp2 (name b))) :
 PF Tryz.prog 178 [.fn F [] caps] (clsPV (ren name) (renN name)) := by
 refine pf_intro rf178_eq rmixed rfl ?_
 (refine hkG ?_)
 refine ⟨[], Nat, fun b => ⟨[(0, .p (.fn F [] caps)), (2, .ptr 0 257 0 0), (3, .ptr 1 257 0 0), (4, .mpr 2), (9, .p (i64 b))],
  [.ax 256 (List.replicate 256 (.int .u8 0)) [.p (i64 0)], .ax 256 (upto 256 b (fun j => vu8 (ren name j)) (.int .u8 0)) [.p (i64 (uniq name b).length)], .mp true [.int .i64, .int .i64] (entsFrom kp2 vu8 0 (uniq name b))]⟩,
  fun b => b ≤ 256, fun b => 256 - b, ⟨0, by omega, ?_⟩, fun b hb => ?_⟩
 ·((refine ⟨⟨rfl,rfl⟩,?_,?_⟩<;>((repeat'(first|exact TLe.nil|exact HLe.nil _|refine TLe.cons ?_ ?_|refine HLe.cons ?_ ?_|exact KLe.ptr rfl|exact KLe.sl rfl (.inl rfl)|exact KLe.csl rfl|exact KLe.mpr rfl|refine KLe.pe ?_|refine KLe.tup ?_|refine KLe.agg ?_|refine BLe.pe ?_|refine BLe.mpe ?_|refine BLe.ghe ?_|refine BLe.axe ?_ ?_|refine BLe.mx ?_|exact KLeL.nil|refine KLe.fn ?_ ?_|refine KLeL.cons ?_ ?_|exact KLe.und _|exact BLe.dead _))<;>(try with_reducible rfl)))<;>(first|rfl|((refine congrArg (PV.int IntKind.i64) ?_)<;>(first|rfl|omega|(rw [add64 (by omega) (by omega)];omega)|(rw [sub64 (by omega) (by omega)];omega)))|skip))
  all_goals (rw [uniq_zero]; rfl)
 ·have hb : b ≤ 256 := hb
  have hle := uniq_le name b
  by_cases hb2 : b = 256
  ·subst hb2
   (refine hkG ?_)
   (refine hkD ?_)
   refine ⟨_, [_], ax_whole (rest := [_]), ⟨rfl, rfl, upto_len _ _ _ _, rfl, Nat.le_refl 1⟩, ?_⟩
   (refine hkG ?_)
   refine ret_pf rfl rfl (congrArg PV.agg ?_)
   rw [upto_full]; unfold clsArr; rfl
  ·have hlt : b < 256 := by omega
   have hname := hF b hlt
   have hfind := mfind_ents kp2_eq vu8 (name b) (uniq name b) 0 0
   by_cases hin : name b ∈ uniq name b
   ·rw [if_pos hin] at hfind
    have hren := ren_in hlt hin
    have hu : uniq name (b + 1) = uniq name b := uniq_in hin
    (refine hkG ?_)
    (refine hkD ?_)
    refine vcall_pf hname allP_cons rfl ?_
    (refine hkG ?_)
    refine And.intro (kp2_ok _) ?_
    conv=>whnf
    refine ⟨_, hfind, ?_⟩
    (refine hkG ?_)
    refine ⟨b + 1, hlt, by show 256 - (b + 1) < 256 - b; omega, ?_⟩
    ((refine ⟨⟨rfl,rfl⟩,?_,?_⟩<;>((repeat'(first|exact TLe.nil|exact HLe.nil _|refine TLe.cons ?_ ?_|refine HLe.cons ?_ ?_|exact KLe.ptr rfl|exact KLe.sl rfl (.inl rfl)|exact KLe.csl rfl|exact KLe.mpr rfl|refine KLe.pe ?_|refine KLe.tup ?_|refine KLe.agg ?_|refine BLe.pe ?_|refine BLe.mpe ?_|refine BLe.ghe ?_|refine BLe.axe ?_ ?_|refine BLe.mx ?_|exact KLeL.nil|refine KLe.fn ?_ ?_|refine KLeL.cons ?_ ?_|exact KLe.und _|exact BLe.dead _))<;>(try with_reducible rfl)))<;>(first|rfl|((refine congrArg (PV.int IntKind.i64) ?_)<;>(first|rfl|omega|(rw [add64 (by omega) (by omega)];omega)|(rw [sub64 (by omega) (by omega)];omega)))|skip))
    all_goals try rw [hu]
    refine Eq.trans ?_ (upto_put hlt)
    congr 1
    ·omega
    ·rw [Nat.zero_add, ← hren]; rfl
   ·rw [if_neg hin] at hfind
    have hren := ren_new hlt hin
    have hu := uniq_new hin
    have hw : IntKind.u8.wrap ((uniq name b).length : Int) = (uniq name b).length := by rw [wrap_u8]; omega
    have hput := mput_none (v := vu8 (uniq name b).length) hfind
    (refine hkG ?_)
    (refine hkD ?_)
    refine vcall_pf hname allP_cons rfl ?_
    (refine hkG ?_)
    refine And.intro (kp2_ok _) ?_
    conv=>whnf
    refine ⟨_, hfind, ?_⟩
    (refine hkG ?_)
    refine vcall_pf hname allP_cons rfl ?_
    (refine hkG ?_)
    refine And.intro (kp2_ok _) ?_
    (refine hkG ?_)
    refine ⟨b + 1, hlt, by show 256 - (b + 1) < 256 - b; omega, ?_⟩
    ((refine ⟨⟨rfl,rfl⟩,?_,?_⟩<;>((repeat'(first|exact TLe.nil|exact HLe.nil _|refine TLe.cons ?_ ?_|refine HLe.cons ?_ ?_|exact KLe.ptr rfl|exact KLe.sl rfl (.inl rfl)|exact KLe.csl rfl|exact KLe.mpr rfl|refine KLe.pe ?_|refine KLe.tup ?_|refine KLe.agg ?_|refine BLe.pe ?_|refine BLe.mpe ?_|refine BLe.ghe ?_|refine BLe.axe ?_ ?_|refine BLe.mx ?_|exact KLeL.nil|refine KLe.fn ?_ ?_|refine KLeL.cons ?_ ?_|exact KLe.und _|exact BLe.dead _))<;>(try with_reducible rfl)))<;>(first|rfl|((refine congrArg (PV.int IntKind.i64) ?_)<;>(first|rfl|omega|(rw [add64 (by omega) (by omega)];omega)|(rw [sub64 (by omega) (by omega)];omega)))|skip))
    ·refine Eq.trans ?_ (upto_put hlt)
     congr 1
     ·omega
     ·rw [hw, ← hren]; rfl
    ·rw [hu, List.length_append, List.length_singleton]
     (exact hkN)
    ·rw [hu, entsFrom_app, Nat.zero_add]
     refine Eq.trans ?_ hput
     show mput _ _ (.int .u8 (IntKind.u8.wrap _)) = _
     rw [hw]
     rfl
theorem plainRep {k : IntKind} {ks : List CK} {A : Prop} : ∀ (n : Nat) {f g : Nat → Int} {xs ys : List PV}, plainCells ks xs ys → plainCells (List.replicate n (.int k) ++ ks) ((List.range' 0 n).map (fun j => .int k (f j)) ++ xs) ((List.range' 0 n).map (fun j => .int k (g j)) ++ ys) := by
 intro n
 have main : ∀ n s {f g : Nat → Int} {xs ys : List PV}, plainCells ks xs ys → plainCells (List.replicate n (.int k) ++ ks) ((List.range' s n).map (fun j => .int k (f j)) ++ xs) ((List.range' s n).map (fun j => .int k (g j)) ++ ys) := by
  intro n
  induction n with
  | zero => intro s f g xs ys h; exact h
  | succ n ih =>
    intro s f g xs ys h
    rw [List.replicate_succ, List.range'_succ]
    exact sameK_mk (sameK_mk (ih (s + 1) h))
 exact fun {f g xs ys} h => main n 0 h
theorem clsArr_eq (o : Nat → Nat) : clsArr o = (List.range' 0 256).map fun j => .int .u8 ((o j : Nat) : Int) := by unfold clsArr; rw [List.range_eq_range']
theorem cellsEq_app : ∀ {xs ys us vs : List PV}, xs.length = ys.length → cellsEq (xs ++ us) (ys ++ vs) = (cellsEq xs ys && cellsEq us vs)
 | [], [], us, vs, _ => by cases us <;> simp [cellsEq]
 | x :: xs, y :: ys, us, vs, h => by simp [cellsEq, cellsEq_app (xs := xs) (ys := ys) (us := us) (vs := vs) (by simpa using h), Bool.and_assoc]
theorem cellsEq_range {k l : IntKind} {f g : Nat → Int} : ∀ (n s : Nat), cellsEq ((List.range' s n).map fun j => .int k (f j)) ((List.range' s n).map fun j => .int l (g j)) = (List.range' s n).all fun j => f j == g j
 | 0, s => rfl
 | n + 1, s => by rw [List.range'_succ]; simp [cellsEq, cellEq, cellsEq_range n (s + 1)]
theorem clsEq (o o' : Nat → Nat) (n n' : Int) : cellsEq (clsArr o ++ [i64 n]) (clsArr o' ++ [i64 n']) = ((List.range 256).all (fun b => o b == o' b) && (n == n')) := by
 rw [cellsEq_app (by simp [clsArr]), clsArr_eq, clsArr_eq, cellsEq_range, List.range_eq_range']
 congr 1
 ·congr 1; funext j; rw [Bool.eq_iff_iff]; simp only [beq_iff_eq]; omega
 ·simp [cellsEq, cellEq]
theorem clsPlain (o o' : Nat → Nat) (n n' : Int) : plainCells (List.replicate 256 (.int .u8) ++ [.int .i64]) (clsArr o ++ [i64 n]) (clsArr o' ++ [i64 n']) := by
 rw [clsArr_eq, clsArr_eq]
 exact plainRep (A := True) 256 ⟨⟩
def nameOf (o : Nat → Nat) (b : Nat) : Int × Int := ((o b : Int), 0)
theorem may1_fn (o : Nat → Nat) (ho : ∀ b, b < 256 → o b < 256) (n : Int) (b : Nat) (hb : b < 256) : PF Tryz.prog 196 [i64 b, .irow (clsArr o ++ [i64 n]) 0] (kp2 (nameOf o b)) := by
 have hob := ho b hb
 have hg : (clsArr o ++ [i64 n])[0 + 0 + (b : Int).toNat * 1]? = some (.int .u8 (o b : Nat)) := by
  rw [show 0 + 0 + (b : Int).toNat * 1 = b by omega, List.getElem?_append_left (by rw [clsArr_len]; exact hb), clsArr_get o hb]
 refine pf_intro rf196_eq rmixed rfl ?_
 (refine hkG ?_)
 refine ⟨_, hg, ?_⟩
 (refine hkG ?_)
 refine ret_pf rfl rfl ?_
 show PV.agg [.int .i64 (IntKind.i64.wrap (o b : Nat)), .int .i64 0] = _
 rw [wrap_i64 (by omega) (by omega)]
 rfl
theorem flatPL_app : ∀ {l m : List PV}, flatPL l = true → flatPL m = true → flatPL (l ++ m) = true
 | [], _, _, h => h
 | x :: r, m, h1, h2 => by
   simp only [List.cons_append, flatPL, Bool.and_eq_true] at h1 ⊢
   exact ⟨h1.1, flatPL_app h1.2 h2⟩
theorem flatPL_ints {f : Nat → Int} {k : IntKind} : ∀ l : List Nat, flatPL (l.map fun j => .int k (f j)) = true
 | [] => rfl
 | x :: r => by simp [flatPL, flatP, flatPL_ints r]
theorem clsFlat (o : Nat → Nat) (n : Int) : flatP (clsPV o n) = true := by
 show flatPL (clsArr o ++ [i64 n]) = true
 refine flatPL_app ?_ rfl
 unfold clsArr
 exact flatPL_ints (f := fun j => ((o j : Nat) : Int)) _
def clsMay (o : Nat → Nat) (n : Int) : Bool := (List.range 256).all (fun b => o b == ren (nameOf o) b) && (n == (renN (nameOf o) : Int))
theorem clsMay_fn (o : Nat → Nat) (ho : ∀ b, b < 256 → o b < 256) (n : Int) : PF Tryz.prog 144 [clsPV o n] (.b (clsMay o n)) := by
 refine pf_intro rf144_eq rmixed rfl ?_
 (refine hkG ?_)
 refine ⟨_, [_], ax_whole (rest := [_]), ⟨rfl, clsArr_len o, rfl⟩, ?_⟩
 (refine hkG ?_)
 refine vcall_flat (renamed_fn _ _ (nameOf o) (may1_fn o ho n)) (clsFlat _ _) (KLeL.cons (KLe.fnp KLeL.nil (KLeL.cons (KLe.fax (row := [_]) rfl rfl) KLeL.nil)) KLeL.nil) ?_
 (refine hkG ?_)
 refine And.intro (clsPlain _ _ _ _) ?_
 (refine hkG ?_)
 refine ret_pf rfl rfl (congrArg PV.b ?_)
 exact clsEq _ _ _ _
theorem setOf_has {c d : Nat} (hc : c < 256) (hd : d < 256) : (setOf c).has d = decide (d = c) := by
 unfold setOf Set4.has
 have hw : ∀ q w i, (Set4.nil.setWord q w).word i = if (q = i ∨ 3 ≤ q ∧ 3 ≤ i) then w else 0 := fun q w i => by
  match q, i with
  | 0, 0 => rfl
  | 0, 1 => rfl
  | 0, 2 => rfl
  | 0, _ + 3 => rw [if_neg (by omega)]; rfl
  | 1, 0 => rfl
  | 1, 1 => rfl
  | 1, 2 => rfl
  | 1, _ + 3 => rw [if_neg (by omega)]; rfl
  | 2, 0 => rfl
  | 2, 1 => rfl
  | 2, 2 => rfl
  | 2, _ + 3 => rw [if_neg (by omega)]; rfl
  | _ + 3, 0 => rw [if_neg (by omega)]; rfl
  | _ + 3, 1 => rw [if_neg (by omega)]; rfl
  | _ + 3, 2 => rw [if_neg (by omega)]; rfl
  | _ + 3, _ + 3 => rw [if_pos (by omega)]; rfl
 rw [hw]
 have h1 := Nat.mod_lt c (show 64 > 0 by decide)
 have h2 := Nat.mod_lt d (show 64 > 0 by decide)
 by_cases hq : c / 64 = d / 64
 ·rw [if_pos (.inl hq), BitVec.getLsbD_shiftLeft, BitVec.getLsbD_one]
  rw [Bool.eq_iff_iff]
  simp only [Bool.and_eq_true, Bool.not_eq_true', decide_eq_true_iff, decide_eq_false_iff_not]
  omega
 ·rw [if_neg (by omega), decide_eq_false (by omega)]
  simp
theorem Set4.has_and (s t : Set4) (b : Nat) : (s.and t).has b = (s.has b && t.has b) := by
 unfold Set4.has
 have : ∀ i, (s.and t).word i = s.word i &&& t.word i := fun i => by
  match i with
  | 0 => rfl
  | 1 => rfl
  | 2 => rfl
  | _ + 3 => rfl
 rw [this, BitVec.getLsbD_and]
theorem Set4.ext_has {s t : Set4} (h : ∀ b, b < 256 → s.has b = t.has b) : s = t := by
 have hw : ∀ i, i < 4 → s.word i = t.word i := fun i hi => by
  apply BitVec.eq_of_getLsbD_eq
  intro j hj
  have := h (i * 64 + j) (by omega)
  unfold Set4.has at this
  have e1 : (i * 64 + j) / 64 = i := by omega
  have e2 : (i * 64 + j) % 64 = j := by omega
  rw [e1, e2] at this
  exact this
 obtain ⟨a, b, c, d⟩ := s
 obtain ⟨a', b', c', d'⟩ := t
 have h0 : a = a' := hw 0 (by omega)
 have h1 : b = b' := hw 1 (by omega)
 have h2 : c = c' := hw 2 (by omega)
 have h3 : d = d' := hw 3 (by omega)
 rw [h0, h1, h2, h3]
theorem and_of {s : Set4} {b : Nat} (hb : b < 256) : (!decide (s.and (setOf b) = Set4.nil)) = s.has b := by
 cases h : s.has b with
 | true =>
   have : s.and (setOf b) ≠ Set4.nil := fun e => by
    have := congrArg (fun t => Set4.has t b) e
    simp only [Set4.has_and, Set4.has_nil, setOf_has hb hb, h] at this
    simp at this
   simp [this]
 | false =>
   have : s.and (setOf b) = Set4.nil := Set4.ext_has fun d hd => by
    rw [Set4.has_and, Set4.has_nil, setOf_has hb hd]
    by_cases e : d = b
    ·subst e; simp [h]
    ·simp [e]
   simp [this]
theorem has8_fn (s : Set4) (b : Nat) (hb : b < 256) : PF Tryz.prog 180 [.agg s.cells, .int .u8 b] (.b (s.has b)) := by
 have h1 := of_one (UInt8.ofNat b) none
 have e : (UInt8.ofNat b).toNat = b := by simp; omega
 rw [e] at h1
 refine pf_intro rf180_eq rmixed rfl ?_
 (refine hkG ?_)
 refine vcall_flat h1 rfl ?_ ?_
 ·refine KLeL.cons ?_ KLeL.nil
  exact KLe.fsl rfl rfl rfl rfl (.refl _)
 (refine hkG ?_)
 refine vcall_pf (both_fn s (setOf b)) rfl rfl ?_
 (refine hkG ?_)
 refine ret_pf rfl rfl (congrArg PV.b ?_)
 refine (congrArg (!·) (cells4 (s.and (setOf b)))).trans ?_
 exact and_of hb
def partName (o : Nat → Nat) (s : Set4) (b : Nat) : Int × Int := ((o b : Int), if s.has b then 1 else 0)
theorem part1_fn (o : Nat → Nat) (ho : ∀ b, b < 256 → o b < 256) (n : Int) (s : Set4) (b : Nat) (hb : b < 256) : PF Tryz.prog 179 [i64 b, .irow s.cells 0, .irow (clsArr o ++ [i64 n]) 0] (kp2 (partName o s b)) := by
 have hob := ho b hb
 have hg : (clsArr o ++ [i64 n])[0 + 0 + (b : Int).toNat * 1]? = some (.int .u8 (o b : Nat)) := by
  rw [show 0 + 0 + (b : Int).toNat * 1 = b by omega, List.getElem?_append_left (by rw [clsArr_len]; exact hb), clsArr_get o hb]
 have hw : IntKind.u8.wrap (b : Int) = b := by rw [wrap_u8]; omega
 have hh := has8_fn s b hb
 rw [← hw] at hh
 refine pf_intro rf179_eq rmixed rfl ?_
 (refine hkG ?_)
 refine vcall_pf hh rfl rfl ?_
 (refine hkG ?_)
 have fin : ∀ x : Int, PV.agg [.int .i64 (IntKind.i64.wrap (o b : Nat)), .int .i64 x] = kp2 ((o b : Int), x) := fun x => by rw [wrap_i64 (by omega) (by omega)]; rfl
 refine bk_split (fun hs => ?_) (fun hs => ?_)
 ·(refine hkG ?_)
  refine ⟨_, hg, ?_⟩
  (refine hkG ?_)
  refine ret_pf rfl rfl ((fin 1).trans ?_)
  unfold partName; rw [hs]; rfl
 ·(refine hkG ?_)
  refine ⟨_, hg, ?_⟩
  (refine hkG ?_)
  refine ret_pf rfl rfl ((fin 0).trans ?_)
  unfold partName; rw [hs]; rfl
def partStep (c : (Nat → Nat) × Nat) (s : Set4) : (Nat → Nat) × Nat := (ren (partName c.1 s), renN (partName c.1 s))
def partM (l : List Set4) : (Nat → Nat) × Nat := l.foldl partStep (fun _ => 0, 1)
theorem renN_le (name : Nat → Int × Int) : renN name ≤ 256 := uniq_le name 256
attribute [irreducible] renN
theorem partM_lt : ∀ (l : List Set4) (c : (Nat → Nat) × Nat), (∀ b, b < 256 → c.1 b < 256) → ∀ b, b < 256 → (l.foldl partStep c).1 b < 256
 | [], c, h => h
 | s :: r, c, h => partM_lt r _ fun b hb => by
   have := ren_lt (partName c.1 s) hb
   have := renN_le (partName c.1 s)
   show ren _ b < 256
   omega
theorem clsArr_zero : List.replicate 256 (PV.int .u8 0) = clsArr fun _ => 0 := by
 unfold clsArr
 exact (List.eq_replicate_iff.2 ⟨by simp, fun x hx => by obtain ⟨_, _, rfl⟩ := List.mem_map.1 hx; rfl⟩).symm
theorem fold_seq {α β : Type} (g : β → α → β) (z : β) (l : List α) : ∃ P : Nat → β, P 0 = z ∧ P l.length = l.foldl g z ∧ ∀ i x, l[i]? = some x → P (i + 1) = g (P i) x :=
 ⟨fun i => (l.take i).foldl g z, rfl, by simp only [List.take_length], fun i x h => fold_take h⟩
theorem part_fn (l : List Set4) (cap : Option Nat) (hl : l.length < 2 ^ 60) : PF Tryz.prog 119 [.isl 4 (l.map Set4.cells) cap] (clsPV (partM l).1 (partM l).2) := by
 have hll : (l.map Set4.cells).length = l.length := by simp
 obtain ⟨P, P0, PL, PS⟩ := fold_seq partStep (fun _ => 0, 1) l
 have PB : ∀ i, i ≤ l.length → ∀ b, b < 256 → (P i).1 b < 256 := by
  intro i
  induction i with
  | zero => intro _ b _; rw [P0]; exact Nat.zero_lt_succ _
  | succ i ih =>
    intro hi b hb
    rw [PS i _ (List.getElem?_eq_getElem hi)]
    exact partM_lt [_] (P i) (ih (by omega)) b hb
 have hz := clsArr_zero
 refine pf_intro rf119_eq rmixed rfl ?_
 (refine hkG ?_)
 refine ⟨clsArr fun _ => 0, [.p (i64 1)], ?_, ⟨rfl, rfl, clsArr_len _, rfl, Nat.le_refl 1⟩, ?_⟩
 ·rw [← hz]; exact ax_whole (rest := [_])
 (refine hkG ?_)
 refine ⟨[], Nat, fun i => ⟨[(2, .ptr 0 257 0 0), (3, .ptr 1 257 0 0), (8, .p (.isl 4 (l.map Set4.cells) cap)), (9, .p (i64 l.length)), (10, .p (i64 i))],
  [.ax 256 (List.replicate 256 (.int .u8 0)) [.p (i64 0)], .ax 256 (clsArr (P i).1) [.p (i64 (P i).2)]]⟩,
  fun i => i ≤ l.length, fun i => l.length - i, ⟨0, Nat.zero_le _, ?_⟩, fun i hi => ?_⟩
 ·((refine ⟨⟨rfl,rfl⟩,?_,?_⟩<;>((repeat'(first|exact TLe.nil|exact HLe.nil _|refine TLe.cons ?_ ?_|refine HLe.cons ?_ ?_|exact KLe.ptr rfl|exact KLe.sl rfl (.inl rfl)|exact KLe.csl rfl|exact KLe.mpr rfl|refine KLe.pe ?_|refine KLe.tup ?_|refine KLe.agg ?_|refine BLe.pe ?_|refine BLe.mpe ?_|refine BLe.ghe ?_|refine BLe.axe ?_ ?_|refine BLe.mx ?_|exact KLeL.nil|refine KLe.fn ?_ ?_|refine KLeL.cons ?_ ?_|exact KLe.und _|exact BLe.dead _))<;>(try with_reducible rfl)))<;>(first|rfl|((refine congrArg (PV.int IntKind.i64) ?_)<;>(first|rfl|omega|(rw [add64 (by omega) (by omega)];omega)|(rw [sub64 (by omega) (by omega)];omega)))|skip))
  ·rw [P0]
  ·rw [P0]; rfl
  all_goals exact congrArg _ (congrArg _ hll)
 ·have hi : i ≤ l.length := hi
  have hB := PB i hi
  by_cases hie : i = l.length
  ·subst hie
   (refine hkG ?_)
   (refine hkD ?_)
   refine ⟨_, [_], ax_whole (rest := [_]), ⟨rfl, rfl, clsArr_len _, rfl, Nat.le_refl 1⟩, ?_⟩
   (refine hkG ?_)
   exact ret_pf rfl rfl (by unfold partM; rw [← PL]; rfl)
  ·have hlt : i < l.length := by omega
   obtain ⟨s, hs⟩ : ∃ s, l[i]? = some s := ⟨_, List.getElem?_eq_getElem hlt⟩
   have hsc : (l.map Set4.cells)[((i : Nat) : Int).toNat]? = some s.cells := by rw [Int.toNat_natCast, List.getElem?_map, hs]; rfl
   have hp := part1_fn (P i).1 hB (P i).2 s
   (refine hkG ?_)
   (refine hkD ?_)
   refine ⟨_, hsc, ?_⟩
   (refine hkG ?_)
   refine ⟨_, [_], ax_whole (rest := [_]), ⟨rfl, rfl, clsArr_len _, rfl, Nat.le_refl 1⟩, ?_⟩
   (refine hkG ?_)
   refine vcall_flat (renamed_fn _ _ (partName (P i).1 s) hp) (clsFlat _ _) (KLeL.cons (KLe.fnp KLeL.nil (KLeL.cons (KLe.fptr rfl rfl rfl) (KLeL.cons (KLe.fax (row := [_]) rfl rfl) KLeL.nil))) KLeL.nil) ?_
   (refine hkG ?_)
   refine ⟨_, [_], ax_whole (rest := [_]), ⟨rfl, rfl, clsArr_len _, rfl, Nat.le_refl 1⟩, ?_⟩
   (refine hkG ?_)
   refine ⟨i + 1, hlt, by show l.length - (i + 1) < l.length - i; omega, ?_⟩
   ((refine ⟨⟨rfl,rfl⟩,?_,?_⟩<;>((repeat'(first|exact TLe.nil|exact HLe.nil _|refine TLe.cons ?_ ?_|refine HLe.cons ?_ ?_|exact KLe.ptr rfl|exact KLe.sl rfl (.inl rfl)|exact KLe.csl rfl|exact KLe.mpr rfl|refine KLe.pe ?_|refine KLe.tup ?_|refine KLe.agg ?_|refine BLe.pe ?_|refine BLe.mpe ?_|refine BLe.ghe ?_|refine BLe.axe ?_ ?_|refine BLe.mx ?_|exact KLeL.nil|refine KLe.fn ?_ ?_|refine KLeL.cons ?_ ?_|exact KLe.und _|exact BLe.dead _))<;>(try with_reducible rfl)))<;>(first|rfl|((refine congrArg (PV.int IntKind.i64) ?_)<;>(first|rfl|omega|(rw [add64 (by omega) (by omega)];omega)|(rw [sub64 (by omega) (by omega)];omega)))|skip))
   all_goals rw [PS i s hs]; rfl
def memStep (o : Nat → Nat) (k : Int) (s : Set4) (b : Nat) : Set4 := if (o b : Int) = k then s.or (setOf b) else s
def membersM (o : Nat → Nat) (k : Int) : Set4 := (List.range 256).foldl (memStep o k) .nil
def members (o : Nat → Nat) (n k : Int) : Set4 := if clsMay o n then membersM o k else .nil
theorem members_fn (o : Nat → Nat) (ho : ∀ b, b < 256 → o b < 256) (n k : Int) : PF Tryz.prog 167 [clsPV o n, i64 k] (.agg (members o n k).cells) := by
 obtain ⟨P, P0, PL, PS⟩ := fold_seq (memStep o k) .nil (List.range 256)
 have hl : (List.range 256).length = 256 := by simp
 rw [hl] at PL
 refine pf_intro rf167_eq rmixed rfl ?_
 (refine hkG ?_)
 refine ⟨_, [_], ax_whole (rest := [_]), ⟨rfl, clsArr_len o, rfl⟩, ?_⟩
 (refine hkG ?_)
 refine vcall_pf (clsMay_fn o ho n) rfl rfl ?_
 (refine hkG ?_)
 unfold members
 refine bk_split (fun hm => ?_) (fun hm => ?_)
 ·rw [if_neg (by simpa using hm)]
  (refine hkG ?_)
  exact ret_pf rfl rfl rfl
 ·rw [if_pos (by simpa using hm)]
  (refine hkG ?_)
  refine ⟨[], Nat, fun b => ⟨[(1, .p (i64 k)), (2, .ptr 0 257 0 0), (4, .ptr 1 4 0 0), (5, .ptr 2 4 0 0), (11, .p (i64 b))],
   [.ax 256 (clsArr o) [.p (i64 n)], .pr 4 [Set4.nil.cells], .pr 4 [(P b).cells]]⟩, fun b => b ≤ 256, fun b => 256 - b, ⟨0, Nat.zero_le _, ?_⟩, fun b hb => ?_⟩
  ·((refine ⟨⟨rfl,rfl⟩,?_,?_⟩<;>((repeat'(first|exact TLe.nil|exact HLe.nil _|refine TLe.cons ?_ ?_|refine HLe.cons ?_ ?_|exact KLe.ptr rfl|exact KLe.sl rfl (.inl rfl)|exact KLe.csl rfl|exact KLe.mpr rfl|refine KLe.pe ?_|refine KLe.tup ?_|refine KLe.agg ?_|refine BLe.pe ?_|refine BLe.mpe ?_|refine BLe.ghe ?_|refine BLe.axe ?_ ?_|refine BLe.mx ?_|exact KLeL.nil|refine KLe.fn ?_ ?_|refine KLeL.cons ?_ ?_|exact KLe.und _|exact BLe.dead _))<;>(try with_reducible rfl)))<;>(first|rfl|((refine congrArg (PV.int IntKind.i64) ?_)<;>(first|rfl|omega|(rw [add64 (by omega) (by omega)];omega)|(rw [sub64 (by omega) (by omega)];omega)))|skip))
   rw [P0]; rfl
  ·have hb : b ≤ 256 := hb
   by_cases hbe : b = 256
   ·subst hbe
    (refine hkG ?_)
    (refine hkD ?_)
    refine ret_pf rfl rfl ?_
    rw [PL]; rfl
   ·have hlt : b < 256 := by omega
    have hob := ho b hlt
    have hg : (clsArr o)[0 + 0 + (b : Int).toNat * 1]? = some (.int .u8 (o b : Nat)) := by
     rw [show 0 + 0 + (b : Int).toNat * 1 = b by omega, clsArr_get o hlt]
    have hPS := PS b b (by simp [hlt])
    have hw : IntKind.u8.wrap (b : Int) = b := by rw [wrap_u8]; omega
    have hwo : IntKind.i64.wrap (o b : Nat) = o b := wrap_i64 (by omega) (by omega)
    have h1 := of_one (UInt8.ofNat b) none
    have e : (UInt8.ofNat b).toNat = b := by simp; omega
    rw [e] at h1
    (refine hkG ?_)
    (refine hkD ?_)
    refine ⟨_, hg, ?_⟩
    (refine hkG ?_)
    rw [hwo]
    unfold memStep at hPS
    by_cases hk : (o b : Int) = k
    ·rw [if_pos hk] at hPS
     (refine hkD ?_)
     rw [hw]
     refine vcall_flat h1 rfl ?_ ?_
     ·refine KLeL.cons ?_ KLeL.nil
      exact KLe.fsl rfl rfl rfl rfl (.refl _)
     (refine hkG ?_)
     refine vcall_pf (any_fn (P b) (setOf b)) rfl rfl ?_
     (refine hkG ?_)
     refine ⟨b + 1, hlt, by show 256 - (b + 1) < 256 - b; omega, ?_⟩
     ((refine ⟨⟨rfl,rfl⟩,?_,?_⟩<;>((repeat'(first|exact TLe.nil|exact HLe.nil _|refine TLe.cons ?_ ?_|refine HLe.cons ?_ ?_|exact KLe.ptr rfl|exact KLe.sl rfl (.inl rfl)|exact KLe.csl rfl|exact KLe.mpr rfl|refine KLe.pe ?_|refine KLe.tup ?_|refine KLe.agg ?_|refine BLe.pe ?_|refine BLe.mpe ?_|refine BLe.ghe ?_|refine BLe.axe ?_ ?_|refine BLe.mx ?_|exact KLeL.nil|refine KLe.fn ?_ ?_|refine KLeL.cons ?_ ?_|exact KLe.und _|exact BLe.dead _))<;>(try with_reducible rfl)))<;>(first|rfl|((refine congrArg (PV.int IntKind.i64) ?_)<;>(first|rfl|omega|(rw [add64 (by omega) (by omega)];omega)|(rw [sub64 (by omega) (by omega)];omega)))|skip))
     all_goals rw [hPS]; rfl
    ·rw [if_neg hk] at hPS
     (refine hkD ?_)
     refine ⟨b + 1, hlt, by show 256 - (b + 1) < 256 - b; omega, ?_⟩
     ((refine ⟨⟨rfl,rfl⟩,?_,?_⟩<;>((repeat'(first|exact TLe.nil|exact HLe.nil _|refine TLe.cons ?_ ?_|refine HLe.cons ?_ ?_|exact KLe.ptr rfl|exact KLe.sl rfl (.inl rfl)|exact KLe.csl rfl|exact KLe.mpr rfl|refine KLe.pe ?_|refine KLe.tup ?_|refine KLe.agg ?_|refine BLe.pe ?_|refine BLe.mpe ?_|refine BLe.ghe ?_|refine BLe.axe ?_ ?_|refine BLe.mx ?_|exact KLeL.nil|refine KLe.fn ?_ ?_|refine KLeL.cons ?_ ?_|exact KLe.und _|exact BLe.dead _))<;>(try with_reducible rfl)))<;>(first|rfl|((refine congrArg (PV.int IntKind.i64) ?_)<;>(first|rfl|omega|(rw [add64 (by omega) (by omega)];omega)|(rw [sub64 (by omega) (by omega)];omega)))|skip))
     all_goals rw [hPS]
theorem first_fn (o : Nat → Nat) (ho : ∀ b, b < 256 → o b < 256) (n k : Int) : PF Tryz.prog 103 [clsPV o n, i64 k] (i64 ((members o n k).next 0)) := by
 refine pf_intro rf103_eq rmixed rfl ?_
 (refine hkG ?_)
 refine ⟨_, [_], ax_whole (rest := [_]), ⟨rfl, clsArr_len o, rfl⟩, ?_⟩
 (refine hkG ?_)
 refine vcall_pf (members_fn o ho n k) rfl rfl ?_
 (refine hkG ?_)
 refine vcall_pf (next_fn _ 0) rfl rfl ?_
 (refine hkG ?_)
 exact ret_pf rfl rfl rfl
end Hk
namespace Hk
open Go Go.Proofs
set_option linter.unusedVariables false
set_option linter.unusedSimpArgs false
set_option maxRecDepth 100000
def ints (zs : List Int) : List (List PV) := zs.map rowI
theorem ints_len (zs : List Int) : (ints zs).length = zs.length := by simp [ints]
theorem ints_get {zs : List Int} {i : Nat} {z : Int} (h : zs[i]? = some z) : (ints zs)[i]? = some [i64 z] := by unfold ints; rw [List.getElem?_map, h]; rfl
theorem ints_app (a b : List Int) : ints (a ++ b) = ints a ++ ints b := by simp [ints]
theorem ints_all (zs : List Int) : (dropN 0 (ints zs)).take zs.length = ints zs := by
 rw [← ints_len zs]; exact List.take_length
theorem ints_set (zs : List Int) (i : Nat) (z : Int) : (ints zs).set i [i64 z] = ints (zs.set i z) := by unfold ints; rw [List.map_set]; rfl
def idxI (p : Int → Bool) (zs : List Int) : Int := match zs.findIdx? p with
 | some i => (i : Int)
 | none => -1
theorem index_fn (zs : List Int) (cap : Option Nat) (F : Nat) (caps : List PV) (p : Int → Bool) (hz : zs.length < 2 ^ 60) (hF : ∀ z ∈ zs, PF Tryz.prog F (i64 z :: caps) (.b (p z))) :
 PF Tryz.prog 159 [.isl 1 (ints zs) cap, .fn F [] caps] (i64 (idxI p zs)) := by
 have hil := ints_len zs
 refine pf_intro rf159_eq rmixed rfl ?_
 (refine hkG ?_)
 refine ⟨[], Nat, fun i => ⟨[(0, .p (.isl 1 (ints zs) cap)), (1, .p (.fn F [] caps)), (7, .p (i64 zs.length)), (8, .p (i64 i))], []⟩,
  fun i => i ≤ zs.length ∧ ∀ j z, j < i → zs[j]? = some z → p z = false, fun i => zs.length - i, ⟨0, ⟨Nat.zero_le _, fun j z h _ => absurd h (Nat.not_lt_zero _)⟩, ?_⟩, fun i hi => ?_⟩
 ·(exact hkL)
 ·obtain ⟨hi, hno⟩ := hi
  by_cases hie : i = zs.length
  ·have e : idxI p zs = -1 := by
    have : zs.findIdx? p = none := by
     rw [List.findIdx?_eq_none_iff]
     intro z hz
     obtain ⟨j, hj, rfl⟩ := List.mem_iff_getElem.1 hz
     exact hno j _ (by omega) (List.getElem?_eq_getElem hj)
    unfold idxI; rw [this]
   subst hie
   (refine hkG ?_)
   (refine hkD ?_)
   exact ret_pf rfl rfl (congrArg (PV.int .i64) e.symm)
  ·have hlt : i < zs.length := by omega
   obtain ⟨z, hzi⟩ : ∃ z, zs[i]? = some z := ⟨_, List.getElem?_eq_getElem hlt⟩
   have hg := ints_get hzi
   have hFz := hF z (mem_get hzi)
   (refine hkG ?_)
   (refine hkD ?_)
   refine ⟨_, hg, ?_⟩
   (refine hkG ?_)
   refine vcall_pf hFz allP_cons rfl ?_
   (refine hkG ?_)
   refine bk_split (fun hb => ?_) (fun hb => ?_)
   ·(refine hkG ?_)
    refine ret_pf rfl rfl (congrArg (PV.int .i64) ?_)
    have : zs.findIdx? p = some i := by
     rw [List.findIdx?_eq_some_iff_getElem]
     refine ⟨hlt, ?_, fun j hj => ?_⟩
     ·rw [(List.getElem?_eq_some_iff.1 hzi).2]; exact hb
     ·rw [hno j _ hj (List.getElem?_eq_getElem (by omega))]; simp
    unfold idxI; rw [this]
   ·(refine hkG ?_)
    refine ⟨i + 1, ⟨hlt, fun j z' hj hz' => ?_⟩, by show zs.length - (i + 1) < zs.length - i; omega, ?_⟩
    ·by_cases e : j = i
     ·subst e; rw [hzi] at hz'; cases hz'; simpa using hb
     ·exact hno j z' (by omega) hz'
    ·(exact hkL)
theorem idxI_geq (p : Int → Bool) (zs : List Int) : decide (0 ≤ idxI p zs) = zs.any p := by
 unfold idxI
 cases h : zs.findIdx? p with
 | none =>
   rw [List.findIdx?_eq_none_iff] at h
   have : zs.any p = false := by rw [List.any_eq_false]; simpa using h
   rw [this]; decide
 | some i =>
   have : zs.any p = true := by
    obtain ⟨h1, h2, _⟩ := List.findIdx?_eq_some_iff_getElem.1 h
    rw [List.any_eq_true]; exact ⟨_, List.getElem_mem h1, h2⟩
   rw [this]; simp
theorem contains_fn (zs : List Int) (cap : Option Nat) (F : Nat) (caps : List PV) (p : Int → Bool) (hz : zs.length < 2 ^ 60) (hF : ∀ z ∈ zs, PF Tryz.prog F (i64 z :: caps) (.b (p z))) :
 PF Tryz.prog 146 [.isl 1 (ints zs) cap, .fn F [] caps] (.b (zs.any p)) := by
 refine pf_intro rf146_eq rmixed rfl ?_
 (refine hkG ?_)
 refine vcall_pf (index_fn zs cap F caps p hz hF) rfl rfl ?_
 (refine hkG ?_)
 exact ret_pf rfl rfl (congrArg PV.b (idxI_geq p zs))
def nilSl : PV := .isl 0 [] (some 0)
theorem clone_fn (zs : List Int) (cap : Option Nat) (hz : zs.length < 2 ^ 40) :
 Fn Tryz.prog 94 [.p (.isl 1 (ints zs) cap)] [] [] (fun r H => (r = .p nilSl ∧ H = [] ∧ zs = []) ∨ (r = .sl 0 1 0 zs.length none ∧ H = [.pr 1 (ints zs)])) := by
 have hil := ints_len zs
 refine f_intro rf94_eq rmixed rfl ?_
 (refine hkG ?_)
 refine And.intro (fun he => ?_) ?_
 ·(refine hkG ?_)
  refine ⟨.p nilSl, [], .inl ⟨rfl, rfl, ?_⟩, ⟨rfl, rfl⟩, ?_, ?_⟩
  ·simpa [ints] using he
  all_goals (((repeat'(first|exact TLe.nil|exact HLe.nil _|refine TLe.cons ?_ ?_|refine HLe.cons ?_ ?_|exact KLe.ptr rfl|exact KLe.sl rfl (.inl rfl)|exact KLe.csl rfl|exact KLe.mpr rfl|refine KLe.pe ?_|refine KLe.tup ?_|refine KLe.agg ?_|refine BLe.pe ?_|refine BLe.mpe ?_|refine BLe.ghe ?_|refine BLe.axe ?_ ?_|refine BLe.mx ?_|exact KLeL.nil|refine KLe.fn ?_ ?_|refine KLeL.cons ?_ ?_|exact KLe.und _|exact BLe.dead _))<;>(try with_reducible rfl)))
  rfl
 ·(refine hkG ?_)
  refine And.intro (by show (0 + (ints zs).length) * 8 ≤ 70368744177664; omega) ?_
  (refine hkG ?_)
  refine ⟨.sl 0 1 0 (0 + (ints zs).length) none, [.pr 1 (ints zs)], .inr ⟨by rw [hil, Nat.zero_add], rfl⟩, ⟨rfl, rfl⟩, ?_, ?_⟩
  all_goals (((repeat'(first|exact TLe.nil|exact HLe.nil _|refine TLe.cons ?_ ?_|refine HLe.cons ?_ ?_|exact KLe.ptr rfl|exact KLe.sl rfl (.inl rfl)|exact KLe.csl rfl|exact KLe.mpr rfl|refine KLe.pe ?_|refine KLe.tup ?_|refine KLe.agg ?_|refine BLe.pe ?_|refine BLe.mpe ?_|refine BLe.ghe ?_|refine BLe.axe ?_ ?_|refine BLe.mx ?_|exact KLeL.nil|refine KLe.fn ?_ ?_|refine KLeL.cons ?_ ?_|exact KLe.und _|exact BLe.dead _))<;>(try with_reducible rfl)))
  rfl
theorem delete_nil (F : Nat) (caps : List PV) : PF Tryz.prog 93 [nilSl, .fn F [] caps] nilSl := by
 refine pf_intro rf93_eq rmixed rfl ?_
 (refine hkG ?_)
 refine vcall_flat0 (index_fn [] none F caps (fun _ => false) (by decide) (fun z h => by cases h)) ?_ ?_
 ·exact KLeL.cons (KLe.p (PLe.nil (.inl rfl))) (KLeL.cons (KLe.pe rfl) KLeL.nil)
 (refine hkG ?_)
 (refine hkC ?_)
 exact ret_pf rfl rfl rfl
theorem filter_snoc {q : Int → Bool} {zs : List Int} {j : Nat} {z : Int} (h : zs[j]? = some z) : (zs.take (j + 1)).filter q = (zs.take j).filter q ++ (if q z then [z] else []) := by
 have hl := (List.getElem?_eq_some_iff.1 h).1
 rw [List.take_add_one, h, List.filter_append]
 simp [List.filter_cons]
theorem drop_at {zs : List Int} {j : Nat} {z : Int} (h : zs[j]? = some z) : zs.drop j = z :: zs.drop (j + 1) := by
 obtain ⟨h1, h2⟩ := List.getElem?_eq_some_iff.1 h
 rw [List.drop_eq_getElem_cons h1, h2]
theorem delete_fn (zs : List Int) (F : Nat) (caps : List PV) (p : Int → Bool) (hz : zs.length < 2 ^ 40) (hF : ∀ z ∈ zs, PF Tryz.prog F (i64 z :: caps) (.b (p z))) :
 Fn Tryz.prog 93 [.sl 0 1 0 zs.length none, .p (.fn F [] caps)] [.pr 1 (ints zs)] [] (fun r H => ∃ rest, r = .sl 0 1 0 (zs.filter fun z => !p z).length none ∧ H = [.pr 1 (ints (zs.filter fun z => !p z) ++ rest)]) := by
 have hil := ints_len zs
 have hI := index_fn zs none F caps p (by omega) hF
 cases hx : zs.findIdx? p with
 | none =>
   have e : idxI p zs = -1 := by unfold idxI; rw [hx]
   rw [e] at hI
   have ef : (zs.filter fun z => !p z) = zs := by
    rw [List.findIdx?_eq_none_iff] at hx
    rw [List.filter_eq_self]
    intro z hz
    simp [hx z hz]
   rw [ef]
   refine f_intro rf93_eq rmixed rfl ?_
   (refine hkG ?_)
   refine vcall_flat hI rfl (KLeL.cons (KLe.fsl rfl rfl rfl (by rw [ints_all]; exact hil) (by rw [ints_all]; exact .refl _)) (KLeL.cons (KLe.pe rfl) KLeL.nil)) ?_
   (refine hkG ?_)
   (refine hkC ?_)
   refine ⟨.sl 0 1 0 zs.length none, [.pr 1 (ints zs)], ⟨[], rfl, by simp⟩, ⟨rfl, rfl⟩, ?_, ?_⟩
   all_goals (((repeat'(first|exact TLe.nil|exact HLe.nil _|refine TLe.cons ?_ ?_|refine HLe.cons ?_ ?_|exact KLe.ptr rfl|exact KLe.sl rfl (.inl rfl)|exact KLe.csl rfl|exact KLe.mpr rfl|refine KLe.pe ?_|refine KLe.tup ?_|refine KLe.agg ?_|refine BLe.pe ?_|refine BLe.mpe ?_|refine BLe.ghe ?_|refine BLe.axe ?_ ?_|refine BLe.mx ?_|exact KLeL.nil|refine KLe.fn ?_ ?_|refine KLeL.cons ?_ ?_|exact KLe.und _|exact BLe.dead _))<;>(try with_reducible rfl)))
 | some i0 =>
   have e : idxI p zs = i0 := by unfold idxI; rw [hx]
   rw [e] at hI
   obtain ⟨hi0, hp0, hno⟩ := List.findIdx?_eq_some_iff_getElem.1 hx
   have kept0 : (zs.take (i0 + 1)).filter (fun z => !p z) = zs.take i0 := by
    rw [filter_snoc (List.getElem?_eq_getElem hi0), if_neg (by simp [hp0]), List.append_nil, List.filter_eq_self]
    intro z hz
    obtain ⟨j, hj, rfl⟩ := List.mem_iff_getElem.1 hz
    simp at hj
    simp [hno j (by omega)]
   have hstart : zs = (zs.take (i0 + 1)).filter (fun z => !p z) ++ [zs[i0]] ++ zs.drop (i0 + 1) := by
    rw [kept0, List.append_assoc, List.singleton_append, ← drop_at (List.getElem?_eq_getElem hi0), List.take_append_drop]
   refine f_intro rf93_eq rmixed rfl ?_
   (refine hkG ?_)
   refine vcall_flat hI rfl (KLeL.cons (KLe.fsl rfl rfl rfl (by rw [ints_all]; exact hil) (by rw [ints_all]; exact .refl _)) (KLeL.cons (KLe.pe rfl) KLeL.nil)) ?_
   (refine hkG ?_)
   (refine hkD ?_)
   refine ⟨[], Nat × List Int, fun x => ⟨[(0, .sl 0 1 0 zs.length none), (1, .p (.fn F [] caps)), (5, .p (i64 ((zs.take x.1).filter fun z => !p z).length)), (6, .p (i64 x.1))],
    [.pr 1 (ints ((zs.take x.1).filter (fun z => !p z) ++ x.2 ++ zs.drop x.1))]⟩,
    fun x => x.1 ≤ zs.length ∧ x.2 ≠ [] ∧ ((zs.take x.1).filter fun z => !p z).length + x.2.length = x.1, fun x => zs.length - x.1, ⟨(i0 + 1, [zs[i0]]), ⟨hi0, by simp, by rw [kept0]; simp; omega⟩, ?_⟩, fun x hx => ?_⟩
   ·((refine ⟨⟨rfl,rfl⟩,?_,?_⟩<;>((repeat'(first|exact TLe.nil|exact HLe.nil _|refine TLe.cons ?_ ?_|refine HLe.cons ?_ ?_|exact KLe.ptr rfl|exact KLe.sl rfl (.inl rfl)|exact KLe.csl rfl|exact KLe.mpr rfl|refine KLe.pe ?_|refine KLe.tup ?_|refine KLe.agg ?_|refine BLe.pe ?_|refine BLe.mpe ?_|refine BLe.ghe ?_|refine BLe.axe ?_ ?_|refine BLe.mx ?_|exact KLeL.nil|refine KLe.fn ?_ ?_|refine KLeL.cons ?_ ?_|exact KLe.und _|exact BLe.dead _))<;>(try with_reducible rfl)))<;>(first|rfl|((refine congrArg (PV.int IntKind.i64) ?_)<;>(first|rfl|omega|(rw [add64 (by omega) (by omega)];omega)|(rw [sub64 (by omega) (by omega)];omega)))|skip))
    ·rw [kept0, List.length_take, Nat.min_eq_left (by omega)]
    ·exact congrArg ints hstart
   ·obtain ⟨j, mid⟩ := x
    obtain ⟨hj, hne, hlen⟩ := hx
    have hj : j ≤ zs.length := hj
    have hne : mid ≠ [] := hne
    have hlen : ((zs.take j).filter fun z => !p z).length + mid.length = j := hlen
    show awp _ _ _ ⟨[(0, .sl 0 1 0 zs.length none), (1, .p (.fn F [] caps)), (5, .p (i64 ((zs.take j).filter fun z => !p z).length)), (6, .p (i64 j))], [.pr 1 (ints ((zs.take j).filter (fun z => !p z) ++ mid ++ zs.drop j))]⟩
    by_cases hje : j = zs.length
    ·have hd : zs.drop j = [] := by rw [hje]; simp
     have ht : zs.take j = zs := by rw [hje]; simp
     rw [hd, ht, List.append_nil]
     rw [ht] at hlen
     generalize hq : (zs.filter fun z => !p z) = ks at *
     have hl2 : (ints (ks ++ mid)).length = ks.length + mid.length := by rw [ints_len, List.length_append]
     have htk : (ints (ks ++ mid)).take (0 + ks.length) = ints ks := by
      rw [ints_app, Nat.zero_add, ← ints_len ks]; exact List.take_left
     (refine hkG ?_)
     (refine hkD ?_)
     refine ⟨.sl 0 1 0 ks.length none, [.pr 1 ((ints (ks ++ mid)).take (0 + ks.length) ++ List.replicate (zs.length - ks.length) [i64 0] ++ (ints (ks ++ mid)).drop (0 + ks.length + (zs.length - ks.length)))], ⟨List.replicate (zs.length - ks.length) [i64 0] ++ (ints (ks ++ mid)).drop (0 + ks.length + (zs.length - ks.length)), rfl, by rw [htk, List.append_assoc]⟩, ⟨rfl, rfl⟩, ?_, ?_⟩
     all_goals (((repeat'(first|exact TLe.nil|exact HLe.nil _|refine TLe.cons ?_ ?_|refine HLe.cons ?_ ?_|exact KLe.ptr rfl|exact KLe.sl rfl (.inl rfl)|exact KLe.csl rfl|exact KLe.mpr rfl|refine KLe.pe ?_|refine KLe.tup ?_|refine KLe.agg ?_|refine BLe.pe ?_|refine BLe.mpe ?_|refine BLe.ghe ?_|refine BLe.axe ?_ ?_|refine BLe.mx ?_|exact KLeL.nil|refine KLe.fn ?_ ?_|refine KLeL.cons ?_ ?_|exact KLe.und _|exact BLe.dead _))<;>(try with_reducible rfl)))
     rfl
    ·have hlt : j < zs.length := by omega
     obtain ⟨z, hzj⟩ : ∃ z, zs[j]? = some z := ⟨_, List.getElem?_eq_getElem hlt⟩
     have hs := filter_snoc (q := fun z => !p z) hzj
     have hd := drop_at hzj
     have hFz := hF z (mem_get hzj)
     generalize hq : ((zs.take j).filter fun z => !p z) = ks at *
     have hl2 : (ints (ks ++ mid ++ zs.drop j)).length = zs.length := by rw [ints_len, List.length_append, List.length_append, List.length_drop]; omega
     have hg : (ints (ks ++ mid ++ zs.drop j))[0 + j]? = some [i64 z] := ints_get (by
      rw [Nat.zero_add, List.getElem?_append_right (by simp; omega)]
      simp [hlen, hd])
     (refine hkG ?_)
     (refine hkD ?_)
     refine ⟨_, hg, ?_⟩
     (refine hkG ?_)
     refine vcall_pf hFz allP_cons rfl ?_
     (refine hkG ?_)
     refine bk_split (fun hb => ?_) (fun hb => ?_)
     ·have hb : (!p z) = true := hb
      rw [if_pos hb] at hs
      obtain ⟨m0, mr, rfl⟩ : ∃ m0 mr, mid = m0 :: mr := by cases mid with
       | nil => exact absurd rfl hne
       | cons m0 mr => exact ⟨m0, mr, rfl⟩
      have hgs : (ints (ks ++ m0 :: mr ++ zs.drop j))[0 + ((ks.length : Nat) : Int).toNat]? = some [i64 m0] := ints_get (by
       rw [Int.toNat_natCast, Nat.zero_add, List.append_assoc, List.getElem?_append_right (Nat.le_refl _)]; simp)
      (refine hkG ?_)
      refine ⟨_, hgs, rfl, Nat.le_refl 1, ?_⟩
      (refine hkG ?_)
      refine ⟨(j + 1, mr ++ [z]), ⟨hlt, by simp, ?_⟩, by show zs.length - (j + 1) < zs.length - j; omega, ?_⟩
      ·show ((zs.take (j + 1)).filter fun z => !p z).length + (mr ++ [z]).length = j + 1
       rw [hs]; simp at hlen ⊢; omega
      ·((refine ⟨⟨rfl,rfl⟩,?_,?_⟩<;>((repeat'(first|exact TLe.nil|exact HLe.nil _|refine TLe.cons ?_ ?_|refine HLe.cons ?_ ?_|exact KLe.ptr rfl|exact KLe.sl rfl (.inl rfl)|exact KLe.csl rfl|exact KLe.mpr rfl|refine KLe.pe ?_|refine KLe.tup ?_|refine KLe.agg ?_|refine BLe.pe ?_|refine BLe.mpe ?_|refine BLe.ghe ?_|refine BLe.axe ?_ ?_|refine BLe.mx ?_|exact KLeL.nil|refine KLe.fn ?_ ?_|refine KLeL.cons ?_ ?_|exact KLe.und _|exact BLe.dead _))<;>(try with_reducible rfl)))<;>(first|rfl|((refine congrArg (PV.int IntKind.i64) ?_)<;>(first|rfl|omega|(rw [add64 (by omega) (by omega)];omega)|(rw [sub64 (by omega) (by omega)];omega)))|skip))
       ·refine (?_ : _ = i64 ((zs.take (j + 1)).filter fun z => !p z).length)
        rw [hs, List.length_append, List.length_singleton]
        (exact hkN)
       ·show (ints (ks ++ m0 :: mr ++ zs.drop j)).set (0 + ((ks.length : Nat) : Int).toNat) [i64 z] = ints ((zs.take (j + 1)).filter (fun z => !p z) ++ (mr ++ [z]) ++ zs.drop (j + 1))
        rw [hs, hd, Int.toNat_natCast, Nat.zero_add, ints_set]
        congr 1
        rw [List.append_assoc, List.set_append_right _ _ (Nat.le_refl _)]
        simp
     ·have hb : (!p z) = false := hb
      rw [if_neg (by rw [hb]; decide), List.append_nil] at hs
      (refine hkG ?_)
      refine ⟨(j + 1, mid ++ [z]), ⟨hlt, by simp, ?_⟩, by show zs.length - (j + 1) < zs.length - j; omega, ?_⟩
      ·show ((zs.take (j + 1)).filter fun z => !p z).length + (mid ++ [z]).length = j + 1
       rw [hs]; simp at hlen ⊢; omega
      ·((refine ⟨⟨rfl,rfl⟩,?_,?_⟩<;>((repeat'(first|exact TLe.nil|exact HLe.nil _|refine TLe.cons ?_ ?_|refine HLe.cons ?_ ?_|exact KLe.ptr rfl|exact KLe.sl rfl (.inl rfl)|exact KLe.csl rfl|exact KLe.mpr rfl|refine KLe.pe ?_|refine KLe.tup ?_|refine KLe.agg ?_|refine BLe.pe ?_|refine BLe.mpe ?_|refine BLe.ghe ?_|refine BLe.axe ?_ ?_|refine BLe.mx ?_|exact KLeL.nil|refine KLe.fn ?_ ?_|refine KLeL.cons ?_ ?_|exact KLe.und _|exact BLe.dead _))<;>(try with_reducible rfl)))<;>(first|rfl|((refine congrArg (PV.int IntKind.i64) ?_)<;>(first|rfl|omega|(rw [add64 (by omega) (by omega)];omega)|(rw [sub64 (by omega) (by omega)];omega)))|skip))
       ·exact congrArg (fun l : List Int => i64 l.length) hs.symm
       ·refine congrArg ints ?_
        show ks ++ mid ++ zs.drop j = (zs.take (j + 1)).filter (fun z => !p z) ++ (mid ++ [z]) ++ zs.drop (j + 1)
        rw [hs, hd]; simp
def compT (zs : List Int) : Nat → List Int
 | 0 => []
 | j + 1 => compT zs j ++ (if j ≠ 0 ∧ zs[j]? = zs[j - 1]? then [] else (zs[j]?).toList)
def compI (zs : List Int) : List Int := compT zs zs.length
theorem compT_len (zs : List Int) : ∀ j, (compT zs j).length ≤ j
 | 0 => Nat.le_refl _
 | j + 1 => by
   have := compT_len zs j
   unfold compT
   split
   ·simp; omega
   ·cases zs[j]? <;> simp <;> omega
theorem compT_all (zs : List Int) : ∀ j, j ≤ zs.length → (∀ i, 1 ≤ i → i < j → zs[i]? ≠ zs[i - 1]?) → compT zs j = zs.take j
 | 0, _, _ => by simp [compT]
 | j + 1, hj, h => by
   unfold compT
   rw [compT_all zs j (by omega) (fun i h1 h2 => h i h1 (by omega)), List.take_add_one]
   by_cases h0 : j = 0
   ·simp [h0]
   ·have := h j (by omega) (by omega)
    simp [this]
theorem compT_put {zs : List Int} {j : Nat} {z : Int} (hz : zs[j]? = some z) (hne : zs[j]? ≠ zs[j - 1]?) : compT zs (j + 1) = compT zs j ++ [z] := by
 show compT zs j ++ _ = _
 rw [if_neg (fun h => hne h.2), hz]; rfl
theorem compT_skip {zs : List Int} {j : Nat} (h0 : j ≠ 0) (he : zs[j]? = zs[j - 1]?) : compT zs (j + 1) = compT zs j := by
 show compT zs j ++ _ = _
 rw [if_pos ⟨h0, he⟩, List.append_nil]
attribute [irreducible] compT
theorem compact_fn (zs : List Int) (hz : zs.length < 2 ^ 40) :
 Fn Tryz.prog 176 [.sl 0 1 0 zs.length none] [.pr 1 (ints zs)] [] (fun r H => ∃ rest, r = .sl 0 1 0 (compI zs).length none ∧ H = [.pr 1 (ints (compI zs) ++ rest)]) := by
 have hil := ints_len zs
 have htake : zs.take zs.length = zs := List.take_length
 refine f_intro rf176_eq rmixed rfl ?_
 (refine hkG ?_)
 refine bk_split (fun hb => ?_) (fun hb => ?_)
 ·have hb : (zs.length : Int) < 2 := of_decide_eq_true hb
  have e : compI zs = zs := by
   unfold compI
   rw [compT_all zs _ (Nat.le_refl _) (fun i h1 h2 => by omega), htake]
  rw [e]
  (refine hkG ?_)
  refine ⟨.sl 0 1 0 zs.length none, [.pr 1 (ints zs)], ⟨[], rfl, by simp⟩, ⟨rfl, rfl⟩, ?_, ?_⟩
  all_goals (((repeat'(first|exact TLe.nil|exact HLe.nil _|refine TLe.cons ?_ ?_|refine HLe.cons ?_ ?_|exact KLe.ptr rfl|exact KLe.sl rfl (.inl rfl)|exact KLe.csl rfl|exact KLe.mpr rfl|refine KLe.pe ?_|refine KLe.tup ?_|refine KLe.agg ?_|refine BLe.pe ?_|refine BLe.mpe ?_|refine BLe.ghe ?_|refine BLe.axe ?_ ?_|refine BLe.mx ?_|exact KLeL.nil|refine KLe.fn ?_ ?_|refine KLeL.cons ?_ ?_|exact KLe.und _|exact BLe.dead _))<;>(try with_reducible rfl)))
 ·have hb : ¬ (zs.length : Int) < 2 := of_decide_eq_false hb
  (refine hkG ?_)
  refine ⟨[], Nat, fun k => ⟨[(0, .sl 0 1 0 zs.length none), (3, .p (i64 k))], [.pr 1 (ints zs)]⟩,
   fun k => k ≤ zs.length ∧ 1 ≤ k ∧ ∀ i, 1 ≤ i → i < k → zs[i]? ≠ zs[i - 1]?, fun k => zs.length - k, ⟨1, ⟨by omega, Nat.le_refl _, fun i h1 h2 => by omega⟩, ?_⟩, fun k hk => ?_⟩
  ·(exact hkL)
  ·obtain ⟨hk, hk1, hno⟩ := hk
   by_cases hke : k = zs.length
   ·have e : compI zs = zs := by
     unfold compI
     rw [compT_all zs _ (Nat.le_refl _) (fun i h1 h2 => hno i h1 (by omega)), htake]
    rw [e]
    subst hke
    (refine hkG ?_)
    (refine hkD ?_)
    refine ⟨.sl 0 1 0 zs.length none, [.pr 1 (ints zs)], ⟨[], rfl, by simp⟩, ⟨rfl, rfl⟩, ?_, ?_⟩
    all_goals (((repeat'(first|exact TLe.nil|exact HLe.nil _|refine TLe.cons ?_ ?_|refine HLe.cons ?_ ?_|exact KLe.ptr rfl|exact KLe.sl rfl (.inl rfl)|exact KLe.csl rfl|exact KLe.mpr rfl|refine KLe.pe ?_|refine KLe.tup ?_|refine KLe.agg ?_|refine BLe.pe ?_|refine BLe.mpe ?_|refine BLe.ghe ?_|refine BLe.axe ?_ ?_|refine BLe.mx ?_|exact KLeL.nil|refine KLe.fn ?_ ?_|refine KLeL.cons ?_ ?_|exact KLe.und _|exact BLe.dead _))<;>(try with_reducible rfl)))
   ·have hlt : k < zs.length := by omega
    obtain ⟨z, hzk⟩ : ∃ z, zs[k]? = some z := ⟨_, List.getElem?_eq_getElem hlt⟩
    obtain ⟨y, hyk⟩ : ∃ y, zs[k - 1]? = some y := ⟨_, List.getElem?_eq_getElem (by omega)⟩
    have e1 : intAr .sub .i64 (k : Int) 1 = ((k - 1 : Nat) : Int) := by rw [sub64 (by omega) (by omega)]; omega
    have hg : (ints zs)[0 + k]? = some [i64 z] := by rw [Nat.zero_add]; exact ints_get hzk
    have hg1 : (ints zs)[0 + (k - 1)]? = some [i64 y] := by rw [Nat.zero_add]; exact ints_get hyk
    (refine hkG ?_)
    (refine hkD ?_)
    refine ⟨_, hg, ?_⟩
    (refine hkG ?_)
    refine ⟨_, by rw [e1, Int.toNat_natCast]; exact hg1, ?_⟩
    (refine hkG ?_)
    refine bk_split (fun hb => ?_) (fun hb => ?_)
    ·have hzy : z = y := of_decide_eq_true hb
     have hT : compT zs k = zs.take k := compT_all zs k hk hno
     have hT1 : compT zs (k + 1) = zs.take k := by rw [compT_skip (by omega) (by rw [hzk, hyk, hzy]), hT]
     have hstart : zs = compT zs (k + 1) ++ ([] ++ [z]) ++ zs.drop (k + 1) := by
      rw [hT1, List.nil_append, List.append_assoc, List.singleton_append, ← drop_at hzk, List.take_append_drop]
     (refine hkG ?_)
     refine ⟨[], Nat × List Int, fun x => ⟨[(0, .sl 0 1 0 zs.length none), (3, .p (i64 (compT zs (k + x.1)).length)), (4, .sl 0 1 (0 + k) (zs.length - k) none), (5, .p (i64 x.1))],
      [.pr 1 (ints (compT zs (k + x.1) ++ (x.2 ++ [zs.getD (k + x.1 - 1) 0]) ++ zs.drop (k + x.1)))]⟩,
      fun x => 1 ≤ x.1 ∧ k + x.1 ≤ zs.length ∧ (compT zs (k + x.1)).length + x.2.length + 1 = k + x.1, fun x => zs.length - k - x.1, ⟨(1, []), ⟨Nat.le_refl _, by show k + 1 ≤ _; omega, by show (compT zs (k + 1)).length + 0 + 1 = k + 1; rw [hT1]; simp; omega⟩, ?_⟩, fun x hx => ?_⟩
     ·((refine ⟨⟨rfl,rfl⟩,?_,?_⟩<;>((repeat'(first|exact TLe.nil|exact HLe.nil _|refine TLe.cons ?_ ?_|refine HLe.cons ?_ ?_|exact KLe.ptr rfl|exact KLe.sl rfl (.inl rfl)|exact KLe.csl rfl|exact KLe.mpr rfl|refine KLe.pe ?_|refine KLe.tup ?_|refine KLe.agg ?_|refine BLe.pe ?_|refine BLe.mpe ?_|refine BLe.ghe ?_|refine BLe.axe ?_ ?_|refine BLe.mx ?_|exact KLeL.nil|refine KLe.fn ?_ ?_|refine KLeL.cons ?_ ?_|exact KLe.und _|exact BLe.dead _))<;>(try with_reducible rfl)))<;>(first|rfl|((refine congrArg (PV.int IntKind.i64) ?_)<;>(first|rfl|omega|(rw [add64 (by omega) (by omega)];omega)|(rw [sub64 (by omega) (by omega)];omega)))|skip))
      ·show i64 k = i64 (compT zs (k + 1)).length
       rw [hT1, List.length_take, Nat.min_eq_left (by omega)]
      ·refine congrArg ints (hstart.trans ?_)
       show _ = compT zs (k + 1) ++ ([] ++ [zs.getD (k + 1 - 1) 0]) ++ zs.drop (k + 1)
       rw [Nat.add_sub_cancel, List.getD_eq_getElem?_getD, hzk]; rfl
     ·obtain ⟨j, mi⟩ := x
      obtain ⟨hj1, hj, hlen⟩ := hx
      have hj1 : 1 ≤ j := hj1
      have hj : k + j ≤ zs.length := hj
      have hlen : (compT zs (k + j)).length + mi.length + 1 = k + j := hlen
      show awp _ _ _ ⟨[(0, .sl 0 1 0 zs.length none), (3, .p (i64 (compT zs (k + j)).length)), (4, .sl 0 1 (0 + k) (zs.length - k) none), (5, .p (i64 j))], [.pr 1 (ints (compT zs (k + j) ++ (mi ++ [zs.getD (k + j - 1) 0]) ++ zs.drop (k + j)))]⟩
      obtain ⟨y1, hy1⟩ : ∃ y1, zs[k + j - 1]? = some y1 := ⟨_, List.getElem?_eq_getElem (by omega)⟩
      have hyd : zs.getD (k + j - 1) 0 = y1 := by rw [List.getD_eq_getElem?_getD, hy1]; rfl
      rw [hyd]
      by_cases hje : k + j = zs.length
      ·have hd : zs.drop (k + j) = [] := by rw [hje]; simp
       have hcI : compI zs = compT zs (k + j) := by rw [hje]; rfl
       rw [hd, List.append_nil, hcI]
       generalize compT zs (k + j) = ks at *
       generalize hmd : mi ++ [y1] = mid at *
       have hml : mid.length = mi.length + 1 := by rw [← hmd]; simp
       have hl2 : (ints (ks ++ mid)).length = ks.length + mid.length := by rw [ints_len, List.length_append]
       have htk : (ints (ks ++ mid)).take (0 + ks.length) = ints ks := by
        rw [ints_app, Nat.zero_add, ← ints_len ks]; exact List.take_left
       (refine hkG ?_)
       (refine hkD ?_)
       refine ⟨.sl 0 1 0 ks.length none, [.pr 1 ((ints (ks ++ mid)).take (0 + ks.length) ++ List.replicate (zs.length - ks.length) [i64 0] ++ (ints (ks ++ mid)).drop (0 + ks.length + (zs.length - ks.length)))], ⟨List.replicate (zs.length - ks.length) [i64 0] ++ (ints (ks ++ mid)).drop (0 + ks.length + (zs.length - ks.length)), rfl, by rw [htk, List.append_assoc]⟩, ⟨rfl, rfl⟩, ?_, ?_⟩
       all_goals (((repeat'(first|exact TLe.nil|exact HLe.nil _|refine TLe.cons ?_ ?_|refine HLe.cons ?_ ?_|exact KLe.ptr rfl|exact KLe.sl rfl (.inl rfl)|exact KLe.csl rfl|exact KLe.mpr rfl|refine KLe.pe ?_|refine KLe.tup ?_|refine KLe.agg ?_|refine BLe.pe ?_|refine BLe.mpe ?_|refine BLe.ghe ?_|refine BLe.axe ?_ ?_|refine BLe.mx ?_|exact KLeL.nil|refine KLe.fn ?_ ?_|refine KLeL.cons ?_ ?_|exact KLe.und _|exact BLe.dead _))<;>(try with_reducible rfl)))
       rfl
      ·have hlt2 : k + j < zs.length := by omega
       obtain ⟨z1, hz1⟩ : ∃ z1, zs[k + j]? = some z1 := ⟨_, List.getElem?_eq_getElem hlt2⟩
       have hd := drop_at hz1
       have e2 : intAr .sub .i64 (j : Int) 1 = ((j - 1 : Nat) : Int) := by rw [sub64 (by omega) (by omega)]; omega
       have hputT := compT_put hz1
       have hskipT := compT_skip (zs := zs) (j := k + j) (by omega)
       rw [hz1, hy1] at hputT hskipT
       have hlT := compT_len zs (k + j)
       generalize hks : compT zs (k + j) = ks at *
       have hrow : (ints (ks ++ (mi ++ [y1]) ++ zs.drop (k + j))).length = zs.length := by
        rw [ints_len, List.length_append, List.length_append, List.length_append, List.length_singleton, List.length_drop]; omega
       have ha : (ints (ks ++ (mi ++ [y1]) ++ zs.drop (k + j)))[0 + k + j]? = some [i64 z1] := ints_get (by
        rw [Nat.zero_add, List.getElem?_append_right (by simp; omega)]
        simp [show k + j - (ks.length + (mi.length + 1)) = 0 by omega, hd])
       have hb1 : (ints (ks ++ (mi ++ [y1]) ++ zs.drop (k + j)))[0 + k + (j - 1)]? = some [i64 y1] := ints_get (by
        rw [Nat.zero_add, List.getElem?_append_left (by simp; omega), List.getElem?_append_right (by omega), List.getElem?_append_right (by omega)]
        simp [show k + (j - 1) - ks.length - mi.length = 0 by omega])
       obtain ⟨m0, mr, hm⟩ : ∃ m0 mr, mi ++ [y1] = m0 :: mr := by cases mi with
        | nil => exact ⟨y1, [], rfl⟩
        | cons m0 mr => exact ⟨m0, mr ++ [y1], rfl⟩
       have hgs : (ints (ks ++ (mi ++ [y1]) ++ zs.drop (k + j)))[0 + ks.length]? = some [i64 m0] := ints_get (by
        rw [Nat.zero_add, hm, List.append_assoc, List.getElem?_append_right (Nat.le_refl _)]; simp)
       have hnext : zs.getD (k + (j + 1) - 1) 0 = z1 := by rw [show k + (j + 1) - 1 = k + j by omega, List.getD_eq_getElem?_getD, hz1]; rfl
       (refine hkG ?_)
       (refine hkD ?_)
       refine ⟨_, ha, ?_⟩
       (refine hkG ?_)
       refine ⟨_, by rw [e2, Int.toNat_natCast]; exact hb1, ?_⟩
       (refine hkG ?_)
       refine bk_split (fun hb => ?_) (fun hb => ?_)
       ·have hne : z1 ≠ y1 := by simpa [intCm] using hb
        have hT2 := hputT (by simpa using hne)
        (refine hkG ?_)
        refine ⟨_, ha, ?_⟩
        (refine hkG ?_)
        refine ⟨_, hgs, rfl, Nat.le_refl 1, ?_⟩
        (refine hkG ?_)
        refine ⟨(j + 1, mr), ⟨by omega, by show k + (j + 1) ≤ zs.length; omega, ?_⟩, by show zs.length - k - (j + 1) < zs.length - k - j; omega, ?_⟩
        ·show (compT zs (k + (j + 1))).length + mr.length + 1 = k + (j + 1)
         have h1 : (mi ++ [y1]).length = (m0 :: mr).length := by rw [hm]
         simp at h1
         rw [show k + (j + 1) = k + j + 1 by omega, hT2]; simp; omega
        ·((refine ⟨⟨rfl,rfl⟩,?_,?_⟩<;>((repeat'(first|exact TLe.nil|exact HLe.nil _|refine TLe.cons ?_ ?_|refine HLe.cons ?_ ?_|exact KLe.ptr rfl|exact KLe.sl rfl (.inl rfl)|exact KLe.csl rfl|exact KLe.mpr rfl|refine KLe.pe ?_|refine KLe.tup ?_|refine KLe.agg ?_|refine BLe.pe ?_|refine BLe.mpe ?_|refine BLe.ghe ?_|refine BLe.axe ?_ ?_|refine BLe.mx ?_|exact KLeL.nil|refine KLe.fn ?_ ?_|refine KLeL.cons ?_ ?_|exact KLe.und _|exact BLe.dead _))<;>(try with_reducible rfl)))<;>(first|rfl|((refine congrArg (PV.int IntKind.i64) ?_)<;>(first|rfl|omega|(rw [add64 (by omega) (by omega)];omega)|(rw [sub64 (by omega) (by omega)];omega)))|skip))
         ·refine (?_ : _ = i64 (compT zs (k + j + 1)).length)
          rw [hT2, List.length_append, List.length_singleton]
          (exact hkN)
         ·show (ints (ks ++ (mi ++ [y1]) ++ zs.drop (k + j))).set (0 + ((ks.length : Nat) : Int).toNat) [i64 z1] = ints (compT zs (k + j + 1) ++ (mr ++ [zs.getD (k + (j + 1) - 1) 0]) ++ zs.drop (k + j + 1))
          rw [hT2, hnext, hm, hd, Int.toNat_natCast, Nat.zero_add, ints_set]
          congr 1
          rw [List.append_assoc, List.set_append_right _ _ (Nat.le_refl _)]
          simp
       ·have hne : z1 = y1 := by simpa [intCm] using hb
        have hT2 := hskipT (by rw [hne])
        (refine hkG ?_)
        refine ⟨(j + 1, mi ++ [y1]), ⟨by omega, by show k + (j + 1) ≤ zs.length; omega, ?_⟩, by show zs.length - k - (j + 1) < zs.length - k - j; omega, ?_⟩
        ·show (compT zs (k + (j + 1))).length + (mi ++ [y1]).length + 1 = k + (j + 1)
         rw [show k + (j + 1) = k + j + 1 by omega, hT2]; simp; omega
        ·((refine ⟨⟨rfl,rfl⟩,?_,?_⟩<;>((repeat'(first|exact TLe.nil|exact HLe.nil _|refine TLe.cons ?_ ?_|refine HLe.cons ?_ ?_|exact KLe.ptr rfl|exact KLe.sl rfl (.inl rfl)|exact KLe.csl rfl|exact KLe.mpr rfl|refine KLe.pe ?_|refine KLe.tup ?_|refine KLe.agg ?_|refine BLe.pe ?_|refine BLe.mpe ?_|refine BLe.ghe ?_|refine BLe.axe ?_ ?_|refine BLe.mx ?_|exact KLeL.nil|refine KLe.fn ?_ ?_|refine KLeL.cons ?_ ?_|exact KLe.und _|exact BLe.dead _))<;>(try with_reducible rfl)))<;>(first|rfl|((refine congrArg (PV.int IntKind.i64) ?_)<;>(first|rfl|omega|(rw [add64 (by omega) (by omega)];omega)|(rw [sub64 (by omega) (by omega)];omega)))|skip))
         ·exact congrArg (fun l : List Int => i64 l.length) hT2.symm
         ·show ints (ks ++ (mi ++ [y1]) ++ zs.drop (k + j)) = ints (compT zs (k + j + 1) ++ (mi ++ [y1] ++ [zs.getD (k + (j + 1) - 1) 0]) ++ zs.drop (k + j + 1))
          rw [hT2, hnext, hd]; simp
    ·(refine hkG ?_)
     refine ⟨k + 1, ⟨hlt, by omega, fun i h1 h2 => ?_⟩, by show zs.length - (k + 1) < zs.length - k; omega, ?_⟩
     ·by_cases e : i = k
      ·subst e; rw [hzk, hyk]; simpa [intCm] using hb
      ·exact hno i h1 (by omega)
     ·(exact hkL)
theorem equal_fn (xs ys : List Int) (c d : Option Nat) (hx : xs.length < 2 ^ 40) (hy : ys.length < 2 ^ 40) : PF Tryz.prog 129 [.isl 1 (ints xs) c, .isl 1 (ints ys) d] (.b (decide (xs = ys))) := by
 have hil := ints_len xs
 have hil2 := ints_len ys
 refine pf_intro rf129_eq rmixed rfl ?_
 (refine hkG ?_)
 refine bk_split (fun hb => ?_) (fun hb => ?_)
 ·have : ¬ xs = ys := fun e => by subst e; simp [intCm] at hb
  rw [decide_eq_false this]
  (refine hkG ?_)
  exact ret_pf rfl rfl rfl
 ·have hl : xs.length = ys.length := by simp [intCm] at hb; omega
  (refine hkG ?_)
  refine ⟨[], Nat, fun i => ⟨[(0, .p (.isl 1 (ints xs) c)), (1, .p (.isl 1 (ints ys) d)), (12, .p (i64 xs.length)), (13, .p (i64 i))], []⟩,
   fun i => i ≤ xs.length ∧ ∀ j : Nat, j < i → xs[j]? = ys[j]?, fun i => xs.length - i, ⟨0, ⟨Nat.zero_le _, fun j h => by omega⟩, ?_⟩, fun i hi => ?_⟩
  ·(exact hkL)
  ·obtain ⟨hi, hsame⟩ := hi
   by_cases hie : i = xs.length
   ·have : xs = ys := List.ext_getElem? fun j => by
     by_cases hj : j < i
     ·exact hsame j hj
     ·rw [List.getElem?_eq_none (by omega), List.getElem?_eq_none (by omega)]
    rw [decide_eq_true this]
    subst hie
    (refine hkG ?_)
    (refine hkD ?_)
    exact ret_pf rfl rfl rfl
   ·have hlt : i < xs.length := by omega
    obtain ⟨x, hxi⟩ : ∃ x, xs[i]? = some x := ⟨_, List.getElem?_eq_getElem hlt⟩
    obtain ⟨y, hyi⟩ : ∃ y, ys[i]? = some y := ⟨_, List.getElem?_eq_getElem (by omega)⟩
    have g1 := ints_get hxi
    have g2 := ints_get hyi
    (refine hkG ?_)
    (refine hkD ?_)
    refine ⟨_, g1, ?_⟩
    (refine hkG ?_)
    refine ⟨_, g2, ?_⟩
    (refine hkG ?_)
    refine bk_split (fun hb => ?_) (fun hb => ?_)
    ·have : ¬ xs = ys := fun e => by subst e; rw [hxi] at hyi; cases hyi; simp [intCm] at hb
     rw [decide_eq_false this]
     (refine hkG ?_)
     exact ret_pf rfl rfl rfl
    ·(refine hkG ?_)
     refine ⟨i + 1, ⟨hlt, fun j hj => ?_⟩, by show xs.length - (i + 1) < xs.length - i; omega, ?_⟩
     ·by_cases e : j = i
      ·subst e; rw [hxi, hyi]; simpa [intCm] using hb
      ·exact hsame j (by omega)
     ·(exact hkL)
end Hk
