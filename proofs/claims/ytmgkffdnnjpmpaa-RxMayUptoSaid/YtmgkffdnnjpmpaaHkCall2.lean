/- Hk, part 19: a call by a contract. -/
import Derived.Test.YtmgkffdnnjpmpaaHkCall
namespace Hk
open Go
set_option linter.unusedVariables false
set_option linter.unusedSimpArgs false

def AV.kills : List Nat → AV → AV
  | [], x => x
  | b :: r, x => AV.kills r (x.kill b)
def AV.killsL : List Nat → List AV → List AV
  | [], x => x
  | b :: r, x => AV.killsL r (AV.killL b x)
def Blk.kills : List Nat → Blk → Blk
  | [], x => x
  | b :: r, x => Blk.kills r (x.kill b)

theorem kills_append (k1 k2 : List Nat) (x : AV) : AV.kills (k1 ++ k2) x = AV.kills k2 (AV.kills k1 x) := by
  induction k1 generalizing x with
  | nil => rfl
  | cons b r ih => exact ih _
theorem bkills_append (k1 k2 : List Nat) (x : Blk) : Blk.kills (k1 ++ k2) x = Blk.kills k2 (Blk.kills k1 x) := by
  induction k1 generalizing x with
  | nil => rfl
  | cons b r ih => exact ih _

theorem killsL_get (ks : List Nat) (l : List AV) (i : Nat) : (AV.killsL ks l)[i]? = (l[i]?).map (AV.kills ks) := by
  induction ks generalizing l with
  | nil => simp [AV.killsL, AV.kills]
  | cons b r ih => simp only [AV.killsL, ih, killL_get, Option.map_map]; rfl
theorem killsL_len (ks : List Nat) (l : List AV) : (AV.killsL ks l).length = l.length := by
  induction ks generalizing l with
  | nil => rfl
  | cons b r ih => simp [AV.killsL, ih, killL_len]

theorem kills_undef (ks : List Nat) : AV.kills ks .undef = .undef := by
  induction ks with
  | nil => rfl
  | cons b r ih => exact ih
theorem kills_p (ks : List Nat) (x : PV) : AV.kills ks (.p x) = .p x := by
  induction ks with
  | nil => rfl
  | cons b r ih => exact ih
theorem kills_agg (ks : List Nat) (l : List AV) : AV.kills ks (.agg l) = .agg (AV.killsL ks l) := by
  induction ks generalizing l with
  | nil => rfl
  | cons b r ih => exact ih _
theorem kills_tup (ks : List Nat) (l : List AV) : AV.kills ks (.tup l) = .tup (AV.killsL ks l) := by
  induction ks generalizing l with
  | nil => rfl
  | cons b r ih => exact ih _
theorem kills_fn (ks : List Nat) (f : Nat) (x y : List AV) : AV.kills ks (.fn f x y) = .fn f (AV.killsL ks x) (AV.killsL ks y) := by
  induction ks generalizing x y with
  | nil => rfl
  | cons b r ih => exact ih _ _
theorem kills_ifc (ks : List Nat) (t : TypeId) (x : AV) : AV.kills ks (.ifc t x) = .ifc t (AV.kills ks x) := by
  induction ks generalizing x with
  | nil => rfl
  | cons b r ih => exact ih _
theorem kills_ptr (ks : List Nat) (b w i j : Nat) : AV.kills ks (.ptr b w i j) = if b ∈ ks then .undef else .ptr b w i j := by
  induction ks with
  | nil => simp [AV.kills]
  | cons c r ih =>
    by_cases e : b = c
    · subst e; simp [AV.kills, AV.kill, kills_undef]
    · simp [AV.kills, AV.kill, beqF e, ih, e]
theorem kills_sl (ks : List Nat) (b w i l : Nat) (c : Option Nat) : AV.kills ks (.sl b w i l c) = if b ∈ ks then .undef else .sl b w i l c := by
  induction ks with
  | nil => simp [AV.kills]
  | cons c' r ih =>
    by_cases e : b = c'
    · subst e; simp [AV.kills, AV.kill, kills_undef]
    · simp [AV.kills, AV.kill, beqF e, ih, e]
theorem kills_csl (ks : List Nat) (b w i j e l : Nat) : AV.kills ks (.csl b w i j e l) = if b ∈ ks then .undef else .csl b w i j e l := by
  induction ks with
  | nil => simp [AV.kills]
  | cons c' r ih =>
    by_cases e' : b = c'
    · subst e'; simp [AV.kills, AV.kill, kills_undef]
    · simp [AV.kills, AV.kill, beqF e', ih, e']

theorem RA.kills {w w' : World} {ι ι' : Inj} {ks : List Nat} (hL : Later ι.M w w' ι'.M) (hι : ∀ b, b ∉ ks → ∀ p, ι b = some p → ι' b = some p) {x : AV} {v : Value} (h : RA w ι x v) :
    RA w' ι' (x.kills ks) v := by
  induction h with
  | p h => rw [kills_p]; exact .p (h.later hL)
  | und v => rw [kills_undef]; exact .und v
  | ptr h => rw [kills_ptr]; split; exact .und _; exact .ptr (hι _ (by assumption) _ h)
  | sl h hl hcap hs => rw [kills_sl]; split; exact .und _; exact .sl (hι _ (by assumption) _ h) hl hcap hs
  | slz hcap => rw [kills_sl]; split; exact .und _; exact .slz hcap
  | csl h hl => rw [kills_csl]; split; exact .und _; exact .csl (hι _ (by assumption) _ h) hl
  | cslz => rw [kills_csl]; split; exact .und _; exact .cslz
  | agg hl hone h ih =>
    rw [kills_agg]
    refine .agg (by rw [hl, killsL_len]) (fun i y hy => ?_) (fun i y hy => ?_)
    all_goals rw [killsL_get] at hy; obtain ⟨z, hz, rfl⟩ := Option.map_eq_some_iff.1 hy
    · exact hone i z hz
    · exact ih i z hz
  | tup hl h ih =>
    rw [kills_tup]
    refine .tup (by rw [hl, killsL_len]) (fun i y hy => ?_)
    rw [killsL_get] at hy; obtain ⟨z, hz, rfl⟩ := Option.map_eq_some_iff.1 hy
    exact ih i z hz
  | fn h1 h2 h3 h4 ih3 ih4 =>
    rw [kills_fn]
    refine .fn (by rw [h1, killsL_len]) (by rw [h2, killsL_len]) (fun i y hy => ?_) (fun i y hy => ?_)
    all_goals rw [killsL_get] at hy; obtain ⟨z, hz, rfl⟩ := Option.map_eq_some_iff.1 hy
    · exact ih3 i z hz
    · exact ih4 i z hz
  | ifc h ih => rw [kills_ifc]; exact .ifc ih

theorem bkills_dead (ks : List Nat) : Blk.kills ks .dead = .dead := by
  induction ks with
  | nil => rfl
  | cons b r ih => exact ih
theorem bkills_pr (ks : List Nat) (wd : Nat) (rows : List (List PV)) : Blk.kills ks (.pr wd rows) = .pr wd rows := by
  induction ks with
  | nil => rfl
  | cons b r ih => exact ih
theorem bkills_mx (ks : List Nat) (l : List AV) : Blk.kills ks (.mx l) = .mx (AV.killsL ks l) := by
  induction ks generalizing l with
  | nil => rfl
  | cons b r ih => exact ih _

theorem RB.kills {w w' : World} {ι ι' : Inj} {ks : List Nat} {p : Option (Nat × Nat × Nat)} (hL : Later ι.M w w' ι'.M) (hι : ∀ b, b ∉ ks → ∀ p, ι b = some p → ι' b = some p)
    (hk : ∀ c o s, p = some (c, o, s) → w'.heap[c]? = w.heap[c]?) {x : Blk} (h : RB w ι p x) : RB w' ι' p (x.kills ks) := by
  cases x with
  | dead => rw [bkills_dead]; exact h
  | mx cells =>
    rw [bkills_mx]
    obtain ⟨c, o, s, cs, ty, fz, hp, h1, hf, h2, h3, h4⟩ := h
    refine ⟨c, o, s, cs, ty, fz, hp, by rw [hk _ _ _ hp, h1], hf, h2, by rw [killsL_len]; exact h3, fun j x hx => ?_⟩
    rw [killsL_get] at hx; obtain ⟨y, hy, rfl⟩ := Option.map_eq_some_iff.1 hx
    obtain ⟨v, hv, ho, hr⟩ := h4 j y hy
    exact ⟨v, hv, ho, hr.kills hL hι⟩
  | pr wd rows =>
    rw [bkills_pr]
    rcases h with h | ⟨c, o, s, cs, ty, fz, hp, h1, hf, h2, h3, h4, h5⟩
    · exact .inl h
    · refine .inr ⟨c, o, s, cs, ty, fz, hp, by rw [hk _ _ _ hp, h1], hf, h2, h3, h4, fun i row j x hi hx => ?_⟩
      obtain ⟨ho, v, hv, hr⟩ := h5 i row j x hi hx
      exact ⟨ho, v, hv, hr.later hL⟩

theorem killAll_lk (ks : List Nat) (st : St) (s : Nat) : lk (killAll ks st).tmps s = (lk st.tmps s).kills ks := by
  induction ks generalizing st with
  | nil => rfl
  | cons b r ih => simp only [killAll, ih, AV.kills]; rw [show (st.kill b).tmps = killT b st.tmps from rfl, lk_kill]
theorem killAll_nth (ks : List Nat) (st : St) (n : Nat) : nth .dead (killAll ks st).heap n = (nth .dead st.heap n).kills ks := by
  induction ks generalizing st with
  | nil => rfl
  | cons b r ih => simp only [killAll, ih, Blk.kills]; rw [show (st.kill b).heap = killH b st.heap from rfl, killH_nth]
theorem killAll_len (ks : List Nat) (st : St) : (killAll ks st).heap.length = st.heap.length := by
  induction ks generalizing st with
  | nil => rfl
  | cons b r ih => simp only [killAll, ih]; exact killH_len _ _

theorem dropAll_lk (fr : List Nat) (st : St) (s : Nat) : lk (dropAll fr st).tmps s = (lk st.tmps s).kills fr := by
  induction fr generalizing st with
  | nil => rfl
  | cons b r ih => simp only [dropAll, ih, AV.kills, lk_kill]
theorem dropAll_len (fr : List Nat) (st : St) : (dropAll fr st).heap.length = st.heap.length := by
  induction fr generalizing st with
  | nil => rfl
  | cons b r ih => simp only [dropAll, ih, killH_setNth_len]
theorem dropAll_nth (fr : List Nat) (st : St) (hb : ∀ b ∈ fr, b < st.heap.length) (n : Nat) : nth .dead (dropAll fr st).heap n = if n ∈ fr then .dead else (nth .dead st.heap n).kills fr := by
  induction fr generalizing st with
  | nil => simp [dropAll, Blk.kills]
  | cons b r ih =>
    simp only [dropAll]
    rw [ih _ (fun c hc => by simp only [killH_setNth_len]; exact hb c (by simp [hc]))]
    have hlt : b < (killH b st.heap).length := by rw [killH_len]; exact hb b (by simp)
    by_cases h1 : n ∈ r
    · simp [h1]
    · rw [if_neg h1, nth_setNth _ _ _ _ _ hlt]
      by_cases h2 : n = b
      · simp [h2, bkills_dead]
      · simp [h1, h2, Blk.kills, killH_nth]

section
variable {cx : Cx} {ι : Inj} {st : St} {a : Act} {w : World}

theorem run_callFunc {P : Program} {f : Nat} {vs : Array Value} (h : ∃ fn, P.funcs[f]? = some fn ∧ fn.name ≠ "runtime.NumGoroutine" ∧ fn.body.isSome = true) (w : World) :
    (callFunc f vs).run P w = .ok (.enter f vs) w := by
  obtain ⟨fn, h1, h2, h3⟩ := h
  have h4 : fn.body.isNone = false := by cases hb : fn.body <;> simp_all
  simp only [callFunc, Sem.run_bind, run_program, Result.andThen_ok, h1]
  rw [if_neg (by simpa using h2), h4]
  simp

theorem vcall_sound (hF : ∀ f args H mv Post, cx.E.F f args H mv Post → Fn cx.P f args H mv Post) (hr : Rel cx ι st a w) {o : Oper} {f : Nat} {args : List AV} {vs : Array Value}
    (hrun : (execOp a.eval o).run cx.P w = (callFunc f vs).run cx.P w) (hargs : RAL w ι args vs) (hd : ∀ t, o.dst = some t → t < cx.n) {q : Bool} {k : St → Prop}
    (h : vcall cx.E q f args o.dst st k) {Q : Exit → Act → World → Prop} : o.wp cx.P a w (After cx q w k) Q := by
  have h := h.1
  unfold vcall0 at h
  obtain ⟨ids, H, args', mv, Post, fr, flat, hc, ⟨hq, hflat, hfx1, hfx2, hmvb, hfrb, hlen, hdist, hdisj, hlive⟩, hH, hK, hk⟩ := h
  obtain ⟨hcallable, hfn⟩ := hF _ _ _ _ _ hc
  have hfx1 := allFree_spec hfx1
  have hfx2 := allFree_spec hfx2
  have hmvb := boundedN_spec hmvb
  have hfrb := boundedN_spec hfrb
  have hnd := distinctN_nodup hdist
  have hdisj := disjN_spec hdisj
  have hlive := liveIds_spec hlive
  have hidlt : ∀ i ∈ ids, i < st.heap.length := fun i hi => hr.mem.hr.blen (hlive i hi)
  have hbig : ∀ b, st.heap.length ≤ b → ι b = none := fun b hb => by
    cases hq : ι b with
    | none => rfl
    | some p =>
      obtain ⟨c', o', s'⟩ := p
      obtain ⟨cs, ty, fz, _, _, _, hdd⟩ := hr.mem.hr.size hq
      have := hr.mem.hr.blen hdd; omega
  have hflatn : flat = true → ids = [] ∧ fr = [] := fun hf => by
    rw [hf] at hflat
    cases ids <;> cases fr <;> simp_all [isNil]
  -- the arguments' view
  let Xc : Nat → Prop := fun c => ι.X c ∨ (flat = false ∧ ∃ b o s, b ∉ ids ∧ b ∉ fr ∧ ι b = some (c, o, s))
  let ι2 : Inj := ⟨fun b => if b ∈ ids then ι b else none, Xc⟩
  have hι2 : ∀ b c o s, ι2 b = some (c, o, s) → b ∈ ids ∧ ι b = some (c, o, s) := fun b c o s hb => by
    have hb : (if b ∈ ids then ι b else none) = some (c, o, s) := hb
    split at hb
    · exact ⟨by assumption, hb⟩
    · cases hb
  have hM2 : ∀ c, ι2.M c → ι.M c := fun c hc => by
    rcases hc with ⟨b, o, s, hb⟩ | hX | ⟨_, b, o, s, _, _, hb⟩
    · exact .inl ⟨b, o, s, (hι2 _ _ _ _ hb).2⟩
    · exact .inr hX
    · exact .inl ⟨b, o, s, hb⟩
  have hfz : ∀ b, (flat || memN fr b) = true → ∀ c o s, ι b = some (c, o, s) → ¬ ι2.M c := by
    intro b hb c o s hbi hMc
    rcases hMc with ⟨b', o', s', hb'⟩ | hX | ⟨hf, b', o', s', h1, h2, hb'⟩
    · obtain ⟨hin, hb'⟩ := hι2 _ _ _ _ hb'
      have := hr.mem.hr.inj _ _ _ _ _ _ _ hbi hb'
      subst this
      cases hfl : flat with
      | true => obtain ⟨e, _⟩ := hflatn hfl; rw [e] at hin; cases hin
      | false =>
        rw [hfl] at hb
        exact hdisj b (memN_iff.1 (by simpa using hb)) hin
    · exact hr.mem.hr.dis _ _ _ _ hbi hX
    · have := hr.mem.hr.inj _ _ _ _ _ _ _ hbi hb'
      subst this
      rw [hf] at hb
      exact h2 (memN_iff.1 (by simpa using hb))
  have hkp : ∀ b, memN ids b = true → ∀ p, ι b = some p → ι2 b = some p := fun b hb p hp => by
    show (if b ∈ ids then ι b else none) = some p
    rw [if_pos (memN_iff.1 hb)]; exact hp
  -- the callee's injection
  let ιc : Inj := ⟨fun j => if j < ids.length then ι (nth 0 ids j) else none, Xc⟩
  have hιc : ∀ j, j < ids.length → ιc j = ι (nth 0 ids j) := fun j hj => if_pos hj
  have hιc0 : ∀ j, ids.length ≤ j → ιc j = none := fun j hj => if_neg (by omega)
  have hIc : ∀ c, ιc.I c → ∃ b o s, b ∈ ids ∧ ι b = some (c, o, s) := by
    rintro c ⟨j, o, s, hj⟩
    by_cases h1 : j < ids.length
    · rw [hιc j h1] at hj; exact ⟨_, o, s, nth_mem h1, hj⟩
    · rw [hιc0 j (by omega)] at hj; cases hj
  have hMc2 : ∀ c, ιc.M c → ι2.M c := fun c hc => by
    rcases hc with hc | hc
    · obtain ⟨b, o, s, hb, hbi⟩ := hIc c hc
      exact .inl ⟨b, o, s, by show (if b ∈ ids then ι b else none) = _; rw [if_pos hb]; exact hbi⟩
    · exact .inr hc
  have hunren : ∀ b p, ι2 (renB ids st.heap.length b) = some p → ιc b = some p := fun b p hp => by
    by_cases hb : b < ids.length
    · rw [renB_lt hb] at hp
      rw [hιc b hb]
      obtain ⟨c, o, s⟩ := p
      exact (hι2 _ _ _ _ hp).2
    · rw [renB_ge (by omega)] at hp
      obtain ⟨c, o, s⟩ := p
      obtain ⟨hin, _⟩ := hι2 _ _ _ _ hp
      have := hidlt _ hin; omega
  have hHnth : ∀ b, b < ids.length → (nth .dead H b).ren ids st.heap.length = nth .dead st.heap (nth 0 ids b) := fun b hb => by
    rw [← renH_nth, hH, getIds_nth _ _ _ hb]
  have hunren' : ∀ b p, ι (renB ids st.heap.length b) = some p → ιc b = some p := fun b p hp => by
    by_cases hb : b < ids.length
    · rw [renB_lt hb] at hp; rw [hιc b hb]; exact hp
    · rw [renB_ge (by omega), hbig _ (by omega)] at hp; cases hp
  have hMc : ∀ c, ιc.M c → ι.M c := fun c hc => hM2 c (hMc2 c hc)
  have hLc : Later ι.M w w ιc.M := ⟨fun _ _ _ h => h, fun c hc => .inl (hMc c hc), Nat.le_refl _⟩
  have hHR : HRel ιc H w := by
    refine ⟨fun b => ?_, fun b b' c o s o' s' h1 h2 => ?_, fun b c o s h1 => ?_⟩
    · by_cases hb : b < ids.length
      · have hrb := hr.mem.hr.blk (nth 0 ids b)
        rw [← hHnth b hb] at hrb
        rw [hιc b hb]
        cases hbk : nth .dead H b with
        | dead => rw [hbk] at hrb; exact hrb
        | mx cells =>
          rw [hbk] at hrb
          obtain ⟨c, o, s, cs, ty, fz, hp, g1, g2, g3, g4, g5⟩ := hrb
          refine ⟨c, o, s, cs, ty, fz, hp, g1, g2, g3, by rw [renL_len] at g4; exact g4, fun j x hx => ?_⟩
          obtain ⟨v, q1, q2, q3⟩ := g5 j (AV.ren ids st.heap.length x) (by rw [renL_get, hx]; rfl)
          exact ⟨v, q1, q2, RA.unren hunren' hMc x q3⟩
        | pr wd rows =>
          rw [hbk] at hrb
          rcases hrb with h0 | ⟨c, o, s, cs, ty, fz, hp, g1, g2, g3, g4, g5, g6⟩
          · exact .inl h0
          · refine .inr ⟨c, o, s, cs, ty, fz, hp, g1, g2, g3, g4, g5, fun i row j x hi hx => ?_⟩
            obtain ⟨q1, v, q2, q3⟩ := g6 i row j x hi hx
            exact ⟨q1, v, q2, q3.later hLc⟩
      · rw [hιc0 b (by omega), nth_lt _ _ _ (by omega)]; rfl
    · by_cases hb : b < ids.length
      · by_cases hb' : b' < ids.length
        · rw [hιc b hb] at h1
          rw [hιc b' hb'] at h2
          have e := hr.mem.hr.inj _ _ _ _ _ _ _ h1 h2
          rw [← idxN_nth hnd hb, ← idxN_nth hnd hb', e]
        · rw [hιc0 b' (by omega)] at h2; cases h2
      · rw [hιc0 b (by omega)] at h1; cases h1
    · by_cases hb : b < ids.length
      · rw [hιc b hb] at h1
        rintro (hX | ⟨_, b', o', s', g1, _, g2⟩)
        · exact hr.mem.hr.dis _ _ _ _ h1 hX
        · have e := hr.mem.hr.inj _ _ _ _ _ _ _ h1 g2
          exact g1 (e ▸ nth_mem hb)
      · rw [hιc0 b (by omega)] at h1; cases h1
  have hXlt : ∀ c, ιc.X c → c < w.heap.size := fun c hc => by
    rcases hc with hX | ⟨_, b, o, s, _, _, hb⟩
    · have := hr.mem.xl c hX; have := hr.mem.gr; omega
    · exact hr.mem.hr.lt ⟨b, o, s, hb⟩
  obtain ⟨hKl, hKg⟩ := hK.get
  have hRAL : RAL w ιc args' vs := by
    refine ⟨by rw [hargs.1, hKl, renL_len], fun i x hx => ?_⟩
    obtain ⟨x0, g0, g1⟩ := hKg i (AV.ren ids st.heap.length x) (by rw [renL_get, hx]; rfl)
    exact RA.unren hunren hMc2 x (KLe.sound hr.mem.hr hfz hkp hM2 (hargs.2 i x0 g0) g1)
  have hcall := hfn w ιc vs hXlt hHR hRAL
  unfold Oper.wp
  rw [hrun, run_callFunc hcallable]
  refine Calls.mono hcall ?_
  rintro e w' ⟨r, v, ι', H', rfl, hPost, hHl, hHR', hRA', hX', hkeep, hgrow, hnew, hos, hfix⟩
  show After cx q w k (a.put o.dst v) w'
  obtain ⟨hfl, hkk⟩ := hk r H' hPost hHl
  have hXc' : ι'.X = Xc := hX'
  -- the caller's injection behind the call
  let ι3 : Inj := ⟨fun b => if b ∈ ids then ι' (idxN ids b) else if st.heap.length ≤ b then ι' (ids.length + (b - st.heap.length)) else if b ∈ fr then none else ι b, ι.X⟩
  have h3in : ∀ b, b ∈ ids → ι3 b = ι' (idxN ids b) := fun b hb => if_pos hb
  have h3new : ∀ b, b ∉ ids → st.heap.length ≤ b → ι3 b = ι' (ids.length + (b - st.heap.length)) := fun b hb h1 => by
    show (if _ then _ else _) = _
    rw [if_neg hb, if_pos h1]
  have h3fr : ∀ b, b ∉ ids → b < st.heap.length → b ∈ fr → ι3 b = none := fun b hb h1 h2 => by
    show (if _ then _ else _) = _
    rw [if_neg hb, if_neg (by omega), if_pos h2]
  have h3old : ∀ b, b ∉ ids → b < st.heap.length → b ∉ fr → ι3 b = ι b := fun b hb h1 h2 => by
    show (if _ then _ else _) = _
    rw [if_neg hb, if_neg (by omega), if_neg h2]
  have h3cases : ∀ b p, ι3 b = some p → (∃ j, ι' j = some p ∧ b = renB ids st.heap.length j) ∨ (b ∉ ids ∧ b < st.heap.length ∧ b ∉ fr ∧ ι b = some p) := by
    intro b p hp
    by_cases h1 : b ∈ ids
    · rw [h3in b h1] at hp
      obtain ⟨g1, g2⟩ := idxN_spec h1
      exact .inl ⟨_, hp, by rw [renB_lt g1, g2]⟩
    · by_cases h2 : st.heap.length ≤ b
      · rw [h3new b h1 h2] at hp
        exact .inl ⟨_, hp, by rw [renB_ge (by omega)]; omega⟩
      · by_cases h4 : b ∈ fr
        · rw [h3fr b h1 (by omega) h4] at hp; cases hp
        · rw [h3old b h1 (by omega) h4] at hp
          exact .inr ⟨h1, by omega, h4, hp⟩
  have h3ren : ∀ j p, ι' j = some p → ι3 (renB ids st.heap.length j) = some p := fun j p hp => by
    by_cases hj : j < ids.length
    · rw [renB_lt hj, h3in _ (nth_mem hj), idxN_nth hnd hj]; exact hp
    · rw [renB_ge (by omega), h3new _ (fun hin => by have := hidlt _ hin; omega) (by omega)]
      rw [← hp]; congr 1; omega
  -- where the blocks of the callee lie
  have hI' : ∀ c, ι'.I c → (∃ b o s, b ∈ ids ∧ ι b = some (c, o, s)) ∨ w.heap.size ≤ c := fun c hc => (hnew c hc).imp (hIc c) id
  have hnoflat : flat = true → ∀ j, ι' j = none := fun hf j => by
    obtain ⟨_, e⟩ := hfl hf
    cases hq : ι' j with
    | none => rfl
    | some p =>
      obtain ⟨c, o, s⟩ := p
      obtain ⟨cs, ty, fz, _, _, _, hdd⟩ := hHR'.size hq
      rw [e] at hdd
      exact absurd rfl hdd
  have h3M : ∀ c, ι3.M c → (flat = false → ι'.M c) := by
    intro c hc hf
    rcases hc with ⟨b, o, s, hb⟩ | hX
    · rcases h3cases b _ hb with ⟨j, hj, _⟩ | ⟨g1, g2, g3, g4⟩
      · exact .inl ⟨j, o, s, hj⟩
      · right; rw [hXc']; exact .inr ⟨hf, b, o, s, g1, g3, g4⟩
    · right; rw [hXc']; exact .inl hX
  have hL3 : Later ι.M w w' ι3.M := by
    refine ⟨fun c x hc hx => hkeep c x (fun hIcc => ?_) hx, fun c hc => ?_, hgrow⟩
    · obtain ⟨b, o, s, _, hb⟩ := hIc c hIcc
      exact hc (.inl ⟨b, o, s, hb⟩)
    · rcases hc with ⟨b, o, s, hb⟩ | hX
      · rcases h3cases b _ hb with ⟨j, hj, _⟩ | ⟨g1, g2, g3, g4⟩
        · rcases hI' c ⟨j, o, s, hj⟩ with ⟨b', o', s', _, hb'⟩ | hge
          · exact .inl (.inl ⟨b', o', s', hb'⟩)
          · exact .inr hge
        · exact .inl (.inl ⟨b, o, s, g4⟩)
      · exact .inl (.inr hX)
  -- what led to blocks that stayed leads there still
  have hmvid : ∀ j, j < ids.length → nth 0 ids j ∉ nthIds ids mv → memN mv j = false := by
    intro j hj hn
    rw [memN_false]
    intro hin
    apply hn
    have : ∀ l : List Nat, j ∈ l → nth 0 ids j ∈ nthIds ids l := by
      intro l
      induction l with
      | nil => intro h; cases h
      | cons x r ih =>
        intro h
        rcases List.mem_cons.1 h with e | h
        · subst e; simp [nthIds]
        · simp [nthIds, ih h]
    exact this mv hin
  have hkeepι : ∀ b, b ∉ fr ++ nthIds ids mv → ∀ p, ι b = some p → ι3 b = some p := by
    intro b hb p hp
    simp only [List.mem_append, not_or] at hb
    have hlt : b < st.heap.length := by
      rcases Nat.lt_or_ge b st.heap.length with h1 | h1
      · exact h1
      · rw [hbig b h1] at hp; cases hp
    by_cases h1 : b ∈ ids
    · obtain ⟨g1, g2⟩ := idxN_spec h1
      rw [h3in b h1, hfix _ (by omega) (hmvid _ g1 (by rw [g2]; exact hb.2)), hιc _ g1, g2]
      exact hp
    · rw [h3old b h1 hlt hb.1]; exact hp
  -- the heap behind the call
  have hheaplen : (killAll (nthIds ids mv) (dropAll fr st)).heap.length = st.heap.length := by rw [killAll_len, dropAll_len]
  have hnth3 := fun b => backH_nth (killAll (nthIds ids mv) (dropAll fr st)).heap ids (renH ids st.heap.length H') b hnd (fun i hi => by rw [hheaplen]; exact hidlt i hi) (by rw [renH_len]; omega)
  have hother : ∀ b c o s, b ∉ ids → ι b = some (c, o, s) → ∀ o' s' j, ι' j = some (c, o', s') → False := by
    intro b c o s hb hbi o' s' j hj
    rcases hI' c ⟨j, o', s', hj⟩ with ⟨b', o2, s2, g1, g2⟩ | hge
    · have := hr.mem.hr.inj _ _ _ _ _ _ _ hbi g2
      exact hb (this ▸ g1)
    · have := hr.mem.hr.lt ⟨b, o, s, hbi⟩; omega
  have hRA3 : ∀ x u, RA w' ι' x u → (flat = false ∨ flatV x = true) → RA w' ι3 (AV.ren ids st.heap.length x) u := by
    intro x u hx hor
    cases hfl' : flat with
    | true => exact hx.flat (hor.resolve_left (by simp [hfl'])) _ _
    | false => exact RA.ren h3ren (fun c hc => h3M c hc hfl') hx
  have hmem3 : Mem cx ι3 (backH (killAll (nthIds ids mv) (dropAll fr st)).heap ids (renH ids st.heap.length H')) w' := by
    refine ⟨⟨fun b => ?_, fun b1 b2 c o1 s1 o2 s2 g1 g2 => ?_, fun b c o s g1 => ?_⟩, hr.mem.xl, hr.mem.xe, fun c hc => ?_, fun c hc hlt => ?_, Nat.le_trans hr.mem.gr hgrow,
      ⟨hos.1.trans hr.mem.os.1, hos.2.trans hr.mem.os.2⟩, fun b hb => ?_, ?_⟩
    · rw [hnth3 b, hheaplen]
      -- a block of the callee's, seen by the caller
      have callee : ∀ j, (flat = true → False) → RB w' ι3 (ι' j) ((nth .dead H' j).ren ids st.heap.length) := by
        intro j hf
        have hf' : flat = false := by cases hq : flat; rfl; exact absurd hq hf
        have hrb := hHR'.blk j
        have hL' : Later ι'.M w' w' ι3.M := ⟨fun _ _ _ h => h, fun c hc => .inl (h3M c hc hf'), Nat.le_refl _⟩
        cases hbk : nth .dead H' j with
        | dead => rw [hbk] at hrb; exact hrb
        | mx cells =>
          rw [hbk] at hrb
          obtain ⟨c, o, s, cs, ty, fz, hp, q1, q2, q3, q4, q5⟩ := hrb
          refine ⟨c, o, s, cs, ty, fz, hp, q1, q2, q3, by rw [renL_len]; exact q4, fun i x hx => ?_⟩
          rw [renL_get] at hx
          obtain ⟨z, hz, rfl⟩ := Option.map_eq_some_iff.1 hx
          obtain ⟨u, p1, p2, p3⟩ := q5 i z hz
          exact ⟨u, p1, p2, hRA3 z u p3 (.inl hf')⟩
        | pr wd rows =>
          rw [hbk] at hrb
          rcases hrb with h0 | ⟨c, o, s, cs, ty, fz, hp, q1, q2, q3, q4, q5, q6⟩
          · exact .inl h0
          · refine .inr ⟨c, o, s, cs, ty, fz, hp, q1, q2, q3, q4, q5, fun i row j x hi hx => ?_⟩
            obtain ⟨p1, u, p2, p3⟩ := q6 i row j x hi hx
            exact ⟨p1, u, p2, p3.later hL'⟩
      by_cases h1 : b ∈ ids
      · rw [if_pos h1, h3in b h1, renH_nth]
        exact callee _ fun hf => by rw [(hflatn hf).1] at h1; cases h1
      · rw [if_neg h1]
        by_cases h2 : st.heap.length ≤ b
        · rw [if_pos h2, h3new b h1 h2, renH_nth]
          cases hfq : flat with
          | true => rw [hnoflat hfq, (hfl hfq).2]; rfl
          | false => exact callee _ (by simp [hfq])
        · rw [if_neg h2, killAll_nth, dropAll_nth fr st hfrb]
          by_cases h4 : b ∈ fr
          · rw [if_pos h4, bkills_dead, h3fr b h1 (by omega) h4]; rfl
          · rw [if_neg h4, ← bkills_append, h3old b h1 (by omega) h4]
            refine (hr.mem.hr.blk b).kills hL3 hkeepι fun c o s hb => ?_
            obtain ⟨cs, ty, fz, q1, _⟩ := hr.mem.hr.size hb
            rw [q1]
            refine hkeep c _ (fun hIcc => ?_) q1
            obtain ⟨b', o', s', g1, g2⟩ := hIc c hIcc
            have := hr.mem.hr.inj _ _ _ _ _ _ _ hb g2
            exact h1 (this ▸ g1)
    · rcases h3cases b1 _ g1 with ⟨j1, q1, e1⟩ | ⟨q1, q2, q3, q4⟩
      · rcases h3cases b2 _ g2 with ⟨j2, p1, e2⟩ | ⟨p1, p2, p3, p4⟩
        · have := hHR'.inj _ _ _ _ _ _ _ q1 p1
          rw [e1, e2, this]
        · exact (hother _ _ _ _ p1 p4 _ _ _ q1).elim
      · rcases h3cases b2 _ g2 with ⟨j2, p1, e2⟩ | ⟨p1, p2, p3, p4⟩
        · exact (hother _ _ _ _ q1 q4 _ _ _ p1).elim
        · exact hr.mem.hr.inj _ _ _ _ _ _ _ q4 p4
    · rcases h3cases b _ g1 with ⟨j1, q1, e1⟩ | ⟨q1, q2, q3, q4⟩
      · intro hX
        have := hHR'.dis _ _ _ _ q1
        rw [hXc'] at this
        exact this (.inl hX)
      · exact hr.mem.hr.dis _ _ _ _ q4
    · obtain ⟨b, o, s, hb⟩ := hc
      rcases h3cases b _ hb with ⟨j1, q1, e1⟩ | ⟨q1, q2, q3, q4⟩
      · rcases hI' c ⟨j1, o, s, q1⟩ with ⟨b', o', s', _, g2⟩ | hge
        · exact hr.mem.ow c ⟨b', o', s', g2⟩
        · exact .inr (Nat.le_trans hr.mem.gr hge)
      · exact hr.mem.ow c ⟨b, o, s, q4⟩
    · have h1 := hr.mem.fr c hc hlt
      have h2 : cx.w0.heap[c]? = some cx.w0.heap[c] := Array.getElem?_eq_getElem hlt
      rw [h2] at h1 ⊢
      refine hkeep c _ (fun hIcc => ?_) h1
      obtain ⟨b', o', s', _, g2⟩ := hIc c hIcc
      rcases hr.mem.ow c ⟨b', o', s', g2⟩ with h | h
      · exact hc h
      · omega
    · have hblt : b < st.heap.length := Nat.lt_of_lt_of_le (cx.fk b hb) hr.mem.kl
      rw [← hr.mem.fx b hb]
      by_cases h1 : b ∈ ids
      · obtain ⟨g1, g2⟩ := idxN_spec h1
        rw [h3in b h1, hfix _ (by omega) (hmvid _ g1 (by rw [g2]; intro hin; have := hfx1 _ hin; rw [hb] at this; cases this)), hιc _ g1, g2]
      · rw [h3old b h1 hblt (fun hin => by have := hfx2 _ hin; rw [hb] at this; cases this)]
    · rw [backH_len _ _ _ (by rw [renH_len]; omega), hheaplen]
      exact Nat.le_trans hr.mem.kl (Nat.le_add_right _ _)
  have htm : ∀ s, RA w' ι3 (lk (killAll (nthIds ids mv) (dropAll fr st)).tmps s) (a.tmps.getD s undef) := fun s => by
    rw [killAll_lk, dropAll_lk, ← kills_append]
    exact (hr.tm s).kills hL3 hkeepι
  have hres : RA w' ι3 (AV.ren ids st.heap.length r) v := hRA3 r v hRA' (by
    cases hfq : flat with
    | true => exact .inr (hfl hfq).1
    | false => exact .inl rfl)
  refine ⟨⟨ι3, _, Rel.put (st := ⟨(killAll (nthIds ids mv) (dropAll fr st)).tmps, backH (killAll (nthIds ids mv) (dropAll fr st)).heap ids (renH ids st.heap.length H')⟩) ⟨hmem3, htm, hr.sz, hr.df⟩ hd hres, hkk⟩, fun hqt => ?_⟩
  intro c x hx
  refine hkeep c x (fun hIcc => ?_) hx
  obtain ⟨b', o', s', g1, _⟩ := hIc c hIcc
  rw [hqt] at hq
  cases ids with
  | nil => cases g1
  | cons y r => simp [isNil] at hq

end
end Hk
