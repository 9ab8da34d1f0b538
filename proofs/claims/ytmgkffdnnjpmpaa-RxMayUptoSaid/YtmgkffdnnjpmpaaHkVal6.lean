/- Hk, part 9: every operation that only reckons or reads does what its condition says. -/
import Derived.Test.YtmgkffdnnjpmpaaHkVal5
namespace Hk
open Go
set_option linter.unusedVariables false
set_option linter.unusedSimpArgs false

section
variable {P : Program} {ι : Inj} {st : St} {a : Act} {w : World}

theorem agg_plain {M : Nat → Prop} {cells : List PV} {v : Value} (h : RP w M (.agg cells) v) (hp : ∀ x ∈ cells, plainC x = true) : v = .agg (cells.map valOf).toArray := by
  obtain ⟨cs, rfl, hl, hone, hr⟩ := RP_agg h
  congr 1
  apply Array.ext'
  apply List.ext_getElem?
  intro i
  by_cases hi : i < cells.length
  · have h1 := plain_val (hr i cells[i] (List.getElem?_eq_getElem hi)) (hp _ (List.getElem_mem hi))
    have hi' : i < cs.size := by omega
    simp [hi, hi'] at h1 ⊢
    exact h1
  · simp [hi, List.getElem?_eq_none, hl]

theorem cmpa_sound {x y : AV} {v u : Value} (hx : RA w ι x v) (hy : RA w ι y u) {op : BinOp} {neg : Bool} (hop : (op = .eql ∧ neg = false) ∨ (op = .neq ∧ neg = true)) {t : TypeId} {ks : List CK}
    (hk : plainK P 20 t = some ks) (hag : aggT P t = some true) (hg : P.eqGuardType P.depth t = false) {k : AV → Prop} {xo yo : Operand}
    (h : vcmpa neg ks x y k) :
    Vals P w ι k (do eqGuard op t xo yo v u; binOp op t v u) := by
  unfold vcmpa at h
  split at h
  · rename_i as bs
    obtain ⟨hp, h⟩ := h
    obtain ⟨_, _, hpa, hpb⟩ := plainCells_C hp
    cases hx
    rename_i hx
    cases hy
    rename_i hy
    rw [agg_plain hx hpa, agg_plain hy hpb]
    have heq := equalIn_plain 20 t ks hk 10000 (by omega) as bs hp
    simp only [valT, hag] at heq
    refine .mk h (.p (.b _)) fun w' _ => ?_
    rw [Sem.run_bind, run_eqGuard_agg w' op t xo yo _ _ hg]
    rcases hop with ⟨rfl, rfl⟩ | ⟨rfl, rfl⟩
    · simp only [Result.andThen_ok, run_eql_struct, heq, cond_false]
    · simp only [Result.andThen_ok, run_neq_struct, heq, cond_true]
  · exact h.elim

theorem cmpb_sound {x y : AV} {v u : Value} (hx : RA w ι x v) (hy : RA w ι y u) {op : BinOp} {neg : Bool} (hop : (op = .eql ∧ neg = false) ∨ (op = .neq ∧ neg = true)) {t : TypeId}
    (ht : P.underlying t = some .bool) {k : AV → Prop} {xo yo : Operand}
    (h : vcmpb neg x y k) :
    Vals P w ι k (do eqGuard op t xo yo v u; binOp op t v u) := by
  unfold vcmpb at h
  split at h
  · rename_i x0 y0
    rw [RA_b hx, RA_b hy]
    have e : ∀ w', (Op.equal t (.bool x0) (.bool y0)).run P w' = .ok (x0 == y0) w' := fun w' => run_equalIn_bool' w' 9999 t x0 y0 ht
    refine .mk h (.p (.b _)) fun w' _ => ?_
    rcases hop with ⟨rfl, rfl⟩ | ⟨rfl, rfl⟩ <;> simp [eqGuard, Go.binOp, e]
  · exact h.elim

theorem equal_pp {t e : TypeId} (ht : P.underlying t = some (.pointer e)) (x : Option Addr) (w : World) : (Op.equal t (.pointer x) (.pointer none)).run P w = .ok x.isNone w := by
  have h : ∀ d, (Op.equalIn (d + 1) t (.pointer x) (.pointer none)).run P w = .ok x.isNone w := fun d => by
    cases x <;> simp [Op.equalIn, run_underlying ht]
  exact h 9999

theorem cmpp_sound {x y : AV} {v u : Value} (hx : RA w ι x v) (hy : RA w ι y u) {op : BinOp} {neg : Bool} (hop : (op = .eql ∧ neg = false) ∨ (op = .neq ∧ neg = true)) {t e : TypeId}
    (ht : P.underlying t = some (.pointer e)) {k : AV → Prop} {xo yo : Operand}
    (h : vcmpp neg x y k) :
    Vals P w ι k (do eqGuard op t xo yo v u; binOp op t v u) := by
  unfold vcmpp at h
  split at h
  · rw [RA_lit hx, RA_lit hy]
    refine .mk h (.p (.b _)) fun w' _ => ?_
    rcases hop with ⟨rfl, rfl⟩ | ⟨rfl, rfl⟩ <;> simp [eqGuard, Go.binOp, equal_pp ht]
  · rw [RA_lit hy]
    cases hx
    refine .mk h (.p (.b _)) fun w' _ => ?_
    rcases hop with ⟨rfl, rfl⟩ | ⟨rfl, rfl⟩ <;> simp [eqGuard, Go.binOp, equal_pp ht]
  · rw [RA_lit hy]
    cases hx
    rename_i hx
    cases hx
    refine .mk h (.p (.b _)) fun w' _ => ?_
    rcases hop with ⟨rfl, rfl⟩ | ⟨rfl, rfl⟩ <;> simp [eqGuard, Go.binOp, equal_pp ht]
  · exact h.elim

theorem vun_sound {x : AV} {v : Value} (hx : RA w ι x v) {op : UnOp} {k : AV → Prop} (h : vun op x k) : Vals P w ι k (Op.unary op v) := by
  unfold vun at h
  split at h
  · rw [RA_int hx]; exact .mk h (.p (.int _ _)) fun w' _ => by simp [Op.unary, Op.intArith, intAr]
  · rw [RA_int hx]; exact .mk h (.p (.int _ _)) fun w' _ => by simp [Op.unary, Op.intBits, intAr]
  · rw [RA_b hx]; exact .mk h (.p (.b _)) fun w' _ => by simp [Op.unary]
  · exact h.elim

theorem vext_sound {x : AV} {v : Value} (hx : RA w ι x v) {i : Nat} {k : AV → Prop} (h : vext x i k) : Vals P w ι k (Instr.extract v i) := by
  unfold vext at h
  split at h
  · rename_i l
    cases hb : Nat.blt i l.length with
    | false => rw [hb] at h; exact h.elim
    | true =>
      rw [hb] at h
      simp only [cond_true] at h
      have hlt : i < l.length := by simpa [Nat.blt_eq] using hb
      have e : nth .undef l i = l[i] := by rw [nth_eq, List.getElem?_eq_getElem hlt]; rfl
      rw [e] at h
      cases hx with
      | tup hl hr =>
        refine .mk (force_of h) (hr i _ (List.getElem?_eq_getElem hlt)) fun w' _ => ?_
        simp [Instr.extract, hl, hlt]
  · exact h.elim

theorem mm_sound {x y : AV} {v u : Value} (hx : RA w ι x v) (hy : RA w ι y u) {isMax : Bool} {k : AV → Prop} {ts : Array TypeId} {ty : TypeId}
    (h : vmm isMax x y k) :
    Vals P w ι k (if isMax then Builtin.max_ ts ty #[v, u] else Builtin.min_ ts ty #[v, u]) := by
  unfold vmm at h
  split at h
  · rename_i kk n kb m
    obtain ⟨_, h⟩ := sameK_of h
    rw [RA_int hx, RA_int hy]
    cases isMax with
    | true =>
      refine .mk h (.p (.int _ _)) fun w' _ => ?_
      simp only [if_true, Builtin.max_, List.foldlM_cons, List.foldlM_nil, Builtin.max2, Sem.run_bind, Sem.run_pure, Result.andThen_ok, cond_true]
      congr 2
      by_cases h1 : n < m
      · rw [if_pos h1]; omega
      · rw [if_neg h1]; omega
    | false =>
      refine .mk h (.p (.int _ _)) fun w' _ => ?_
      simp only [Bool.false_eq_true, if_false, Builtin.min_, List.foldlM_cons, List.foldlM_nil, Builtin.min2, Sem.run_bind, Sem.run_pure, Result.andThen_ok, cond_false]
      congr 2
      by_cases h1 : m < n
      · rw [if_pos h1]; omega
      · rw [if_neg h1]; omega
  · exact h.elim

theorem mkfn_sound (tm : ∀ s, RA w ι (lk st.tmps s) (a.tmps.getD s undef)) {f : Nat} {first cap : Array Operand} {fl cl : List Opd} (hf : cOpds first.toList = some fl) (hc : cOpds cap.toList = some cl)
    {k : AV → Prop} (h : vmkfn f (evL st fl) (evL st cl) k) :
    Vals P w ι k (Instr.makeFunc (.func f) (first.map a.eval) (cap.map a.eval)) := by
  obtain ⟨l1, h1⟩ := evL_sound tm hf
  obtain ⟨l2, h2⟩ := evL_sound tm hc
  have e1 : (first.toList.map a.eval).toArray = first.map a.eval := by apply Array.ext'; simp
  have e2 : (cap.toList.map a.eval).toArray = cap.map a.eval := by apply Array.ext'; simp
  rw [e1] at h1
  rw [e2] at h2
  have hrun : ∀ w', (Instr.makeFunc (.func f) (first.map a.eval) (cap.map a.eval)).run P w' = .ok (.func (.func f) (first.map a.eval) (cap.map a.eval)) w' := fun w' => rfl
  unfold vmkfn at h
  split at h
  · rename_i as cs ha hcc
    have ea := allP_eq ha
    have ec := allP_eq hcc
    refine .mk h (.p (.fn ?_ ?_ (fun i x hx => ?_) (fun i x hx => ?_))) fun w' _ => hrun w'
    · have := congrArg List.length ea; simp at this l1 ⊢; omega
    · have := congrArg List.length ec; simp at this l2 ⊢; omega
    · have := h1 i (.p x) (by rw [ea]; simp [hx])
      cases this; assumption
    · have := h2 i (.p x) (by rw [ec]; simp [hx])
      cases this; assumption
  · exact .mk h (.fn (by simp at l1 ⊢; omega) (by simp at l2 ⊢; omega) h1 h2) fun w' _ => hrun w'

theorem RA_p {x : PV} {v : Value} (h : RA w ι (.p x) v) : RP w ι.M x v := by
  cases h; assumption

theorem vnil_sound {x : AV} {v : Value} (hx : RA w ι x v) {k : AV → Prop} (h : vnil x k) : k x ∧ ((∃ a, v = .pointer (some a)) ∨ ∃ f fa ca, v = .func (.func f) fa ca) := by
  unfold vnil at h
  split at h
  · cases hx; exact ⟨h, .inl ⟨_, rfl⟩⟩
  · cases hx; rename_i hx; cases hx; exact ⟨h, .inl ⟨_, rfl⟩⟩
  · cases hx; rename_i hx; cases hx; exact ⟨h, .inr ⟨_, _, _, rfl⟩⟩
  · cases hx; exact ⟨h, .inr ⟨_, _, _, rfl⟩⟩
  · exact h.elim

theorem vconvI_sound {x : AV} {v : Value} (hx : RA w ι x v) {kk kj : IntKind} {k : AV → Prop} (h : vconvI kk x k) {s d : TypeId} (hs : P.underlying s = some (.int kj)) (hd : P.underlying d = some (.int kk)) :
    Vals P w ι k (convert s d v) := by
  unfold vconvI at h
  split at h
  · rw [RA_int hx]
    exact .mk h (.p (.int _ _)) fun w' _ => by simp [convert, run_underlying hs, run_underlying hd, Conv.intToInt]
  · exact h.elim

/-- The run of an operation that yields a value. -/
def OpVals (P : Program) (w : World) (ι : Inj) (k : AV → Prop) (s : Sem Next) : Prop :=
  ∃ av v, k av ∧ RA w ι av v ∧ ∀ w', Ext w w' → s.run P w' = .ok (.value v) w'

theorem OpVals.of {k : AV → Prop} {s : Sem Value} (h : Vals P w ι k s) : OpVals P w ι k (do pure (.value (← s))) := by
  obtain ⟨av, v, h1, h2, h3⟩ := h
  exact ⟨av, v, h1, h2, fun w' hw' => by simp [h3 w' hw']⟩

theorem vval_sound (tm : ∀ s, RA w ι (lk st.tmps s) (a.tmps.getD s undef)) (hr : HRel ι st.heap w) {o : Oper} {ro : RO} (hc : cop P o = some ro) {k : AV → Prop} (h : vval ro st k) :
    OpVals P w ι k (execOp a.eval o) := by
  unfold cop at hc
  split at hc
  case h_1 x ho =>
    obtain ⟨x', hx, rfl⟩ := Option.map_eq_some_iff.1 hc
    rw [execOp, ho]
    exact ⟨_, _, force_of h, ev_sound tm hx, fun w' _ => rfl⟩
  case h_2 x ho =>
    obtain ⟨x', hx, rfl⟩ := Option.map_eq_some_iff.1 hc
    rw [execOp, ho]
    exact ⟨_, _, force_of h, ev_sound tm hx, fun w' _ => rfl⟩
  case h_3 c p q ho =>
    split at hc
    · rename_i c' p' q' h1 h2 h3
      cases hc
      rw [execOp, ho]
      have hcv := ev_sound tm h1
      have h : vpick (ev st c') (ev st p') (ev st q') k := h
      unfold vpick at h
      split at h
      · rename_i b hb
        rw [hb] at hcv
        have h := bk_of h
        cases b with
        | true => exact ⟨_, _, force_of h, ev_sound tm h2, fun w' _ => by simp [RA_b hcv, asBool]⟩
        | false => exact ⟨_, _, force_of h, ev_sound tm h3, fun w' _ => by simp [RA_b hcv, asBool]⟩
      · exact h.elim
    · cases hc
  case h_4 op t x y yt ho =>
    split at hc
    · rename_i x' y' h1 h2
      rw [execOp, ho]
      have hx := ev_sound tm h1
      have hy := ev_sound tm h2
      refine .of ?_
      unfold cBin at hc
      split at hc
      · cases hc
        exact vbin_sound hx hy (force_of (k := fun y => vbin op _ y k) (force_of (k := fun x => force (ev st y') fun y => vbin op x y k) h))
      · cases hc
        exact vbin_sound hx hy (force_of (k := fun y => vbin op _ y k) (force_of (k := fun x => force (ev st y') fun y => vbin op x y k) h))
      · rename_i ht
        split at hc
        · cases hc; exact cmpb_sound hx hy (.inl ⟨rfl, rfl⟩) ht h
        · cases hc; exact cmpb_sound hx hy (.inr ⟨rfl, rfl⟩) ht h
        · cases hc
      · rename_i e ht
        split at hc
        · cases hc
        · split at hc
          · cases hc; exact cmpp_sound hx hy (.inl ⟨rfl, rfl⟩) ht h
          · cases hc; exact cmpp_sound hx hy (.inr ⟨rfl, rfl⟩) ht h
          · cases hc
      · rename_i fs ht
        split at hc
        · rename_i ks hk
          split at hc
          · rename_i hg
            split at hc
            · cases hc; exact cmpa_sound hx hy (.inl ⟨rfl, rfl⟩) hk (by simp [aggT, ht]) hg h
            · cases hc; exact cmpa_sound hx hy (.inr ⟨rfl, rfl⟩) hk (by simp [aggT, ht]) hg h
            · cases hc
          · cases hc
        · cases hc
      · rename_i n e ht
        split at hc
        · rename_i ks hk
          split at hc
          · rename_i hg
            split at hc
            · cases hc; exact cmpa_sound hx hy (.inl ⟨rfl, rfl⟩) hk (by simp [aggT, ht]) hg h
            · cases hc; exact cmpa_sound hx hy (.inr ⟨rfl, rfl⟩) hk (by simp [aggT, ht]) hg h
            · cases hc
          · cases hc
        · cases hc
      · cases hc
    · cases hc
  case h_5 op t x ho =>
    obtain ⟨x', hx, rfl⟩ := Option.map_eq_some_iff.1 hc
    rw [execOp, ho]
    exact .of (vun_sound (ev_sound tm hx) h)
  case h_6 => obtain ⟨x', hx, rfl⟩ := Option.map_eq_some_iff.1 hc; exact h.elim
  case h_7 =>
    split at hc
    · cases hc; exact h.elim
    · cases hc
  case h_8 t parts ho =>
    rw [execOp, ho]
    split at hc
    · rename_i fs z hu hz
      split at hc
      · rename_i hall
        obtain ⟨ps, hp, rfl⟩ := Option.map_eq_some_iff.1 hc
        exact .of (build_sound tm hz (.inl ⟨fs, hu, hall, hp⟩) h)
      · cases hc
    · rename_i n e z hu hz
      split at hc
      · rename_i s hs
        obtain ⟨ps, hp, rfl⟩ := Option.map_eq_some_iff.1 hc
        exact .of (build_sound tm hz (.inr ⟨n, e, s, hu, hs, hp⟩) h)
      · cases hc
    · cases hc
  case h_9 =>
    split at hc
    · split at hc
      · split at hc
        · cases hc; exact h.elim
        · cases hc
      · cases hc
    · cases hc
  case h_10 t x ho =>
    split at hc
    · rename_i x' s g hx hs hg
      cases hc
      rw [execOp, ho]
      exact .of (vload_sound hr (ev_sound tm hx) (force_of (k := fun a => vload st.heap a s g k) h) hs hg)
    · cases hc
  case h_11 =>
    split at hc
    · cases hc; exact h.elim
    · cases hc
  case h_12 x ho =>
    obtain ⟨x', hx, rfl⟩ := Option.map_eq_some_iff.1 hc
    rw [execOp, ho]
    have hv := ev_sound tm hx
    obtain ⟨hk, hn⟩ := vnil_sound hv h
    refine ⟨_, _, hk, hv, fun w' _ => ?_⟩
    rcases hn with ⟨ad, hn⟩ | ⟨f, fa, ca, hn⟩
    · simp only [hn]; rfl
    · simp only [hn]; rfl
  case h_13 t x f ho =>
    rw [execOp, ho]
    split at hc
    · rename_i fs x' hu hx
      split at hc
      · rename_i fd hf
        split at hc
        · rename_i n hs
          cases hc
          exact .of (vfadr_sound (ev_sound tm hx) h hu hf hs)
        · cases hc
      · cases hc
    · cases hc
  case h_14 t x f ho =>
    rw [execOp, ho]
    split at hc
    · rename_i fs x' hu hx
      split at hc
      · rename_i fd hf
        split at hc
        · rename_i n g hs hg
          cases hc
          exact .of (vfld_sound (ev_sound tm hx) h hu hf hs hg)
        · cases hc
      · cases hc
    · cases hc
  case h_15 t x i ho =>
    rw [execOp, ho]
    split at hc
    · rename_i n e x' i' hu hx hi
      obtain ⟨s, hs, rfl⟩ := Option.map_eq_some_iff.1 hc
      exact .of (vidxA_sound (ev_sound tm hx) (ev_sound tm hi) h hu hs)
    · rename_i e x' i' hu hx hi
      obtain ⟨s, hs, rfl⟩ := Option.map_eq_some_iff.1 hc
      exact .of (vidxS_sound (ev_sound tm hx) (ev_sound tm hi) (force_of (k := fun x => vidxS x (ev st i') s k) h) hu hs)
    · cases hc
  case h_16 t x i ho =>
    rw [execOp, ho]
    split at hc
    · rename_i n e x' i' hu hx hi
      split at hc
      · rename_i s g hs hg
        cases hc
        exact .of (vidxArr_sound (ev_sound tm hx) (ev_sound tm hi) h hu hs hg)
      · cases hc
    · rename_i x' i' hu hx hi
      cases hc
      exact .of (vidxStr_sound (ev_sound tm hx) (ev_sound tm hi) h hu)
    · cases hc
  case h_17 t x lo hi mx ho =>
    rw [execOp, ho]
    split at hc
    · rename_i n e x' lo' hi' mx' hu hx hl hh hm
      obtain ⟨s, hs, hc⟩ := Option.bind_eq_some_iff.1 hc
      split at hc
      · cases hc
      · rename_i hmh
        cases hc
        exact .of (vslcA_sound tm (ev_sound tm hx) hl hh hm (Bool.eq_false_iff.2 hmh) h hu hs)
    · rename_i e x' lo' hi' mx' hu hx hl hh hm
      obtain ⟨s, hs, hc⟩ := Option.bind_eq_some_iff.1 hc
      split at hc
      · cases hc
      · rename_i hmh
        cases hc
        exact .of (vslcS_sound tm (ev_sound tm hx) hl hh hm (Bool.eq_false_iff.2 hmh) (force_of (k := fun x => vslcS x (lo'.map (ev st)) (hi'.map (ev st)) (mx'.map (ev st)) s k) h) hu hs)
    · rename_i x' lo' hi' hu hx hl hh hm
      cases hc
      have : mx = none := by
        cases mx with
        | none => rfl
        | some m => simp only [cOpdO] at hm; obtain ⟨y, _, hy⟩ := Option.map_eq_some_iff.1 hm; cases hy
      subst this
      exact .of (vslcStr_sound tm (ev_sound tm hx) hl hh h hu)
    · cases hc
  case h_18 s d x ho =>
    rw [execOp, ho]
    split at hc
    · rename_i kj kk x' hs hd hx
      cases hc
      exact .of (vconvI_sound (ev_sound tm hx) h hs hd)
    · rename_i x' hs hd hx
      cases hc
      have hv := ev_sound tm hx
      refine .of ?_
      have h : vstrId (ev st x') k := h
      generalize ev st x' = y at h hv
      unfold vstrId at h
      split at h
      · rw [RA_str hv]
        exact .mk h (.p (.str _)) fun w' _ => by simp [convert, run_underlying hs, run_underlying hd]
      · exact h.elim
    · rename_i e x' hs hd hx
      split at hc
      · rename_i he
        cases hc
        exact .of (strOf_sound hr (ev_sound tm hx) (force_of (k := fun x => vslices st.heap x 1 fun rows => ∃ l : List UInt8, rows = l.map encByte ∧ k (.p (.str l))) h) hs he hd)
      · cases hc
    · split at hc
      · cases hc; exact h.elim
      · cases hc
    · cases hc
  case h_19 t x ho =>
    rw [execOp, ho]
    split at hc
    · cases hc
    · rename_i u x' hni hu hx
      cases hc
      have hv := ev_sound tm hx
      have h : vmkif t (ev st x') k := force_of (k := fun x => vmkif t x k) h
      have hrun : ∀ w', (Instr.makeInterface t (a.eval x)).run P w' = .ok (.iface t (a.eval x)) w' := fun w' => by
        simp only [Instr.makeInterface, Sem.run_bind, run_underlying hu, Result.andThen_ok]
        cases u <;> first | rfl | exact absurd rfl (hni _)
      refine .of ?_
      unfold vmkif at h
      split at h
      · rename_i z heq
        rw [heq] at hv
        exact .mk h (.p (.ifc (RA_p hv))) fun w' _ => hrun w'
      · exact .mk h (.ifc hv) fun w' _ => hrun w'
    · cases hc
  case h_20 f first cap ho =>
    rw [execOp, ho]
    split at hc
    · rename_i fl cl h1 h2
      cases hc
      exact .of (mkfn_sound tm h1 h2 h)
    · cases hc
  case h_21 =>
    split at hc
    · split at hc
      · split at hc
        · cases hc; exact h.elim
        · cases hc
      · cases hc
    · cases hc
  case h_22 x i ho =>
    obtain ⟨x', hx, rfl⟩ := Option.map_eq_some_iff.1 hc
    rw [execOp, ho]
    exact .of (vext_sound (ev_sound tm hx) h)
  case h_23 c ho =>
    split at hc
    · obtain ⟨l, _, rfl⟩ := Option.map_eq_some_iff.1 hc; exact h.elim
    · split at hc
      · cases hc; exact h.elim
      · cases hc
    · rename_i hcal
      split at hc
      · rename_i x t hargs htys
        have e1 : c.args = #[x] := by apply Array.ext'; simpa using hargs
        have e2 : c.argTypes = #[t] := by apply Array.ext'; simpa using htys
        rw [execOp, ho]
        simp only [resolve, hcal, e1, e2, invoke, builtin]
        split at hc
        · rename_i x' hu hx
          cases hc
          obtain ⟨av, v, h1, h2, h3⟩ := vlenStr_sound (ty := o.type) (ev_sound tm hx) h hu
          exact ⟨av, v, h1, h2, fun w' hw' => by
            have h4 := h3 w' hw'
            simp at h4 ⊢
            rw [h4]
            rfl⟩
        · rename_i e x' hu hx
          cases hc
          obtain ⟨av, v, h1, h2, h3⟩ := vlen_sound (ty := o.type) (ev_sound tm hx) h hu
          exact ⟨av, v, h1, h2, fun w' hw' => by
            have h4 := h3 w' hw'
            simp at h4 ⊢
            rw [h4]
            rfl⟩
        · cases hc
      · cases hc
    · split at hc
      · split at hc
        · split at hc
          · split at hc
            · cases hc; exact h.elim
            · cases hc
          · cases hc
        · split at hc
          · split at hc
            · cases hc; exact h.elim
            · cases hc
          · cases hc
        · cases hc
      · cases hc
    · split at hc
      · split at hc
        · obtain ⟨n, _, rfl⟩ := Option.map_eq_some_iff.1 hc; exact h.elim
        · cases hc
      · cases hc
    · rename_i hcal
      split at hc
      · rename_i x y hargs
        have e1 : c.args = #[x, y] := by apply Array.ext'; simpa using hargs
        rw [execOp, ho]
        simp only [resolve, hcal, e1, invoke, builtin]
        split at hc
        · rename_i x' y' hx hy
          cases hc
          obtain ⟨av, v, h1, h2, h3⟩ := mm_sound (P := P) (isMax := true) (ts := c.argTypes) (ty := o.type) (ev_sound tm hx) (ev_sound tm hy) h
          exact ⟨av, v, h1, h2, fun w' hw' => by
            have h4 := h3 w' hw'
            simp at h4 ⊢
            rw [h4]
            rfl⟩
        · cases hc
      · cases hc
    · rename_i hcal
      split at hc
      · rename_i x y hargs
        have e1 : c.args = #[x, y] := by apply Array.ext'; simpa using hargs
        rw [execOp, ho]
        simp only [resolve, hcal, e1, invoke, builtin]
        split at hc
        · rename_i x' y' hx hy
          cases hc
          obtain ⟨av, v, h1, h2, h3⟩ := mm_sound (P := P) (isMax := false) (ts := c.argTypes) (ty := o.type) (ev_sound tm hx) (ev_sound tm hy) h
          exact ⟨av, v, h1, h2, fun w' hw' => by
            have h4 := h3 w' hw'
            simp at h4 ⊢
            rw [h4]
            rfl⟩
        · cases hc
      · cases hc
    · cases hc
  case h_24 => cases hc

end
end Hk
