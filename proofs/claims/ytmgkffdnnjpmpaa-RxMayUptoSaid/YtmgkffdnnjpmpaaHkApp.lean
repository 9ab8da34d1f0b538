/- Hk, part 15: append and copy. -/
import Derived.Test.YtmgkffdnnjpmpaaHkEff4
namespace Hk
open Go
set_option linter.unusedVariables false
set_option linter.unusedSimpArgs false

/-- What is appended or copied: rows, their cells, how they are loaded. -/
structure Src (w : World) (M : Nat → Prop) (v : Value) (esz : Nat) (rows : List (List PV)) (vs : List Value) : Prop where
  vals : RowVals w M esz rows vs
  len : ∀ (P : Program) (w' : World), (Builtin.lenOf v).run P w' = .ok rows.length w'
  first : ∀ (P : Program) n (w' : World), n ≤ rows.length → Ext w w' → (Builtin.firstCells esz n v).run P w' = .ok (vs.take (n * esz)).toArray w'

section
variable {cx : Cx} {ι ι0 : Inj} {st : St} {a : Act} {w : World}

theorem RowsAt.src {v : Value} {esz : Nat} {rows : List (List PV)} (h : RowsAt w ι.M v esz rows) : ∃ vs, Src w ι.M v esz rows vs := by
  obtain ⟨vs, h1, h2⟩ := h.vals
  obtain ⟨oa, cap, rfl, _⟩ := h
  exact ⟨vs, h1, fun P w' => rfl, h2⟩

theorem vrows_src {h : List Blk} (hr : HRel ι h w) {x : AV} {v : Value} (hx : RA w ι x v) {esz : Nat} {k : List (List PV) → Prop} (hv : vrows h x esz k) :
    ∃ rows vs, k rows ∧ Src w ι.M v esz rows vs := by
  obtain ⟨rows, hk, h⟩ := vrows_sound hr hx hv
  rcases h with ⟨l, rfl, rfl, rfl, rfl⟩ | h
  · refine ⟨_, l.map fun b => .int .u8 b.toNat, hk, ⟨by simp, fun i row hi => ?_, fun i row j x hi hx => ?_⟩, fun P w' => ?_, fun P n w' hn _ => ?_⟩
    · simp at hi; obtain ⟨b, _, rfl⟩ := hi; rfl
    · simp at hi
      obtain ⟨b, hb, rfl⟩ := hi
      cases j with
      | zero => simp [encByte] at hx; subst hx; exact ⟨rfl, .int .u8 b.toNat, by simp [hb], .int _ _⟩
      | succ j => simp [encByte] at hx
    · simp [Builtin.lenOf]; rfl
    · simp only [Builtin.firstCells, bytes_extract, Sem.run_pure]
      congr 1
      apply Array.ext'
      simp [List.map_take]
  · obtain ⟨vs, hs⟩ := h.src
    exact ⟨rows, vs, hk, hs⟩

theorem growBy_le (need : Nat) (hn : 256 ≤ need) : ∀ (r c : Nat), c ≤ 2 * need → Builtin.growBy need r c ≤ 2 * need
  | 0, c, h => h
  | r + 1, c, h => by
    simp only [Builtin.growBy]
    split
    · exact h
    · exact growBy_le need hn r _ (by omega)

theorem nextslicecap_le {need old : Nat} (h : old < need) : Builtin.nextslicecap need old ≤ 2 * need := by
  unfold Builtin.nextslicecap
  split
  · omega
  · split
    · omega
    · exact growBy_le need (by omega) _ _ (by omega)

theorem run_grow {P : Program} {sT xT ty e : TypeId} {esz bytes sLen sCap n : Nat} {z : List PV} {base : Option Addr} {x : Value} {old new : List Value}
    (hu : P.underlying sT = some (.slice e)) (hxT : (∃ e', P.underlying xT = some (.slice e')) ∨ P.underlying xT = some .string) (hs : szT P e = some esz) (hb : bytesT P e = some bytes) (hz : zeroT P e = some z) (hzl : z.length = esz) (hpos : 0 < bytes)
    (hlen : ∀ w', (Builtin.lenOf x).run P w' = .ok n w') (hold : ∀ w', Ext w w' → (Builtin.firstCells esz sLen (.slice base sLen sCap)).run P w' = .ok old.toArray w') (hol : old.length = sLen * esz)
    (hnew : ∀ w', Ext w w' → (Builtin.firstCells esz n x).run P w' = .ok new.toArray w') (hnl : new.length = n * esz)
    (hneed : sCap < sLen + n) (hroom : (sLen + n) * bytes ≤ roomMost) :
    ∃ (w' : World) (cap : Nat) (rest : List Value), sLen + n ≤ cap ∧ w'.heap = w.heap.push (.cells (old ++ new ++ rest).toArray e (0, 0)) ∧ (w'.os = w.os ∧ w'.output = w.output) ∧ (old ++ new ++ rest).length = cap * esz ∧
      (Builtin.append_ #[sT, xT] ty #[.slice base sLen sCap, x]).run P w = .ok (.slice (some ⟨w.heap.size, 0, none⟩) (sLen + n) cap) w' := by
  obtain ⟨i0, v0, hi0, hz0, _, _, hzs⟩ := zeroT_sound (w := w) (ι := ⟨fun _ => none, fun _ => False⟩) hz
  have hb0 : i0.bytes = bytes := by unfold bytesT at hb; rw [hi0] at hb; simpa using hb
  let w1 : World := { w with drawn := w.drawn + 1 }
  have hext : Ext w w1 := fun c o h => h
  obtain ⟨cap, hcap, hcr⟩ : ∃ cap, sLen + n ≤ cap ∧ (choose (.appendCap (sLen + n) sCap e)).run P w = .ok cap w1 :=
    ⟨sLen + n + w.tape w.drawn (.appendCap (sLen + n) sCap e) % (2 ^ 63 - (sLen + n)), by omega, by simp only [run_choose, Question.forced, Bool.false_eq_true, if_false, Question.cut]; rfl⟩
  let rest : List Value := ((List.range ((cap - (sLen + n)) * v0.cells.size)).map fun i => v0.cells[i % v0.cells.size]!)
  have hrest : Builtin.zeroCells v0.cells (cap - (sLen + n)) = rest.toArray := by
    apply Array.ext'; simp [Builtin.zeroCells, rest]
  have hcapb : ¬ (Builtin.nextslicecap (sLen + n) sCap * bytes > 2 ^ 48) := by
    have h1 := nextslicecap_le hneed
    have h2 := Nat.mul_le_mul_right bytes h1
    rw [Nat.mul_assoc] at h2
    unfold roomMost at hroom
    omega
  refine ⟨{ w1 with heap := w.heap.push (.cells (old ++ new ++ rest).toArray e (0, 0)) }, cap, rest, hcap, rfl, ⟨rfl, rfl⟩, ?_, ?_⟩
  · simp only [List.length_append, hol, hnl, rest, List.length_map, List.length_range, hzs, hzl]
    rw [← Nat.add_mul, ← Nat.add_mul]
    congr 1
    omega
  · have h2 : ¬ sLen + n ≤ sCap := by omega
    have h3 : ¬ bytes = 0 := by omega
    have h4 := hold w1 hext
    have h5 := hnew w1 hext
    rcases hxT with ⟨e', hd⟩ | hd
    · simp only [Builtin.append_, List.getElem?_toArray, List.getElem?_cons_zero, List.getElem?_cons_succ, Sem.run_bind, run_underlying hu, run_underlying hd, Result.andThen_ok, run_sizeOf hs, Sem.run_pure,
        Bool.false_eq_true, if_false, hlen, if_neg h2, run_typeInfo hi0, hb0, h3, or_self, and_false, if_neg hcapb, hcr, run_askRoom, h4, h5, Bool.not_false, if_true, run_zeroValue hi0 hz0, hrest, newRow, run_newObj]
      congr 1
      simp [w1]
    · simp only [Builtin.append_, List.getElem?_toArray, List.getElem?_cons_zero, List.getElem?_cons_succ, Sem.run_bind, run_underlying hu, run_underlying hd, Result.andThen_ok, run_sizeOf hs, Sem.run_pure,
        Bool.false_eq_true, if_false, hlen, if_neg h2, run_typeInfo hi0, hb0, h3, or_self, and_false, if_neg hcapb, hcr, run_askRoom, h4, h5, Bool.not_false, if_true, run_zeroValue hi0 hz0, hrest, newRow, run_newObj]
      congr 1
      simp [w1]

theorem run_inplace {P : Program} {sT xT ty e : TypeId} {esz sLen sCap n : Nat} {base : Option Addr} {x : Value} {new : List Value}
    (hu : P.underlying sT = some (.slice e)) (hxT : (∃ e', P.underlying xT = some (.slice e')) ∨ P.underlying xT = some .string) (hs : szT P e = some esz)
    (hlen : ∀ w', (Builtin.lenOf x).run P w' = .ok n w') (hnew : ∀ w', Ext w w' → (Builtin.firstCells esz n x).run P w' = .ok new.toArray w') (hneed : sLen + n ≤ sCap) :
    (Builtin.append_ #[sT, xT] ty #[.slice base sLen sCap, x]).run P w =
      match base with
      | some a => ((storeCells (a.add (sLen * esz)) new).run P w).andThen fun _ w' => .ok (.slice base (sLen + n) sCap) w'
      | none => .ok (.slice base (sLen + n) sCap) w := by
  have h5 := hnew w (Ext.refl w)
  rcases hxT with ⟨e', hd⟩ | hd
  · cases base <;>
      simp only [Builtin.append_, List.getElem?_toArray, List.getElem?_cons_zero, List.getElem?_cons_succ, Sem.run_bind, run_underlying hu, run_underlying hd, Result.andThen_ok, run_sizeOf hs, Sem.run_pure,
        Bool.false_eq_true, if_false, hlen, if_pos hneed, h5, Bool.not_false, if_true]
  · cases base <;>
      simp only [Builtin.append_, List.getElem?_toArray, List.getElem?_cons_zero, List.getElem?_cons_succ, Sem.run_bind, run_underlying hu, run_underlying hd, Result.andThen_ok, run_sizeOf hs, Sem.run_pure,
        Bool.false_eq_true, if_false, hlen, if_pos hneed, h5, Bool.not_false, if_true]

/-- What an own slice holds. -/
theorem sl_rows {h : List Blk} (hr : HRel ι h w) {b wd i len : Nat} {cap : Option Nat} {v : Value} (hx : RA w ι (.sl b wd i len cap) v) {rows : List (List PV)} (hn : nth .dead h b = .pr wd rows)
    (hlen : i + len ≤ rows.length) : RowsAt w ι.M v wd ((rows.drop i).take len) := by
  have hl : ((rows.drop i).take len).length = len := by simp; omega
  cases hx with
  | sl hb hl' hcap hs' =>
    rename_i c o s cc
    refine ⟨_, _, by rw [hl], .inr ⟨_, rfl, rfl, fun n row hi => ?_⟩⟩
    have hi' : rows[i + n]? = some row := by
      rw [List.getElem?_take] at hi
      split at hi
      · rwa [List.getElem?_drop] at hi
      · cases hi
    obtain ⟨h1, h2⟩ := hr.row hb hn hi'
    exact ⟨h1, h2.later (by simp [Nat.add_mul, Nat.add_assoc])⟩
  | slz hcap => exact ⟨_, _, by rw [hl], .inl (List.eq_nil_of_length_eq_zero hl)⟩

theorem app_sound (hr : Rel cx ι st a w) {o : Oper} {s x : Operand} {s' x' : Opd} {sT xT e : TypeId} {esz bytes : Nat} {z : List PV} {c : Call} (ho : o.op = .call c) (hcal : c.callee = .builtin .append)
    (hargs : c.args = #[s, x]) (htys : c.argTypes = #[sT, xT])
    (hu : cx.P.underlying sT = some (.slice e)) (hxT : (∃ e', cx.P.underlying xT = some (.slice e')) ∨ cx.P.underlying xT = some .string) (hs : szT cx.P e = some esz) (hb : bytesT cx.P e = some bytes)
    (hz : zeroT cx.P e = some z) (hzl : z.length = esz) (hpos : 0 < bytes) (hesz : 0 < esz) (hcs : cOpd s = some s') (hcx : cOpd x = some x') (hd : ∀ t, o.dst = some t → t < cx.n)
    {k : St → Prop} (h : vro cx.E false (.app s' x' esz bytes) o.dst st k) {Q : Exit → Act → World → Prop} : o.wp cx.P a w (Kc cx k) Q := by
  have hsv := ev_sound hr.tm hcs
  have hxv := ev_sound hr.tm hcx
  have h : vapp cx.E st (ev st s') (ev st x') esz bytes o.dst k := force_of (k := fun x => vapp cx.E st (ev st s') x esz bytes o.dst k) (force_of (k := fun s => force (ev st x') fun x => vapp cx.E st s x esz bytes o.dst k) h)
  generalize ev st s' = as at h hsv
  generalize ev st x' = ax at h hxv
  have run : ∀ v w', (Builtin.append_ #[sT, xT] o.type #[a.eval s, a.eval x]).run cx.P w = .ok v w' → (execOp a.eval o).run cx.P w = .ok (.value v) w' := fun v w' h1 => by
    simp [execOp, ho, resolve, hcal, hargs, htys, invoke, builtin, h1]
  generalize hes : a.eval s = vs at hsv run
  generalize hex : a.eval x = vx at hxv run
  -- the value grown into a new block
  have grow : ∀ (old : List Value) (rold rnew : List (List PV)) (new : List Value) (base : Option Addr) (sLen sCap : Nat), vs = .slice base sLen sCap →
      RowVals w ι.M esz rold old → rold.length = sLen → (∀ w', Ext w w' → (Builtin.firstCells esz sLen (.slice base sLen sCap)).run cx.P w' = .ok old.toArray w') → Src w ι.M vx esz rnew new →
      sCap < sLen + rnew.length → (sLen + rnew.length) * bytes ≤ roomMost →
      ∃ (w' : World) (cs : Array Value) (cap : Nat), w'.heap = w.heap.push (.cells cs e (0, 0)) ∧ (w'.os = w.os ∧ w'.output = w.output) ∧ BlkAt w ι cs 0 (.pr esz (rold ++ rnew)) ∧
        sLen + rnew.length ≤ cap ∧ cap * esz = cs.size ∧ (execOp a.eval o).run cx.P w = .ok (.value (.slice (some ⟨w.heap.size, 0, none⟩) (sLen + rnew.length) cap)) w' := by
    intro old rold rnew new base sLen sCap hvs hold hol hfo hsrc hneed hroom
    subst hvs
    have hnl := hsrc.vals.1
    obtain ⟨w', cap, rest, h1, h2, h3, h4, h5⟩ := run_grow (w := w) (ty := o.type) (base := base) hu hxT hs hb hz hzl hpos (fun w' => hsrc.len cx.P w') hfo (by rw [hold.1, hol])
      (fun w' hw' => by have := hsrc.first cx.P rnew.length w' (Nat.le_refl _) hw'; rwa [← hnl, List.take_length] at this) hnl hneed hroom
    refine ⟨w', _, cap, h2, h3, ?_, h1, by rw [List.size_toArray]; exact h4.symm, run _ _ h5⟩
    exact (hold.append hsrc.vals).blk rest
  unfold vapp at h
  split at h
  · -- nothing yet
    rename_i wd
    obtain ⟨rnew, new, ⟨hroom, hk⟩, hsrc⟩ := vrows_src hr.mem.hr hxv h
    obtain ⟨oa, c0, hvs, hc, hcap, _⟩ := RP_isl (RA_p hsv)
    have hc0 : c0 = 0 := hcap 0 rfl
    subst hc0
    simp only [List.length_nil] at hvs
    by_cases hm : rnew.length = 0
    · -- and nothing more
      have hrn : rnew = [] := List.eq_nil_of_length_eq_zero hm
      subst hrn
      have hrun := run_inplace (w := w) (ty := o.type) (base := oa) (sLen := 0) (sCap := 0) hu hxT hs (fun w' => hsrc.len cx.P w') (fun w' hw' => hsrc.first cx.P 0 w' (Nat.le_refl _) hw') (by simp)
      have hrun2 : (execOp a.eval o).run cx.P w = .ok (.value (.slice oa 0 0)) w := by
        apply run
        rw [hvs, hrun]
        cases oa with
        | none => rfl
        | some ad => simp [storeCells]
      refine wp_value hrun2 ⟨ι, newSt st o.dst (.sl st.heap.length esz 0 0 none) (.pr esz []), ⟨?_, tm_put (st := ⟨st.tmps, st.heap ++ [Blk.pr esz []]⟩) hr.tm hr.sz hd (RA.slz (b := st.heap.length) (wd := esz) (i := 0) (cap := none) (oa := oa) (by simp)), by rw [Act.put_size]; exact hr.sz, by rw [Act.put_df]; exact hr.df⟩, hk⟩
      rw [newSt, put_heap]
      have hnone : ι st.heap.length = none := by
        cases hq : ι st.heap.length with
        | none => rfl
        | some q =>
          obtain ⟨c', o', s'⟩ := q
          obtain ⟨cs, ty, fz, _, _, _, hd⟩ := hr.mem.hr.size hq
          exact absurd (hr.mem.hr.blen hd) (Nat.lt_irrefl _)
      refine ⟨⟨fun b => ?_, hr.mem.hr.inj, hr.mem.hr.dis⟩, hr.mem.xl, hr.mem.xe, hr.mem.ow, hr.mem.fr, hr.mem.gr, hr.mem.os, hr.mem.fx, by rw [List.length_append]; exact Nat.le_trans hr.mem.kl (Nat.le_add_right _ _)⟩
      rw [nth_append_new]
      by_cases e : b = st.heap.length
      · rw [if_pos e, e, hnone]; exact .inl ⟨rfl, rfl⟩
      · rw [if_neg e]; exact hr.mem.hr.blk b
    · obtain ⟨w', cs, cap, h1, h2, h3, h4, h5, h6⟩ := grow [] [] rnew new oa 0 0 hvs ⟨by simp, by simp, by simp⟩ rfl (fun w' _ => by cases oa <;> simp [Builtin.firstCells, loadCells, loadCellsFrom]) hsrc (by omega) (by simpa using hroom)
      simp only [Nat.zero_add, List.nil_append] at *
      refine wp_value h6 (lay_sound' (q := false) hr hd h1 h2 (fun o _ h => by omega) h3 (fun ι2 h7 => ?_) hk).1
      have := RA.sl (w := w') (ι := ι2) (wd := esz) (i := 0) (len := rnew.length) (cc := cap) (cap := none) h7 h4 (by simp) (by simp [h5])
      simpa using this
  · -- a pure slice without room
    rename_i wd rows c0 hne
    obtain ⟨rnew, new, ⟨⟨hneed, hroom⟩, hk⟩, hsrc⟩ := vrows_src hr.mem.hr hxv h
    cases hw : Nat.beq wd esz with
    | false => rw [hw] at hk; exact hk.elim
    | true =>
      rw [hw] at hk
      obtain rfl := Nat.eq_of_beq_eq_true hw
      obtain ⟨oa, cc, hvs, hc, hcap, hrw⟩ := RP_isl (RA_p hsv)
      have hcc : cc = c0 := hcap c0 rfl
      subst hcc
      have hra : RowsAt w ι.M vs wd rows := ⟨oa, cc, hvs, hrw.imp id fun ⟨ad, h1, h2, h3, h4, h5⟩ => ⟨ad, h1, h2, h5⟩⟩
      obtain ⟨old, hso⟩ := hra.src
      obtain ⟨w', cs, cap, h1, h2, h3, h4, h5, h6⟩ := grow old rows rnew new oa rows.length cc hvs hso.vals rfl (fun w' hw' => by
        have := hso.first cx.P rows.length w' (Nat.le_refl _) hw'
        rw [← hso.vals.1, List.take_length, hvs] at this; exact this) hsrc hneed hroom
      refine wp_value h6 (lay_sound' (q := false) hr hd h1 h2 (fun o _ h => by omega) h3 (fun ι2 h7 => ?_) hk).1
      have := RA.sl (w := w') (ι := ι2) (wd := wd) (i := 0) (len := rows.length + rnew.length) (cc := cap) (cap := none) h7 h4 (by simp) (by simp [h5])
      simpa using this
  · -- a pure slice, nothing more
    rename_i wd rows
    obtain ⟨rnew, new, ⟨hrn, hk⟩, hsrc⟩ := vrows_src hr.mem.hr hxv h
    subst hrn
    obtain ⟨oa, cc, hvs, hc, hcap, hrw⟩ := RP_isl (RA_p hsv)
    have hrun := run_inplace (w := w) (ty := o.type) (base := oa) (sLen := rows.length) (sCap := cc) hu hxT hs (fun w' => hsrc.len cx.P w') (fun w' hw' => hsrc.first cx.P 0 w' (Nat.le_refl _) hw') (by simpa using hc)
    have hrun2 : (execOp a.eval o).run cx.P w = .ok (.value vs) w := by
      apply run
      rw [hvs, hrun]
      cases oa with
      | none => rfl
      | some ad => simp [storeCells]
    exact wp_value hrun2 ⟨ι, _, hr.put hd hsv, hk⟩
  · rename_i b wd i len cap0
    split at h
    · rename_i wd' rows hn
      cases hw : (Nat.beq wd wd' && Nat.beq wd esz && !cx.E.fx b) with
      | false => rw [hw] at h; exact h.elim
      | true =>
        rw [hw] at h
        simp only [cond_true] at h
        obtain ⟨⟨e1, e2⟩, hfx⟩ := by simpa using hw
        subst e1; subst e2
        obtain ⟨rnew, new, ⟨hfull, hroom, hk⟩, hsrc⟩ := vrows_src hr.mem.hr hxv h
        have hblt : b < st.heap.length := hr.mem.hr.blen (by rw [hn]; simp)
        have hra := sl_rows hr.mem.hr hsv hn (by omega)
        have etake : (rows.drop i).take len = rows.drop i := List.take_of_length_le (by simp; omega)
        rw [etake] at hra
        have hlen : (rows.drop i).length = len := by simp; omega
        rw [dropN_eq] at hk
        obtain ⟨old, hso⟩ := hra.src
        have hshape : ∃ base sCap, vs = .slice base len sCap ∧ len ≤ sCap := by
          cases hsv with
          | sl hb hl hcap hs' => exact ⟨_, _, rfl, hl⟩
          | slz hcap => exact ⟨_, _, rfl, Nat.le_refl _⟩
        obtain ⟨base, sCap, hvs, hls⟩ := hshape
        by_cases hneed : len + rnew.length ≤ sCap
        · -- in place
          have hrun := run_inplace (w := w) (ty := o.type) (base := base) (sLen := len) (sCap := sCap) hu hxT hs (fun w' => hsrc.len cx.P w')
            (fun w' hw' => by have := hsrc.first cx.P rnew.length w' (Nat.le_refl _) hw'; rw [← hsrc.vals.1, List.take_length] at this; exact this) hneed
          cases hsv with
          | slz hcap =>
            cases hvs
            have hm : rnew = [] := List.eq_nil_of_length_eq_zero (by omega)
            subst hm
            have hd0 : rows.drop i = [] := List.eq_nil_of_length_eq_zero hlen
            have hnew0 : new = [] := List.eq_nil_of_length_eq_zero (by rw [hsrc.vals.1]; simp)
            subst hnew0
            have hrun2 : (execOp a.eval o).run cx.P w = .ok (.value (.slice base 0 0)) w := by
              apply run
              rw [hrun]
              cases base with
              | none => rfl
              | some ad => simp [storeCells]
            obtain ⟨hm, hL⟩ := hr.mem.turn (w' := w) hblt hfx (p := none) (blk := .pr wd (rows.drop i ++ [])) (c := w.heap.size) (.inr (Nat.le_refl _)) (by simp) (fun _ _ _ h => h) (Nat.le_refl _) ⟨rfl, rfl⟩
              (fun _ => .inl ⟨rfl, by rw [hd0]; rfl⟩)
            have hι : ∀ b', b' ≠ b → ∀ q, ι b' = some q → (ι.upd b none) b' = some q := fun b' e q hq => by rw [Inj.upd_ne _ _ e]; exact hq
            exact wp_value hrun2 ⟨_, _, Rel.put (st := ⟨killT b st.tmps, setNth (killH b st.heap) b (.pr wd (rows.drop i ++ []))⟩) ⟨hm, tm_kill hL hι hr.tm, hr.sz, hr.df⟩ hd (.slz (cap := none) (by simp)), hk⟩
          | sl hb hl hcap hs' =>
            rename_i c o' s cc
            cases hvs
            have hrb := hr.mem.hr.blk b
            rw [hn, hb] at hrb
            obtain ⟨cs, ty, fz, hc, ht, hsz, hlen2, hrl, hcell⟩ := hrb.at
            have hmul : (i + (len + rnew.length)) * wd ≤ (i + sCap) * wd := Nat.mul_le_mul_right _ (by omega)
            have hsplit : (i + (len + rnew.length)) * wd = i * wd + len * wd + rnew.length * wd := by rw [Nat.add_mul, Nat.add_mul, Nat.add_assoc]
            have hnl := hsrc.vals.1
            have hbound : o' + i * wd + len * wd + new.length ≤ cs.size := by omega
            have hst := run_storeCells (P := cx.P) c (o' + i * wd + len * wd) ty fz new 0 cs w hc (by omega) ht hsrc.vals.one
            simp only [Nat.add_zero] at hst
            have hrun2 : (execOp a.eval o).run cx.P w = .ok (.value (.slice (some ⟨c, o' + i * wd, none⟩) (len + rnew.length) sCap)) (setW w c (.cells (segA cs (o' + i * wd + len * wd) new) ty fz)) := by
              apply run
              rw [hrun]
              simp only [add_none, hst]
              rfl
            have hblk : BlkAt w ι (segA cs (o' + i * wd + len * wd) new) (o' + i * wd) (.pr wd (rows.drop i ++ rnew)) := by
              refine ⟨?_, fun n r hr' => ?_, fun n r j z hr' hz => ?_⟩
              · rw [segA_size _ _ _ hbound, List.length_append, hlen, Nat.add_mul]; omega
              · rw [List.getElem?_append] at hr'
                split at hr'
                · rw [List.getElem?_drop] at hr'; exact hrl _ _ hr'
                · exact hsrc.vals.2.1 _ _ hr'
              · rw [segA_get _ _ _ hbound]
                rw [List.getElem?_append, hlen] at hr'
                split at hr'
                · rename_i hlt
                  rw [List.getElem?_drop] at hr'
                  have hj : j < wd := by rw [← hrl _ _ hr']; exact (List.getElem?_eq_some_iff.1 hz).1
                  have := row_pos hlt hj
                  rw [if_neg (by omega)]
                  obtain ⟨g1, u, g2, g3⟩ := hcell _ _ j z hr' hz
                  exact ⟨g1, u, by rw [← g2]; congr 1; rw [Nat.add_mul]; omega, g3⟩
                · rename_i hge
                  obtain ⟨g1, u, g2, g3⟩ := hsrc.vals.2.2 _ _ j z hr' hz
                  have hlt := (List.getElem?_eq_some_iff.1 g2).1
                  have e3 : n * wd = len * wd + (n - len) * wd := by rw [← Nat.add_mul]; congr 1; omega
                  rw [if_pos (by omega)]
                  exact ⟨g1, u, by rw [← g2]; congr 1; omega, g3⟩
            obtain ⟨hm, hL⟩ := hr.mem.turn (w' := setW w c (.cells (segA cs (o' + i * wd + len * wd) new) ty fz)) hblt hfx (p := some (c, o' + i * wd, s)) (blk := .pr wd (rows.drop i ++ rnew)) (c := c)
              (.inl ⟨o', s, hb⟩) (fun c' o2 s2 h => by cases h; rfl) (fun d z hd' hz => by rw [setW_ne _ _ hd']; exact hz) (by simp [setW]) ⟨rfl, rfl⟩
              (fun hL => by
                have := (hblk.later_pr hL).rb (ty := ty) (fz := fz) (setW_self w c _ (Array.getElem?_eq_some_iff.1 hc).1) (by rw [segA_size _ _ _ hbound]; exact ht)
                rw [segA_size _ _ _ hbound, hsz] at this
                exact this)
            have hι : ∀ b', b' ≠ b → ∀ q, ι b' = some q → (ι.upd b (some (c, o' + i * wd, s))) b' = some q := fun b' e q hq => by rw [Inj.upd_ne _ _ e]; exact hq
            refine wp_value hrun2 ⟨_, _, Rel.put (st := ⟨killT b st.tmps, setNth (killH b st.heap) b (.pr wd (rows.drop i ++ rnew))⟩) ⟨hm, tm_kill hL hι hr.tm, hr.sz, hr.df⟩ hd ?_, hk⟩
            have := RA.sl (w := setW w c (.cells (segA cs (o' + i * wd + len * wd) new) ty fz)) (ι := ι.upd b (some (c, o' + i * wd, s))) (wd := wd) (i := 0) (len := len + rnew.length) (cc := sCap) (cap := none)
              (Inj.upd_self _ _ _) hneed (by simp) (by rw [Nat.zero_add]; rw [Nat.add_mul] at hs'; omega)
            simpa using this
        · -- into a new block
          obtain ⟨w', cs, cap, h1, h2, h3, h4, h5, h6⟩ := grow old (rows.drop i) rnew new base len sCap hvs hso.vals hlen (fun w' hw' => by
            have := hso.first cx.P len w' (by omega) hw'
            rw [← hlen, ← hso.vals.1, List.take_length, hvs] at this
            rw [hlen] at this; exact this) hsrc (by omega) hroom
          have hpush : w'.heap[w.heap.size]? = some (.cells cs e (0, 0)) := by rw [h1]; exact pushW_new w _
          have hold : ∀ (d : Nat) (x : Obj), w.heap[d]? = some x → w'.heap[d]? = some x := fun d x hx => by rw [h1]; exact pushW_old w _ d x hx
          obtain ⟨hm, hL⟩ := hr.mem.turn (w' := w') hblt hfx (p := some (w.heap.size, 0, cs.size)) (blk := .pr wd (rows.drop i ++ rnew)) (c := w.heap.size)
            (.inr (Nat.le_refl _)) (fun c' o2 s2 h => by cases h; rfl) (fun d z _ hz => hold d z hz) (Ext.size hold) h2
            (fun hL => (h3.later_pr hL).rb hpush (fun o _ h => by omega))
          have hι : ∀ b', b' ≠ b → ∀ q, ι b' = some q → (ι.upd b (some (w.heap.size, 0, cs.size))) b' = some q := fun b' e q hq => by rw [Inj.upd_ne _ _ e]; exact hq
          refine wp_value h6 ⟨_, _, Rel.put (st := ⟨killT b st.tmps, setNth (killH b st.heap) b (.pr wd (rows.drop i ++ rnew))⟩) ⟨hm, tm_kill hL hι hr.tm, hr.sz, hr.df⟩ hd ?_, hk⟩
          have := RA.sl (w := w') (ι := ι.upd b (some (w.heap.size, 0, cs.size))) (wd := wd) (i := 0) (len := len + rnew.length) (cc := cap) (cap := none)
            (Inj.upd_self _ _ _) h4 (by simp) (by simp [h5])
          simpa using this
    · exact h.elim
  · exact h.elim

end
end Hk
