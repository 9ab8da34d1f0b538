/- Hk, part 13: slices that are made. -/
import Derived.Test.YtmgkffdnnjpmpaaHkEff2
namespace Hk
open Go
set_option linter.unusedVariables false
set_option linter.unusedSimpArgs false

/-- Cells of rows, one behind the other. -/
def RowVals (w : World) (M : Nat → Prop) (esz : Nat) (rows : List (List PV)) (vs : List Value) : Prop :=
  vs.length = rows.length * esz ∧ (∀ (i : Nat) row, rows[i]? = some row → row.length = esz) ∧
  ∀ (i : Nat) row (j : Nat) x, rows[i]? = some row → row[j]? = some x → x.one = true ∧ ∃ u, vs[i * esz + j]? = some u ∧ RP w M x u

theorem RowVals.later {w w' : World} {M M' : Nat → Prop} (hL : Later M w w' M') {esz : Nat} {rows : List (List PV)} {vs : List Value} (h : RowVals w M esz rows vs) : RowVals w' M' esz rows vs :=
  ⟨h.1, h.2.1, fun i row j x hi hx => by
    obtain ⟨h1, u, h2, h3⟩ := h.2.2 i row j x hi hx
    exact ⟨h1, u, h2, h3.later hL⟩⟩

theorem row_pos {esz n i j : Nat} (hi : i < n) (hj : j < esz) : i * esz + j < n * esz := by
  have := Nat.mul_le_mul_right esz (show i + 1 ≤ n from hi)
  rw [Nat.add_mul, Nat.one_mul] at this
  omega

theorem row_split {esz n m : Nat} (h : m < n * esz) : ∃ i j, i < n ∧ j < esz ∧ m = i * esz + j := by
  have hpos : 0 < esz := by
    rcases Nat.eq_zero_or_pos esz with h0 | h0
    · subst h0; simp at h
    · exact h0
  refine ⟨m / esz, m % esz, ?_, Nat.mod_lt _ hpos, ?_⟩
  · exact Nat.div_lt_of_lt_mul (by rwa [Nat.mul_comm])
  · rw [Nat.mul_comm]; exact (Nat.div_add_mod m esz).symm

theorem RowVals.one {w : World} {M : Nat → Prop} {esz : Nat} {rows : List (List PV)} {vs : List Value} (h : RowVals w M esz rows vs) : ∀ v ∈ vs, oneC v = true := by
  intro v hv
  obtain ⟨m, hm, rfl⟩ := List.getElem_of_mem hv
  obtain ⟨i, j, hi, hj, rfl⟩ := row_split (by rw [← h.1]; exact hm)
  have hrow := List.getElem?_eq_getElem hi
  have hl := h.2.1 i _ hrow
  have hx : rows[i][j]? = some rows[i][j] := List.getElem?_eq_getElem (by omega)
  obtain ⟨h1, u, h2, h3⟩ := h.2.2 i _ j _ hrow hx
  rw [List.getElem?_eq_getElem hm] at h2
  cases h2
  exact h3.oneCell h1

theorem RowVals.append {w : World} {M : Nat → Prop} {esz : Nat} {r1 r2 : List (List PV)} {v1 v2 : List Value} (h1 : RowVals w M esz r1 v1) (h2 : RowVals w M esz r2 v2) :
    RowVals w M esz (r1 ++ r2) (v1 ++ v2) := by
  refine ⟨by simp [h1.1, h2.1, Nat.add_mul], fun i row hi => ?_, fun i row j x hi hx => ?_⟩
  · rw [List.getElem?_append] at hi
    split at hi
    · exact h1.2.1 _ _ hi
    · exact h2.2.1 _ _ hi
  · rw [List.getElem?_append] at hi
    split at hi
    · rename_i hlt
      obtain ⟨a, u, b, c⟩ := h1.2.2 i row j x hi hx
      refine ⟨a, u, ?_, c⟩
      rw [List.getElem?_append_left]
      · exact b
      · exact (List.getElem?_eq_some_iff.1 b).1
    · rename_i hge
      obtain ⟨a, u, b, c⟩ := h2.2.2 _ row j x hi hx
      refine ⟨a, u, ?_, c⟩
      have e : i * esz + j = v1.length + ((i - r1.length) * esz + j) := by
        rw [h1.1, ← Nat.add_assoc, ← Nat.add_mul]
        congr 2; omega
      rw [e, List.getElem?_append_right (by omega)]
      rw [← b]; congr 1; omega

/-- A block of rows over cells that hold them at their head. -/
theorem RowVals.blk {w : World} {ι : Inj} {esz : Nat} {rows : List (List PV)} {vs : List Value} (h : RowVals w ι.M esz rows vs) (rest : List Value) :
    BlkAt w ι (vs ++ rest).toArray 0 (.pr esz rows) := by
  refine ⟨by simp [h.1], h.2.1, fun i row j x hi hx => ?_⟩
  obtain ⟨h1, u, h2, h3⟩ := h.2.2 i row j x hi hx
  refine ⟨h1, u, ?_, h3⟩
  have := (List.getElem?_eq_some_iff.1 h2).1
  simp only [Nat.zero_add, List.getElem?_toArray]
  rw [List.getElem?_append_left this]; exact h2

section
variable {cx : Cx} {ι ι0 : Inj} {st : St} {a : Act} {w : World}

/-- What a slice's rows are in cells, loaded. -/
theorem RowsAt.vals {v : Value} {esz : Nat} {rows : List (List PV)} (h : RowsAt w ι.M v esz rows) : ∃ vs, RowVals w ι.M esz rows vs ∧
    ∀ (P : Program) n (w' : World), n ≤ rows.length → Ext w w' → (Builtin.firstCells esz n v).run P w' = .ok (vs.take (n * esz)).toArray w' := by
  obtain ⟨oa, cap, rfl, h⟩ := h
  rcases h with rfl | ⟨ad, rfl, hs, hrow⟩
  · refine ⟨[], ⟨by simp, by simp, by simp⟩, fun P n w' hn _ => ?_⟩
    have : n = 0 := by simpa using hn
    subst this
    cases oa <;> simp [Builtin.firstCells, loadCells, loadCellsFrom]
  · have hcell : ∀ m, m < rows.length * esz → ∃ v x, w.cell? ⟨ad.block, ad.off + m, none⟩ = some v ∧ RP w ι.M x v ∧ x.one = true := by
      intro m hm
      obtain ⟨i, j, hi, hj, rfl⟩ := row_split hm
      obtain ⟨h1, h2⟩ := hrow i _ (List.getElem?_eq_getElem hi)
      obtain ⟨h3, v, h4, h5⟩ := h2 j _ (List.getElem?_eq_getElem (by omega))
      exact ⟨v, _, by rw [← Nat.add_assoc]; exact h4, h5, h3⟩
    refine ⟨(List.range (rows.length * esz)).map fun m => (w.cell? ⟨ad.block, ad.off + m, none⟩).getD undef, ⟨by simp, fun i row hi => (hrow i row hi).1, fun i row j x hi hx => ?_⟩, fun P n w' hn hw' => ?_⟩
    · obtain ⟨h1, h2⟩ := hrow i row hi
      obtain ⟨h3, v, h4, h5⟩ := h2 j x hx
      have hi' := (List.getElem?_eq_some_iff.1 hi).1
      have hj' : j < esz := by rw [← h1]; exact (List.getElem?_eq_some_iff.1 hx).1
      refine ⟨h3, v, ?_, h5⟩
      rw [Nat.add_assoc] at h4
      simp [row_pos hi' hj', h4]
    · have hle : n * esz ≤ rows.length * esz := Nat.mul_le_mul_right _ hn
      simp only [Builtin.firstCells]
      rw [run_loadCells (P := P) w' ad (n * esz) (fun m => (w.cell? ⟨ad.block, ad.off + m, none⟩).getD undef) (fun m hm => by
        obtain ⟨v, x, h1, _⟩ := hcell m (by omega)
        rw [add_spot hs, hw'.cell h1, h1]; rfl)]
      rw [← List.map_take, List.take_range, Nat.min_eq_left hle]

/-- A block is laid and some value over it put. -/
theorem lay_sound' (hr : Rel cx ι st a w) {d : Option Nat} (hd : ∀ t, d = some t → t < cx.n) {w' : World} {cs : Array Value} {ty : TypeId} {fz : Nat × Nat} {blk : Blk} {av : AV} {v : Value} {k : St → Prop} {q : Bool}
    (hw' : w'.heap = w.heap.push (.cells cs ty fz)) (hos : w'.os = w.os ∧ w'.output = w.output) (ht : Thaw cs.size fz)
    (hb : BlkAt w ι cs 0 blk) (hv : ∀ (ι' : Inj), ι' st.heap.length = some (w.heap.size, 0, cs.size) → RA w' ι' av v) (hk : k (newSt st d av blk)) :
    After cx q w k (a.put d v) w' := by
  have hold : ∀ (d : Nat) (x : Obj), w.heap[d]? = some x → w'.heap[d]? = some x := fun d x hx => by
    rw [hw']; exact pushW_old w _ d x hx
  have hpush : w'.heap[w.heap.size]? = some (.cells cs ty fz) := by rw [hw']; exact pushW_new w _
  obtain ⟨hm, hL, hι⟩ := hr.mem.lay (w' := w') (c := w.heap.size) (o := 0) (s := cs.size) (blk := blk) (Nat.le_refl _) hold hos
    (fun hL hι => (hb.later hL hι).rb hpush ht)
  refine ⟨⟨_, _, ⟨?_, tm_put (st := ⟨st.tmps, st.heap ++ [blk]⟩) (tm_later hL hι hr.tm) hr.sz hd (hv _ (Inj.upd_self _ _ _)), by rw [Act.put_size]; exact hr.sz, by rw [Act.put_df]; exact hr.df⟩, hk⟩, fun _ => hold⟩
  rw [put_heap]; exact hm

/-! #### A slice literal -/

theorem cDense_sound {l : List (Nat × Operand)} {n : Nat} {ops : List Opd} (h : cDense n l = some ops) : ops.length = l.length ∧ cOpds (l.map (·.2)) = some ops ∧ ∀ (i : Nat) p, l[i]? = some p → p.1 = n + i := by
  induction l generalizing n ops with
  | nil => simp [cDense] at h; subst h; simp [cOpds]
  | cons p r ih =>
    obtain ⟨i, x⟩ := p
    simp only [cDense] at h
    split at h
    · rename_i e
      subst e
      split at h
      · rename_i y l h1 h2
        cases h
        obtain ⟨g1, g2, g3⟩ := ih h2
        refine ⟨by simp [g1], by simp [cOpds, h1, g2], fun i p hp => ?_⟩
        cases i with
        | zero => simp at hp; subst hp; rfl
        | succ i => simp at hp; rw [g3 i p hp]; omega
      · cases h
    · cases h

theorem fill_dense {esz : Nat} : ∀ (parts : List (Nat × Value)) (n : Nat) (cells : Array Value), (∀ (i : Nat) p, parts[i]? = some p → p.1 = n + i) → (∀ p ∈ parts, p.2.cells.size = esz) →
    (n + parts.length) * esz ≤ cells.size →
    ∃ cells', Instr.fill (fun i => some (i * esz, esz)) cells parts = some cells' ∧ cells'.size = cells.size ∧ (∀ m, m < n * esz → cells'[m]? = cells[m]?) ∧
      ∀ (i : Nat) p (j : Nat), parts[i]? = some p → j < esz → cells'[(n + i) * esz + j]? = p.2.cells[j]?
  | [], n, cells, _, _, _ => ⟨cells, rfl, rfl, fun _ _ => rfl, by simp⟩
  | (i0, v) :: r, n, cells, h1, h2, h3 => by
    have e0 : i0 = n := by simpa using h1 0 (i0, v) rfl
    subst e0
    have hv : v.cells.size = esz := h2 (i0, v) (by simp)
    have hlen : (i0 + 1 + r.length) * esz ≤ cells.size := by simp at h3; rw [show i0 + 1 + r.length = i0 + (r.length + 1) by omega]; exact h3
    have hseg : i0 * esz + esz ≤ cells.size := by
      have := Nat.mul_le_mul_right esz (show i0 + 1 ≤ i0 + 1 + r.length by omega)
      rw [Nat.add_mul, Nat.one_mul] at this; omega
    obtain ⟨cells', g1, g2, g3, g4⟩ := fill_dense r (i0 + 1) (v.cells.zipIdx.foldl (fun cs (c, j) => cs.setIfInBounds (i0 * esz + j) c) cells)
      (fun i p hp => by have := h1 (i + 1) p (by simpa using hp); omega) (fun p hp => h2 p (by simp [hp])) (by rw [foldl_set_arr, foldl_set_size]; exact hlen)
    refine ⟨cells', ?_, by rw [g2, foldl_set_arr, foldl_set_size], fun m hm => ?_, fun i p j hp hj => ?_⟩
    · simp only [Instr.fill]
      rw [if_neg]
      · exact g1
      · simp only [Bool.or_eq_true, decide_eq_true_eq, not_or]
        exact ⟨by simp [hv], by omega⟩
    · rw [g3 m (by rw [Nat.add_mul]; omega), foldl_set_arr, foldl_set, if_neg (by omega)]
    · cases i with
      | zero =>
        simp at hp; subst hp
        have e2 : (i0 + 1) * esz = i0 * esz + esz := by rw [Nat.add_mul, Nat.one_mul]
        rw [Nat.add_zero, g3 _ (by omega), foldl_set_arr, foldl_set, if_pos (by simp [hv]; omega)]
        simp
      | succ i =>
        have := g4 i p j (by simpa using hp) hj
        rw [show i0 + (i + 1) = i0 + 1 + i by omega]; exact this

theorem vpureL_ok {x : AV} {k : St → List PV → Prop} (h : vpureL cx.E st (cellsOf x) k) : vok x = true := by
  cases x <;> first | rfl | exact h.elim

theorem vbsl_sound {val : Nat → Value} : ∀ (xs : List AV) (n : Nat) {ι : Inj} {st : St} (hr : Rel cx ι st a w) (hf : Frz ι0 ι st.heap)
    (hx : ∀ (i : Nat) x, xs[i]? = some x → RA w ι0 x (val (n + i))) {k : St → List (List PV) → Prop} (h : vbsl cx.E st xs k),
    ∃ ι' st' rows, k st' rows ∧ Rel cx ι' st' a w ∧ rows.length = xs.length ∧
      (∀ (i : Nat) row, rows[i]? = some row → row.length = (val (n + i)).cells.size ∧ ∀ (j : Nat) y, row[j]? = some y → y.one = true ∧ RP w ι'.M y ((val (n + i)).cells.getD j undef)) ∧
      Frz ι0 ι' st'.heap ∧ Later ι.M w w ι'.M
  | [], n, ι, st, hr, hf, hx, k, h => ⟨ι, st, [], h, hr, rfl, by simp, hf, Later.refl _ _⟩
  | x :: r, n, ι, st, hr, hf, hx, k, h => by
    have h : vpureL cx.E st (cellsOf x) (fun st row => vbsl cx.E st r fun st rows => k st (row :: rows)) := vagg_of h
    have hok := vpureL_ok h
    obtain ⟨hcs, hcv⟩ := cells_sound hok (hx 0 x rfl)
    obtain ⟨ι1, st1, row, h1, hr1, hl1, hp1, hf1, hL1⟩ := vpureL_sound (val := fun j => (val (n + 0)).cells.getD j undef) (cellsOf x) 0 hr hf (fun i y hy => by simpa using (hcv i y hy).2) h
    obtain ⟨ι2, st2, rows, h2, hr2, hl2, hp2, hf2, hL2⟩ := vbsl_sound r (n + 1) hr1 hf1 (fun i x hi => by
      have := hx (i + 1) x (by simpa using hi)
      rw [Nat.add_assoc, Nat.add_comm 1 i]; exact this) h1
    refine ⟨ι2, st2, row :: rows, h2, hr2, by simp [hl2], fun i z hz => ?_, hf2, ⟨fun _ _ _ h => h, fun c hc => ?_, Nat.le_refl _⟩⟩
    · cases i with
      | zero =>
        simp at hz; subst hz
        refine ⟨by rw [hl1]; exact hcs.symm, fun j y hy => ?_⟩
        have g1 := hp1 j y hy
        simp only [Nat.zero_add] at g1
        have hlt : j < (cellsOf x).length := by rw [← hl1]; exact (List.getElem?_eq_some_iff.1 hy).1
        have g2 := (hcv j _ (List.getElem?_eq_getElem hlt)).1
        exact ⟨g1.one_of g2, g1.later hL2⟩
      | succ i =>
        have := hp2 i z (by simpa using hz)
        rw [Nat.add_assoc, Nat.add_comm 1 i] at this; exact this
    · rcases hL2.new c hc with h3 | h3
      · exact hL1.new c h3
      · exact .inr h3

theorem bslice_sound (hr : Rel cx ι st a w) {o : Oper} {t e : TypeId} {len esz : Nat} {parts : Array (Nat × Operand)} {ops : List Opd} (ho : o.op = .buildSlice t len parts)
    (hu : cx.P.underlying t = some (.slice e)) (hs : szT cx.P e = some esz) (hp : cDense 0 parts.toList = some ops) (hlen : ops.length = len) (hsmall : len * esz ≤ 2 ^ 24) (hpos : 0 < esz)
    (hz : (zeroT cx.P e).isSome = true) (hd : ∀ t, o.dst = some t → t < cx.n) {q : Bool} {k : St → Prop} (h : vro cx.E q (.bslice esz ops) o.dst st k)
    {Q : Exit → Act → World → Prop} : o.wp cx.P a w (After cx q w k) Q := by
  obtain ⟨d1, d2, d3⟩ := cDense_sound hp
  obtain ⟨e1, e2⟩ := evL_sound hr.tm d2
  obtain ⟨z, hz⟩ := Option.isSome_iff_exists.1 hz
  obtain ⟨i0, v0, hi0, hz0, _, _, hzs⟩ := zeroT_sound (w := w) (ι := ι) hz
  obtain ⟨ι', st', rows, ⟨hrl, hk⟩, hr', hl', hrows, hf, hL⟩ := vbsl_sound (val := fun i => ((parts.toList.map (·.2)).map a.eval).toArray.getD i undef) (evL st ops) 0 hr (Frz.refl _ _) (fun i x hx => by simpa using e2 i x hx) h
  have hn : rows.length = len := by rw [hl', e1]; simp at d1 ⊢; omega
  let pv : List (Nat × Value) := parts.toList.map fun p => (p.1, a.eval p.2)
  have hpl : pv.length = len := by simp [pv]; simp at d1; omega
  have hval : ∀ i p, pv[i]? = some p → ((parts.toList.map (·.2)).map a.eval).toArray.getD i undef = p.2 := fun i p hp => by
    have h1 : ((parts.toList.map (·.2)).map a.eval)[i]? = some p.2 := by
      simp only [pv, List.getElem?_map] at hp ⊢
      obtain ⟨x, hx, rfl⟩ := Option.map_eq_some_iff.1 hp
      rw [hx]; rfl
    simp only [Array.getD_eq_getD_getElem?, List.getElem?_toArray, h1, Option.getD_some]
  have hsz : ∀ p ∈ pv, p.2.cells.size = esz := fun p hp => by
    obtain ⟨i, hi, rfl⟩ := List.getElem_of_mem hp
    have g := hval i _ (List.getElem?_eq_getElem hi)
    have hi' : i < rows.length := by rw [hn, ← hpl]; exact hi
    have := (hrows i _ (List.getElem?_eq_getElem hi')).1
    simp only [Nat.zero_add] at this
    rw [g] at this
    rw [← this]; exact hrl _ (List.getElem_mem hi')
  obtain ⟨cells', g1, g2, g3, g4⟩ := fill_dense (esz := esz) pv 0 ((Array.range (len * esz)).map fun i => (if len * esz = 0 then (#[] : Array Value) else v0.cells)[i % (if len * esz = 0 then (#[] : Array Value) else v0.cells).size]!)
    (fun i p hp => by
      simp only [pv, List.getElem?_map] at hp
      obtain ⟨x, hx, rfl⟩ := Option.map_eq_some_iff.1 hp
      exact d3 i x hx) hsz (by simp [hpl])
  have hrun : (execOp a.eval o).run cx.P w = .ok (.value (.slice (some ⟨w.heap.size, 0, none⟩) len len)) (pushW w (.cells cells' e)) := by
    have hfill : Instr.fill (fun i => some (i * esz, esz)) ((Array.range (len * esz)).map fun i => (if len * esz = 0 then (#[] : Array Value) else v0.cells)[i % (if len * esz = 0 then (#[] : Array Value) else v0.cells).size]!)
        (parts.map fun (i, x) => (i, a.eval x)).toList = some cells' := by
      rw [← g1]; simp [pv]
    by_cases h0 : len * esz = 0
    · simp only [h0, if_true] at hfill
      simp only [execOp, ho, Instr.buildSlice, Sem.run_bind, run_underlying hu, Result.andThen_ok, run_sizeOf hs, h0, if_true, Sem.run_pure, hfill, newRow, run_newObj, gt_iff_lt, Nat.not_lt_zero, if_false]
      rfl
    · simp only [h0, if_false] at hfill
      simp only [execOp, ho, Instr.buildSlice, Sem.run_bind, run_underlying hu, Result.andThen_ok, run_sizeOf hs, if_neg (show ¬ len * esz > 2 ^ 24 by omega), h0, if_false, Sem.run_pure, run_zeroValue hi0 hz0, hfill, newRow, run_newObj]
      rfl
  have hrv : RowVals w ι'.M esz rows cells'.toList := by
    refine ⟨by simp [g2, hn], fun i row hi => hrl _ (List.mem_of_getElem? hi), fun i row j x hi hx => ?_⟩
    obtain ⟨q1, q2⟩ := hrows i row hi
    obtain ⟨q3, q4⟩ := q2 j x hx
    have hi' : i < pv.length := by rw [hpl, ← hn]; exact (List.getElem?_eq_some_iff.1 hi).1
    have hj' : j < esz := by rw [← hrl _ (List.mem_of_getElem? hi)]; exact (List.getElem?_eq_some_iff.1 hx).1
    have g5 := g4 i _ j (List.getElem?_eq_getElem hi') hj'
    have g6 := hval i _ (List.getElem?_eq_getElem hi')
    simp only [Nat.zero_add] at q4 g5
    rw [g6] at q4
    have hsz' := hsz _ (List.getElem_mem hi')
    refine ⟨q3, pv[i].2.cells.getD j undef, ?_, q4⟩
    rw [Array.getElem?_toList, g5]
    simp [hsz', hj']
  have hb := hrv.blk []
  simp only [List.append_nil, Array.toArray_toList] at hb
  obtain ⟨hkc, hext⟩ := lay_sound' (q := q) hr' hd (w' := pushW w (.cells cells' e)) (fz := (0, 0)) rfl ⟨rfl, rfl⟩ (fun o _ h => by omega) hb
    (av := .sl st'.heap.length esz 0 rows.length (some rows.length)) (v := .slice (some ⟨w.heap.size, 0, none⟩) len len) (fun ι2 h2 => by
      have := RA.sl (w := pushW w (.cells cells' e)) (ι := ι2) (wd := esz) (i := 0) (len := len) (cc := len) (cap := some len) h2 (Nat.le_refl _) (fun k hk => by cases hk; rfl) (by simp [g2])
      simpa [hn] using this) hk
  exact wp_value hrun ⟨hkc, hext⟩

end
end Hk
